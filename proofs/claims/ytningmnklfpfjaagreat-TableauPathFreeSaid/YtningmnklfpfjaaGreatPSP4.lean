/- A part of the proof: the framework, the plain functions, the followed functions, the plain laws. -/
import Derived.Test.YtningmnklfpfjaaGreatPSP3
set_option linter.unusedVariables false
set_option linter.unusedSimpArgs false
set_option linter.unusedSectionVars false
namespace Go.Proofs.YtningmnklfpfjaaGreat
section
open Go.Fw Go.Fw.Z Go.RowKit
theorem kF{x0:List (List Qr)}{r:Bool}(h:kf x0=some r):Pure ah 33 [slc 1 (List.map (eS 4 eQ) x0)] (az r):=by
 refine bD Tryz.func33 Y (af Y) (λeI M vs hvs=>?_);unfold kf at h;refine sr<|ag Y<|dn<|qq<|sr<|ag Y<|dn<|bE h λOe EV As=>?_;refine bU (λ(Xg:Unit)=>AS.cL 23 [] [] []) (λXg=>.inl Xg=Oe) ?_ (λXg EW=>?_);refine bj ?_;refine bV EV (λEO=>AS.cL 23 [(0,.sv (slc 1 (List.map (eS 4 eQ) x0))),(3,ai EO)] [] []) (wR []) (λMx y10 G10 h EX BO=>?_)
 try dsimp only
 refine qq<|sr<|mv Y<|mv Y<|lE h λx6 h6 h=>ln Y h6<|lE h λx7 h7 h=>ls _ Y Y h7<|dn ?_;cases x7;refine cF<|b9<|aV.x<|aV.x<|bG.x<|aV.n ?_;obtain rfl:=O (F h);exact⟨(),BO _ Y,wR []⟩;refine cT<|bC<|aV.n<|qq<|bj<|qq ?_;refine bH (V h) (λMg=>AS.cL 23 [(0,.sv (slc 1 (List.map (eS 4 eQ) x0))),(3,ai Mx),(22,aj Mg)] [] []) (λh=>?_) (λJ8 h=>?_);refine aW<|mv Y<|mv Y<|bE h λeX iz h=>ix Y Y iz<|lr Y Y<|lE h λga lB h=>ln Y lB<|lE h λe9 jB h=>gt _ Y Y jB<|mv Y<|bE h λPy ey h=>?_;cases e9;refine gm Y<|gm Y<|bE (F ey) λmm n7 ey=>RT.Ro (.some Y Y) Y Y T n7<|gr Y Y<|bE ey λiv o6 ey=>gc (Dv o6) ⟨Y,aq⟩ ?_;obtain rfl:=O ey;exact pF Y<|dn<|⟨iv,h,wR []⟩;obtain rfl:=O (V ey);exact ww<|ww<|ww<|ww<|ww<|pT Y<|dn<|⟨true,h,wR []⟩
 try dsimp only
 refine aV.n ?_;cases J8;refine cF<|bC<|bG.n<|aV.n<|aW<|mv Y<|lE (F h) λx9 h9 h=>ad _ Y Y h9<|ag Y<|RT.done ?_;obtain rfl:=O h;exact aV.n ⟨x9,EX _ Y,wR []⟩;refine cT<|sr<|ag Y<|dn<|bf<|bG.r<|aV.r ?_;obtain rfl:=O (V h);have agN:=BO _ Y;subst agN;refine aV.r<|bG.r<|aV.r<|aV.r ?_;obtain rfl:=O As;exact R1 Y;subst EW
 try dsimp only
 refine aV.n<|sr<|ag Y<|dn<|bf ?_;obtain rfl:=O As;exact R1 Y
theorem jm{x0:List (List (List Qr))}{r:Bool}(h:kg x0=some r):Pure ah 98 [slc 1 (List.map (eS 1 (eS 4 eQ)) x0)] (az r):=by
 refine bD Tryz.func98 Y (af Y) (λeI M vs hvs=>?_);unfold kg at h;refine sr<|ag Y<|dn<|qq<|sr<|ag Y<|dn<|bE h λMw J2 mN=>?_;refine bU (λ(Cv:Unit)=>AS.cL 31 [] [] []) (λCv=>.inl Cv=Mw) ?_ (λCv J3=>?_);refine bj ?_;refine bV J2 (λM8=>AS.cL 31 [(0,.sv (slc 1 (List.map (eS 1 (eS 4 eQ)) x0))),(3,ai M8)] [] []) (wR []) (λuV y16 G16 h J4 Ds=>?_)
 try dsimp only
 refine qq<|sr<|mv Y<|mv Y<|lE h λx6 h6 h=>ln Y h6<|lE h λx7 h7 h=>ls _ Y Y h7<|dn ?_;cases x7;refine cF<|b9<|aV.x<|aV.x<|bG.x<|aV.n ?_;obtain rfl:=O (F h);exact⟨(),Ds _ Y,wR []⟩;refine cT<|bC<|aV.n<|qq<|bj<|qq ?_;refine bH (V h) (λj22=>AS.cL 31 [(0,.sv (slc 1 (List.map (eS 1 (eS 4 eQ)) x0))),(3,ai uV),(30,aj j22)] [] []) (λh=>?_) (λJ9 h=>?_);refine aW<|mv Y<|mv Y<|bE h λeX iz h=>ix Y Y iz<|lr Y Y<|lE h λga lB h=>ln Y lB<|lE h λe9 jB h=>gt _ Y Y jB<|mv Y<|bE h λFy rM h=>?_;cases e9;refine gm Y<|gm Y<|bE (F rM) λmm n7 rM=>RT.Ro (.some Y Y) Y Y T n7<|gr Y Y<|bE rM λiv o6 rM=>gc (vG o6) ⟨Y,aq⟩<|lE rM λkq qJ rM=>gg _ Y Y qJ ?_;obtain rfl:=O rM;refine pF Y<|mv Y<|bE h λagO tN h=>?_;cases kq;refine gm Y<|gm Y<|bE (F tN) λnn vr tN=>RT.Ro (.some Y Y) Y Y T vr<|gr Y Y<|bE tN λjq nW tN=>gc (kF nW) ⟨Y,aq⟩ ?_;obtain rfl:=O tN;exact pF Y<|dn<|⟨jq,h,wR []⟩;obtain rfl:=O (V tN);exact ww<|ww<|ww<|ww<|ww<|pT Y<|dn<|⟨true,h,wR []⟩;obtain rfl:=O (V rM);refine ww<|ww<|ww<|ww<|ww<|ww<|pT Y<|mv Y<|bE h λagP wZ h=>?_;obtain rfl:=O (V wZ);exact ww<|ww<|ww<|ww<|ww<|pT Y<|dn<|⟨true,h,wR []⟩
 try dsimp only
 refine aV.n ?_;cases J9;refine cF<|bC<|bG.n<|aV.n<|aW<|mv Y<|lE (F h) λx9 h9 h=>ad _ Y Y h9<|ag Y<|RT.done ?_;obtain rfl:=O h;exact aV.n ⟨x9,J4 _ Y,wR []⟩;refine cT<|sr<|ag Y<|dn<|bf<|bG.r<|aV.r ?_;obtain rfl:=O (V h);have Pt:=Ds _ Y;subst Pt;refine aV.r<|bG.r<|aV.r<|aV.r ?_;obtain rfl:=O mN;exact R1 Y;subst J3
 try dsimp only
 refine aV.n<|sr<|ag Y<|dn<|bf ?_;obtain rfl:=O mN;exact R1 Y
theorem Cw{r:Lr}(h:m7=some r):Pure ah 53 [] (.agg (Jm r)):=by
 refine bD Tryz.func53 Y (af Y) (λeI M vs hvs=>?_);unfold m7 at h;refine sr<|al (cs:=[ay 0,slc 1 (List.map (eS 4 eQ) []),slc 1 (List.map (eS 4 eQ) []),slc 4 (List.map eQ [])]) (by exact⟨au,aB,aB,aB,aq⟩) Y<|dn<|sr<|bl (l:=[3,5]) (e:=bT) (.one Y (.one Y (.nil))) Y Y Y Y Y Y<|bl (l:=[[3,5]]) (e:=(eS 1 bT)) (.one Y (.nil)) Y Y Y Y Y Y<|bE h λx3 h3 h=>cl (r5 h3) ⟨Y,aq⟩<|bl (l:=[1,0]) (e:=bT) (.one Y (.one Y (.nil))) Y Y Y Y Y Y ?_;refine bl (l:=[0,2]) (e:=bT) (.one Y (.one Y (.nil))) Y Y Y Y Y Y<|bl (l:=[3,2]) (e:=bT) (.one Y (.one Y (.nil))) Y Y Y Y Y Y<|bl (l:=[[1,0],[0,2],[3,2]]) (e:=(eS 1 bT)) (.one Y (.one Y (.one Y (.nil)))) Y Y Y Y Y Y<|bE h λx8 h8 h=>cl (r5 h8) ⟨Y,aq⟩<|bl (l:=[4,12,18]) (e:=bT) (.one Y (.one Y (.one Y (.nil)))) Y Y Y Y Y Y<|bE h λeY iO h=>cl (ef iO) ⟨Y,aq⟩ ?_;refine bI (cs:=[_,_,_,_]) (cs':=[ay 2,slc 1 (List.map (eS 4 eQ) x3),slc 1 (List.map (eS 4 eQ) x8),slc 4 (List.map eQ eY)]) (.one Y (.one Y (.one Y (.one Y (.nil))))) ⟨au,au,au,au,aq⟩<|so Y Y Y<|dn<|bf ?_;obtain rfl:=O h;exact RZ (.agg Y Y (.k4 Y Y Y Y) Y (.nil))
theorem Dw{x0:List (List Qr)}{r:Bool}(h:lX x0=some r):Pure ah 97 [slc 1 (List.map (eS 4 eQ) x0)] (az r):=by
 refine bD Tryz.func97 Y (af Y) (λeI M vs hvs=>?_);unfold lX at h;refine sr<|ag Y<|dn<|qq<|sr<|ag Y<|dn<|bE h λe6 Di nx=>?_;refine bU (λ(EY:Unit)=>AS.cL 16 [] [] []) (λEY=>.inl EY=e6) ?_ (λEY Dj=>?_);refine bj ?_;refine bV Di (λs6=>AS.cL 16 [(0,.sv (slc 1 (List.map (eS 4 eQ) x0))),(3,ai s6)] [] []) (wR []) (λqc y6 G6 h Dk yW=>?_)
 try dsimp only
 refine qq<|sr<|mv Y<|mv Y<|lE h λx6 h6 h=>ln Y h6<|lE h λx7 h7 h=>ls _ Y Y h7<|dn ?_;cases x7;refine cF<|b9<|aV.x<|aV.x<|bG.x<|aV.n ?_;obtain rfl:=O (F h);exact⟨(),yW _ Y,wR []⟩;refine cT<|bC<|aV.n<|qq<|bj<|sr<|mv Y<|mv Y<|bE (V h) λeX iz h=>ix Y Y iz<|lr Y Y<|lE h λga lB h=>ln Y lB<|lE h λe9 jB h=>gt _ Y Y jB<|dn ?_;cases e9;refine cF<|bC<|bG.n<|aV.n<|aW<|mv Y<|lE (F h) λx9 h9 h=>ad _ Y Y h9<|ag Y<|RT.done ?_;obtain rfl:=O h;exact aV.n ⟨x9,Dk _ Y,wR []⟩;refine cT<|sr<|ag Y<|dn<|bf<|bG.r<|aV.r ?_;obtain rfl:=O (V h);have Of:=yW _ Y;subst Of;refine aV.r<|bG.r<|aV.r<|aV.r ?_;obtain rfl:=O nx;exact R1 Y;subst Dj
 try dsimp only
 refine aV.n<|sr<|ag Y<|dn<|bf ?_;obtain rfl:=O nx;exact R1 Y
theorem oc{x0:List Qr}{r:List Qr}(h:nD x0=some r):Pure ah 99 [slc 4 (List.map eQ x0)] (slc 4 (List.map eQ r)):=by
 refine bD Tryz.func99 Y (af Y) (λeI M vs hvs=>?_);unfold nD at h;refine sr<|aI Y (aB (n:=4) (e:=eQ))<|dn<|sr<|mv Y<|mv Y<|lE h λx5 h5 h=>ln Y h5<|lE h λx6 h6 h=>RT.min .none _ Y Y T (Vw (p:=x5) (q:=20) h6)<|bE h λx7 h7 h=>RT.Jn .none 0 x6 Y Y ⟨_,Y⟩ T h7<|ag Y<|dn<|bf ?_;obtain rfl:=O h;exact R1 Y
set_option maxHeartbeats 4000000 in
theorem Dx{x0:Lr}{r:Bool}(h:lY x0=some r):Pure ah 52 [.agg (Jm x0)] (az r):=by
 obtain⟨bu,bw,bF,bJ⟩:=x0;refine bD Tryz.func52 Y (af Y) (λeI M vs hvs=>?_);unfold lY at h;refine sr<|bx Y<|ag Y<|dn<|qq ?_;refine bH h (λj59=>AS.cL 56 [(2,aj j59)] [] []) (λh=>?_) (λUE h=>?_);refine aW<|fa Y Y<|lV Y Y Y<|lE h λx5 h5 h=>ln Y h5<|lE h λx6 h6 h=>gt _ Y Y h6<|mv Y<|bE h λPz HZ h=>?_;cases x6;refine RT.fieldAddr (.some Y Y) Y T Y<|RT.rB (.some Y Y) Y Y Y T<|lE (F HZ) λeY iO HZ=>gn Y iO<|lE HZ λjC qH HZ=>gg _ Y Y qH ?_;obtain rfl:=O HZ;refine pF Y<|mv Y<|bE h λagQ H6 h=>?_;cases jC;refine RT.fieldAddr (.some Y Y) Y T Y<|RT.rB (.some Y Y) Y Y Y T<|lE (F H6) λjD n8 H6=>gn Y n8<|lE H6 λgW nL H6=>gg _ Y Y nL ?_;obtain rfl:=O H6;refine pF Y<|mv Y<|bE h λagR Cx h=>?_;cases gW;refine RT.fieldAddr (.some Y Y) Y T Y<|RT.rB (.some Y Y) Y Y Y T<|lE (F Cx) λkq qJ Cx=>gn Y qJ<|lE Cx λku sZ Cx=>gg _ Y Y sZ<|gm Y<|bE Cx λagS H7 Cx=>?_;cases ku;obtain rfl:=O (F H7);refine ww<|ww<|ww<|ww<|gF Y ?_;obtain rfl:=O Cx;refine pF Y<|mv Y<|bE h λagT Dy h=>RT.fieldAddr (.some Y Y) Y T Y<|RT.rB (.some Y Y) Y Y Y T<|lE (F Dy) λoq uS Dy=>gn Y uS<|lE Dy λot yX Dy=>RT.leq (.some Y Y) _ Y Y T yX<|gm Y<|bE Dy λagU My Dy=>?_;cases ot;obtain rfl:=O (F My);refine ww<|ww<|ww<|ww<|gF Y ?_;obtain rfl:=O Dy
 refine pF Y<|mv Y<|bE h λagV sq h=>RT.fieldAddr (.some Y Y) Y T Y<|RT.rB (.some Y Y) Y Y Y T<|RT.gi (l:=[bw]) (e:=(eS 1 (eS 4 eQ))) (.some Y Y) (.one Y (.nil)) T Y Y Y Y Y Y<|bE (F sq) λwm BR sq=>gc (jm BR) ⟨Y,aq⟩ ?_;obtain rfl:=O sq;refine pF Y<|mv Y<|bE h λagW yj h=>?_;cases wm;refine RT.fieldAddr (.some Y Y) Y T Y<|RT.rB (.some Y Y) Y Y Y T<|bE (F yj) λwv Dl yj=>gc (oc Dl) ⟨Y,aq⟩<|RT.gi (l:=[wv]) (e:=(eS 4 eQ)) (.some Y Y) (.one Y (.nil)) T Y Y Y Y Y Y<|bE yj λAr I3 yj=>gc (kF I3) ⟨Y,aq⟩ ?_;obtain rfl:=O yj;exact pF Y<|ag Y<|dn<|⟨Ar,h,wR []⟩;obtain rfl:=O (V yj);exact ww<|ww<|ww<|ww<|ww<|pT Y<|ag Y<|dn<|⟨true,h,wR []⟩;refine RT.fieldAddr (.some Y Y) Y T Y<|RT.rB (.some Y Y) Y Y Y T<|RT.gi (l:=[bF]) (e:=(eS 1 (eS 4 eQ))) (.some Y Y) (.one Y (.nil)) T Y Y Y Y Y Y<|bE (V My) λmX sx My=>gc (jm sx) ⟨Y,aq⟩ ?_;obtain rfl:=O My;refine gT Y ?_;obtain rfl:=O Dy;refine pF Y<|mv Y<|bE h λagX w5 h=>?_;cases mX;refine RT.fieldAddr (.some Y Y) Y T Y<|RT.rB (.some Y Y) Y Y Y T<|RT.gi (l:=[bw]) (e:=(eS 1 (eS 4 eQ))) (.some Y Y) (.one Y (.nil)) T Y Y Y Y Y Y<|bE (F w5) λwm BR w5=>gc (jm BR) ⟨Y,aq⟩ ?_;obtain rfl:=O w5;refine pF Y<|mv Y<|bE h λagY Cy h=>?_;cases wm
 refine RT.fieldAddr (.some Y Y) Y T Y<|RT.rB (.some Y Y) Y Y Y T<|bE (F Cy) λwv Dl Cy=>gc (oc Dl) ⟨Y,aq⟩<|RT.gi (l:=[wv]) (e:=(eS 4 eQ)) (.some Y Y) (.one Y (.nil)) T Y Y Y Y Y Y<|bE Cy λAr I3 Cy=>gc (kF I3) ⟨Y,aq⟩ ?_;obtain rfl:=O Cy;exact pF Y<|ag Y<|dn<|⟨Ar,h,wR []⟩;obtain rfl:=O (V Cy);exact ww<|ww<|ww<|ww<|ww<|pT Y<|ag Y<|dn<|⟨true,h,wR []⟩;obtain rfl:=O (V w5);refine ww<|ww<|ww<|ww<|pT Y<|mv Y<|bE h λagZ Xh h=>?_;obtain rfl:=O (V Xh);exact ww<|ww<|ww<|ww<|ww<|pT Y<|ag Y<|dn<|⟨true,h,wR []⟩;refine RT.fieldAddr (.some Y Y) Y T Y<|RT.rB (.some Y Y) Y Y Y T<|bE (V H7) λnn vr H7=>gc (Dw vr) ⟨Y,aq⟩<|lE H7 λoY wE H7=>IY Y _ wE ?_;obtain rfl:=O H7;refine gT Y ?_;obtain rfl:=O Cx;refine pF Y<|mv Y<|bE h λag0 Cz h=>?_;cases oY;refine RT.fieldAddr (.some Y Y) Y T Y<|RT.rB (.some Y Y) Y Y Y T<|lE (F Cz) λoq uS Cz=>gn Y uS<|lE Cz λot yX Cz=>RT.leq (.some Y Y) _ Y Y T yX<|gm Y<|bE Cz λag1 Mz Cz=>?_;cases ot;obtain rfl:=O (F Mz);refine ww<|ww<|ww<|ww<|gF Y ?_;obtain rfl:=O Cz;refine pF Y<|mv Y<|bE h λag2 Xi h=>RT.fieldAddr (.some Y Y) Y T Y<|RT.rB (.some Y Y) Y Y Y T<|RT.gi (l:=[bw]) (e:=(eS 1 (eS 4 eQ))) (.some Y Y) (.one Y (.nil)) T Y Y Y Y Y Y<|bE (F Xi) λwm BR Xi=>gc (jm BR) ⟨Y,aq⟩ ?_
 obtain rfl:=O Xi;refine pF Y<|mv Y<|bE h λag3 qf h=>?_;cases wm;refine RT.fieldAddr (.some Y Y) Y T Y<|RT.rB (.some Y Y) Y Y Y T<|bE (F qf) λwv Dl qf=>gc (oc Dl) ⟨Y,aq⟩<|RT.gi (l:=[wv]) (e:=(eS 4 eQ)) (.some Y Y) (.one Y (.nil)) T Y Y Y Y Y Y<|bE qf λAr I3 qf=>gc (kF I3) ⟨Y,aq⟩ ?_;obtain rfl:=O qf;exact pF Y<|ag Y<|dn<|⟨Ar,h,wR []⟩;obtain rfl:=O (V qf);exact ww<|ww<|ww<|ww<|ww<|pT Y<|ag Y<|dn<|⟨true,h,wR []⟩;refine RT.fieldAddr (.some Y Y) Y T Y<|RT.rB (.some Y Y) Y Y Y T<|RT.gi (l:=[bF]) (e:=(eS 1 (eS 4 eQ))) (.some Y Y) (.one Y (.nil)) T Y Y Y Y Y Y<|bE (V Mz) λmX sx Mz=>gc (jm sx) ⟨Y,aq⟩ ?_;obtain rfl:=O Mz;refine gT Y ?_;obtain rfl:=O Cz;refine pF Y<|mv Y<|bE h λag4 MA h=>?_;cases mX;refine RT.fieldAddr (.some Y Y) Y T Y<|RT.rB (.some Y Y) Y Y Y T<|RT.gi (l:=[bw]) (e:=(eS 1 (eS 4 eQ))) (.some Y Y) (.one Y (.nil)) T Y Y Y Y Y Y<|bE (F MA) λwm BR MA=>gc (jm BR) ⟨Y,aq⟩ ?_;obtain rfl:=O MA;refine pF Y<|mv Y<|bE h λag5 H8 h=>?_;cases wm;refine RT.fieldAddr (.some Y Y) Y T Y<|RT.rB (.some Y Y) Y Y Y T<|bE (F H8) λwv Dl H8=>gc (oc Dl) ⟨Y,aq⟩<|RT.gi (l:=[wv]) (e:=(eS 4 eQ)) (.some Y Y) (.one Y (.nil)) T Y Y Y Y Y Y<|bE H8 λAr I3 H8=>gc (kF I3) ⟨Y,aq⟩ ?_;obtain rfl:=O H8
 exact pF Y<|ag Y<|dn<|⟨Ar,h,wR []⟩;obtain rfl:=O (V H8);exact ww<|ww<|ww<|ww<|ww<|pT Y<|ag Y<|dn<|⟨true,h,wR []⟩;obtain rfl:=O (V MA);refine ww<|ww<|ww<|ww<|pT Y<|mv Y<|bE h λag6 Xj h=>?_;obtain rfl:=O (V Xj);exact ww<|ww<|ww<|ww<|ww<|pT Y<|ag Y<|dn<|⟨true,h,wR []⟩;obtain rfl:=O (V Cz);refine ww<|ww<|ww<|ww<|ww<|wu<|wu<|wu<|wu<|ww<|pT Y<|mv Y<|bE h λag7 AF h=>?_;obtain rfl:=O (V AF);refine ww<|ww<|ww<|ww<|pT Y<|mv Y<|bE h λag8 MB h=>?_;obtain rfl:=O (V MB);exact ww<|ww<|ww<|ww<|ww<|pT Y<|ag Y<|dn<|⟨true,h,wR []⟩;obtain rfl:=O (V Cx);refine ww<|ww<|ww<|ww<|ww<|wu<|wu<|wu<|wu<|ww<|pT Y<|mv Y<|bE h λag9 aha h=>?_;obtain rfl:=O (V aha);refine ww<|ww<|ww<|ww<|ww<|wu<|wu<|wu<|wu<|ww<|pT Y<|mv Y<|bE h λahb ahc h=>?_;obtain rfl:=O (V ahc);refine ww<|ww<|ww<|ww<|pT Y<|mv Y<|bE h λadh aaT h=>?_;obtain rfl:=O (V aaT);exact ww<|ww<|ww<|ww<|ww<|pT Y<|ag Y<|dn<|⟨true,h,wR []⟩;obtain rfl:=O (V H6);refine ww<|ww<|ww<|ww<|pT Y<|mv Y<|bE h λadi aaU h=>?_;obtain rfl:=O (V aaU);refine ww<|ww<|ww<|ww<|ww<|wu<|wu<|wu<|wu<|ww<|pT Y<|mv Y<|bE h λadj aaV h=>?_;obtain rfl:=O (V aaV);refine ww<|ww<|ww<|ww<|ww<|wu<|wu<|wu<|wu<|ww<|pT Y<|mv Y<|bE h λadk aaW h=>?_;obtain rfl:=O (V aaW)
 refine ww<|ww<|ww<|ww<|pT Y<|mv Y<|bE h λadl aaX h=>?_;obtain rfl:=O (V aaX);exact ww<|ww<|ww<|ww<|ww<|pT Y<|ag Y<|dn<|⟨true,h,wR []⟩;obtain rfl:=O (V HZ);refine ww<|ww<|ww<|ww<|pT Y<|mv Y<|bE h λadm aaY h=>?_;obtain rfl:=O (V aaY);refine ww<|ww<|ww<|ww<|pT Y<|mv Y<|bE h λadn aaZ h=>?_;obtain rfl:=O (V aaZ);refine ww<|ww<|ww<|ww<|ww<|wu<|wu<|wu<|wu<|ww<|pT Y<|mv Y<|bE h λado aa0 h=>?_;obtain rfl:=O (V aa0);refine ww<|ww<|ww<|ww<|ww<|wu<|wu<|wu<|wu<|ww<|pT Y<|mv Y<|bE h λadp aa1 h=>?_;obtain rfl:=O (V aa1);refine ww<|ww<|ww<|ww<|pT Y<|mv Y<|bE h λadq aa2 h=>?_;obtain rfl:=O (V aa2);exact ww<|ww<|ww<|ww<|ww<|pT Y<|ag Y<|dn<|⟨true,h,wR []⟩
 try dsimp only
 refine aV.n<|bf ?_;obtain rfl:=O h;exact R1 Y
end
section
open Go.Fw
noncomputable def gQ(x0:List Int)(x1:List Int):Option (Bool):=(some (x0.length:Int)).bind λx7=>(some (x1.length:Int)).bind λx9=>(some (decide ((x7:Int)≠x9))).bind λeY=>(bif eY then some false else(cy (λ(r9:Int)=>(show Option ((Int)⊕((Unit)⊕(Bool)))from(some (x0.length:Int)).bind λjv=>(some (decide ((r9:Int)<jv))).bind λga=>(bif ga then(cU x0 r9).bind λmm=>(cU x1 r9).bind λku=>(some (decide ((mm:Int)≠ku))).bind λvi=>(bif vi then some (.inr (.inr false))else(some (IntKind.i64.wrap (r9+1))).bind λjD=>some (.inl jD))else some (.inr (.inl ()))))) 0).bind λe6=>match e6 with|.inr v6=>some v6|.inl _=>some true)
noncomputable def dZ:Option (Bool):=(m7).bind λ⟨aa3,aa4,aa5,aa6⟩=>(g9 ⟨aa3,aa4,aa5,aa6⟩).bind λ⟨uW,uX,MC,MD,ME⟩=>cK (λ(PA:Bool)=>(bif PA then some false else(bp uW uX MC MD ME 1 1).bind λ⟨mX,YT,QY,YU⟩=>cK (λ(Ka:Bool)=>(bif Ka then some false else(bp uW uX YT QY YU 2 0).bind λ⟨UF,YV,YW,YX⟩=>cK (λ(UG:Bool)=>some UG) λK53=>(some (decide ((UF:Int)=0))).bind λI1=>(bif I1 then(fP (⟨uW,uX,YV,YW,YX⟩:Tb)).bind λKR=>(c6 [2,6,2]).bind λI5=>(dA KR I5).bind λL7=>some L7 else some false).bind λPB=>(bif PB then(fK (⟨uW,uX,YV,YW,YX⟩:Tb)).bind λx76=>(c6 [2,6]).bind λSf=>(dA x76 Sf).bind λI2=>some I2 else some false).bind λXk=>(bif Xk then(jR (⟨uW,uX,YV,YW,YX⟩:Tb)).bind λQZ=>(c6 [36,(-2),(-6)]).bind λZL=>(dA QZ ZL).bind λQX=>some QX else some false).bind λXl=>(bif Xl then(gZ (⟨uW,uX,YV,YW,YX⟩:Tb)).bind λRJ=>some RJ else some false).bind λXm=>(bif Xm then(iF (⟨uW,uX,YV,YW,YX⟩:Tb)).bind λMF=>some MF else some false).bind λXn=>K53 Xn)) λK26=>(some (decide ((mX:Int)≠0))).bind λqm=>(bif qm then some true else(fP (⟨uW,uX,YT,QY,YU⟩:Tb)).bind λyz=>(c6 [4,6,6]).bind λwm=>(dA yz wm).bind λsu=>(some (!su)).bind λI0=>some I0).bind λPC=>(bif PC then some true else(jR (⟨uW,uX,YT,QY,YU⟩:Tb)).bind λLc=>(c6 [30,0,(-6)]).bind λyA=>(dA Lc yA).bind λDf=>(some (!Df)).bind λRF=>some RF).bind λXo=>(bif Xo then some true else(gZ (⟨uW,uX,YT,QY,YU⟩:Tb)).bind λGe=>some Ge).bind λXp=>K26 Xp)) λUo=>(bif false then none else some false).bind λPD=>(bif PD then some true else(ez (⟨uW,uX,MC,MD,ME⟩:Tb)).bind λgX=>(gQ gX [2,3,4]).bind λja=>(some (!ja)).bind λiv=>some iv).bind λXq=>(bif Xq then some true else(fP (⟨uW,uX,MC,MD,ME⟩:Tb)).bind λvi=>(c6 [4,12,18]).bind λnn=>(dA vi nn).bind λoY=>(some (!oY)).bind λjq=>some jq).bind λXr=>(bif Xr then some true else(dH (⟨uW,uX,MC,MD,ME⟩:Tb) 0).bind λuG=>(c6 [(-3),1,0]).bind λot=>(dA uG ot).bind λqa=>(some (!qa)).bind λuE=>some uE).bind λXs=>Uo Xs
end
section
open Go.Fw Go.Fw.Z Go.RowKit
theorem m8{x0:List Int}{x1:List Int}{r:Bool}(h:gQ x0 x1=some r):Pure ah 45 [slc 1 (List.map bT x0),slc 1 (List.map bT x1)] (az r):=by
 refine bD Tryz.func45 Y (af Y) (λeI M vs hvs=>?_);unfold gQ at h;refine sr<|ag Y<|dn<|qq<|sr<|mv Y<|lE h λx7 h7 h=>ln Y h7<|mv Y<|lE h λx9 h9 h=>ln Y h9<|lE h λeY iO h=>ne _ Y Y (IX (p:=x7) (q:=x9) iO)<|dn ?_;cases eY;refine fs<|qq<|sr<|ag Y<|dn<|bE (F h) λe6 Di nx=>?_;refine bU (λ(EY:Unit)=>AS.cL 26 [] [] []) (λEY=>.inl EY=e6) ?_ (λEY Dj=>?_);refine bj ?_;refine bV Di (λs6=>AS.cL 26 [(0,.sv (slc 1 (List.map bT x0))),(1,.sv (slc 1 (List.map bT x1))),(5,ai s6)] [] []) (wR []) (λr9 y6 G6 h Dk yW=>?_)
 try dsimp only
 refine qq<|sr<|mv Y<|mv Y<|lE h λjv lK h=>ln Y lK<|lE h λga lB h=>ls _ Y Y lB<|dn ?_;cases ga;refine cF<|b9<|aV.x<|aV.x<|bG.x<|aV.n ?_;obtain rfl:=O (F h);exact⟨(),yW _ Y,wR []⟩;refine cT<|bC<|aV.n<|qq<|bj<|qq<|bh mixed<|mv Y<|mv Y<|bE (V h) λmm n7 h=>ix Y Y n7<|lr Y Y<|mv Y<|mv Y<|bE h λku sZ h=>ix Y Y sZ<|lr Y Y<|lE h λvi wD h=>ne _ Y Y (IX (p:=mm) (q:=ku) wD) ?_;refine RT.done ⟨by kernel_rfl,?_⟩;refine aV.n ?_;cases vi;refine cF<|bC<|bG.n<|aV.n<|aW<|mv Y<|lE (F h) λjD n8 h=>ad _ Y Y n8<|ag Y<|RT.done ?_;obtain rfl:=O h;exact aV.n ⟨jD,Dk _ Y,wR []⟩;refine cT<|sr<|ag Y<|dn<|bf<|bG.r<|aV.r ?_;obtain rfl:=O (V h);have Of:=yW _ Y;subst Of;refine aV.r<|bG.r<|aV.r<|aV.r ?_;obtain rfl:=O nx;exact R1 Y;subst Dj
 try dsimp only
 refine aV.n<|sr<|ag Y<|dn<|bf ?_;obtain rfl:=O nx;exact R1 Y;refine cT<|sr<|ag Y<|dn<|bf<|aV.r ?_;obtain rfl:=O (V h);exact R1 Y
set_option maxHeartbeats 4000000 in
theorem jT{r:Bool}(h:dZ=some r):Pure ah 10 [] (az r):=by
 refine bD Tryz.func10 Y (af Y) (λeI M vs hvs=>?_);unfold dZ at h;refine sr<|ag Y<|dn<|sr ?_;obtain⟨⟨aa3,aa4,aa5,aa6⟩,h6,h⟩:=bS h;refine cl (Cw h6) trivial ?_;obtain⟨⟨uW,uX,MC,MD,ME⟩,h7,h⟩:=bS h;refine RT.AZ .none (tZ h7) [304,305,306] (by decide) Y ⟨⟨Y,T⟩,⟨Y,T⟩,⟨Y,T⟩,aq⟩ Y ⟨Y,aq⟩ T Y Y<|mo (s:=.cmp _ _) Y<|RT.nB .none Y Y T<|RT.nB .none Y Y T<|an (s:=.ptr _ _) Y<|ag Y<|dn<|qq<|qq ?_;refine bH h (λWO=>AS.cL 96 [(1,.ptr 7 0),(38,aj WO)] [(7,⟨79,[aj uW,ai uX,.row 304,.row 305,.row 306]⟩)] [(304,TR 23 1 (eS 4 eQ) MC),(305,TR 3 1 bT MD),(306,TR 23 1 (eS 4 eQ) ME)]) (λh=>?_) (λPA h=>?_);refine aW<|mv Y<|ne false Y Y (by decide)<|mv Y<|bE h λPD sq h=>RT.move (.some Y Y) (s:=.ptr _ _) Y T<|RT.Fj (.some Y Y) Y Y T ?_;obtain rfl:=O (F sq);refine pF Y<|mv Y<|bE h λahd yj h=>RT.move (.some Y Y) (s:=.ptr _ _) Y T<|bE (F yj) λgX lM yj=>RT.dw (.some Y Y) (iV lM) 7 [304,305,306] Y ⟨Y,Y,Y,aq⟩ (by decide) Y Y (.cons Y (.nil)) T<|RT.gi (l:=[2,3,4]) (e:=bT) (.some Y Y) (.one Y (.one Y (.one Y (.nil)))) T Y Y Y Y Y Y<|bE yj λja o5 yj=>gc (m8 o5) ⟨Y,Y,aq⟩<|lE yj λiv o6 yj=>IY Y _ o6 ?_;obtain rfl:=O yj;refine pF Y<|mv Y<|bE h λahe Dz h=>?_;cases iv
 refine RT.move (.some Y Y) (s:=.ptr _ _) Y T<|bE (F Dz) λvi wD Dz=>RT.dw (.some Y Y) (oP wD) 7 [304,305,306] Y ⟨Y,Y,Y,aq⟩ (by decide) Y Y (.cons Y (.nil)) T<|RT.gi (l:=[4,12,18]) (e:=bT) (.some Y Y) (.one Y (.one Y (.one Y (.nil)))) T Y Y Y Y Y Y<|bE Dz λnn vr Dz=>gc (ef vr) ⟨Y,aq⟩<|bE Dz λoY wE Dz=>gc (fE wE) ⟨Y,Y,aq⟩<|lE Dz λjq nW Dz=>IY Y _ nW ?_;obtain rfl:=O Dz;refine pF Y<|mv Y<|bE h λahf DA h=>?_;cases jq;refine RT.move (.some Y Y) (s:=.ptr _ _) Y T<|bE (F DA) λuG AY DA=>RT.dw (.some Y Y) (wY AY) 7 [304,305,306] Y ⟨Y,Y,Y,aq⟩ (by decide) Y Y (.k2 Y Y) T<|RT.gi (l:=[(-3),1,0]) (e:=bT) (.some Y Y) (.one Y (.one Y (.one Y (.nil)))) T Y Y Y Y Y Y<|bE DA λot yX DA=>gc (ef yX) ⟨Y,aq⟩<|bE DA λqa xN DA=>gc (fE xN) ⟨Y,Y,aq⟩<|lE DA λuE E4 DA=>?_;refine IY Y _ E4 ?_;obtain rfl:=O DA;exact pF Y<|dn<|⟨uE,h,wR []⟩;obtain rfl:=O (V DA);exact ww<|ww<|ww<|ww<|ww<|ww<|pT Y<|dn<|⟨true,h,wR []⟩;obtain rfl:=O (V Dz);refine ww<|ww<|ww<|ww<|ww<|ww<|pT Y<|mv Y<|bE h λahg ahh h=>?_;obtain rfl:=O (V ahh);exact ww<|ww<|ww<|ww<|ww<|ww<|pT Y<|dn<|⟨true,h,wR []⟩
 try dsimp only
 refine aV.n ?_;cases PA;refine fs<|sr<|mo (s:=.ptr _ _) Y ?_;obtain⟨⟨mX,YT,QY,YU⟩,sx,h⟩:=bS (F h);refine RT.Cf .none (dY sx) 7 [304,305,306] [310,311,312] Y ⟨Y,Y,Y,aq⟩ (by decide) (by decide) Y ⟨⟨Y,T⟩,⟨Y,T⟩,⟨Y,T⟩,aq⟩ Y Y (.k3 Y Y Y) T<|ag Y<|dn<|qq<|qq ?_;refine bH h (λTJ=>AS.cL 96 [(1,.ptr 7 0),(62,aj TJ)] [(7,⟨79,[aj uW,ai uX,.row 310,.row 311,.row 312]⟩)] [(310,TR 23 1 (eS 4 eQ) YT),(311,TR 3 1 bT QY),(312,TR 23 1 (eS 4 eQ) YU)]) (λh=>?_) (λKa h=>?_);refine aW<|mv Y<|lE h λqm BQ h=>ne _ Y Y (IX (p:=mX) (q:=0) BQ)<|mv Y<|bE h λPC DB h=>?_;cases qm;refine RT.move (.some Y Y) (s:=.ptr _ _) Y T<|bE (F DB) λyz Jz DB=>RT.dw (.some Y Y) (oP Jz) 7 [310,311,312] Y ⟨Y,Y,Y,aq⟩ (by decide) Y Y (.cons Y (.nil)) T<|RT.gi (l:=[4,6,6]) (e:=bT) (.some Y Y) (.one Y (.one Y (.one Y (.nil)))) T Y Y Y Y Y Y<|bE DB λwm BR DB=>gc (ef BR) ⟨Y,aq⟩<|bE DB λsu h48 DB=>gc (fE h48) ⟨Y,Y,aq⟩<|lE DB λI0 Oh DB=>IY Y _ Oh ?_;obtain rfl:=O DB;refine pF Y<|mv Y<|bE h λahi AF h=>?_;cases I0
 refine RT.move (.some Y Y) (s:=.ptr _ _) Y T<|bE (F AF) λLc Oq AF=>RT.dw (.some Y Y) (yg Oq) 7 [310,311,312] Y ⟨Y,Y,Y,aq⟩ (by decide) Y Y (.cons Y (.nil)) T<|RT.gi (l:=[30,0,(-6)]) (e:=bT) (.some Y Y) (.one Y (.one Y (.one Y (.nil)))) T Y Y Y Y Y Y<|bE AF λyA Mj AF=>gc (ef Mj) ⟨Y,aq⟩<|bE AF λDf G3 AF=>gc (fE G3) ⟨Y,Y,aq⟩<|lE AF λRF Z1 AF=>IY Y _ Z1 ?_;obtain rfl:=O AF;refine pF Y<|mv Y<|bE h λahj MB h=>?_;cases RF;refine RT.move (.some Y Y) (s:=.ptr _ _) Y T<|bE (F MB) λGe Ol MB=>RT.dw (.some Y Y) (tY Ol) 7 [310,311,312] Y ⟨Y,Y,Y,aq⟩ (by decide) Y Y (.cons Y (.nil)) T ?_;obtain rfl:=O MB;exact pF Y<|dn<|⟨Ge,h,wR []⟩;obtain rfl:=O (V MB);exact ww<|ww<|pT Y<|dn<|⟨true,h,wR []⟩;obtain rfl:=O (V AF);refine ww<|ww<|ww<|ww<|ww<|ww<|pT Y<|mv Y<|bE h λahk Dy h=>?_;obtain rfl:=O (V Dy);exact ww<|ww<|pT Y<|dn<|⟨true,h,wR []⟩;obtain rfl:=O (V DB);refine ww<|ww<|ww<|ww<|ww<|ww<|pT Y<|mv Y<|bE h λahl My h=>?_;obtain rfl:=O (V My);refine ww<|ww<|ww<|ww<|ww<|ww<|pT Y<|mv Y<|bE h λahm w5 h=>?_;obtain rfl:=O (V w5);exact ww<|ww<|pT Y<|dn<|⟨true,h,wR []⟩
 try dsimp only
 refine aV.n ?_;cases Ka;refine fs<|sr<|mo (s:=.ptr _ _) Y ?_;obtain⟨⟨UF,YV,YW,YX⟩,h64,h⟩:=bS (F h);refine RT.Cf .none (dY h64) 7 [310,311,312] [316,317,318] Y ⟨Y,Y,Y,aq⟩ (by decide) (by decide) Y ⟨⟨Y,T⟩,⟨Y,T⟩,⟨Y,T⟩,aq⟩ Y Y (.k3 Y Y Y) T<|ag Y<|dn<|qq ?_;refine bH h (λTs=>AS.cL 96 [(0,aj Ts)] [] []) (λh=>?_) (λUG h=>?_);refine aW<|mv Y<|lE h λI1 VU h=>eq _ Y Y (xg (p:=UF) (q:=0) VU)<|mv Y<|bE h λPB H9 h=>?_;cases I1;obtain rfl:=O (F H9);refine ww<|ww<|ww<|ww<|ww<|pF Y<|mv Y<|bE h λahn Mz h=>?_;obtain rfl:=O (F Mz);refine ww<|ww<|ww<|ww<|ww<|pF Y<|mv Y<|bE h λaho MA h=>?_;obtain rfl:=O (F MA);refine ww<|ww<|ww<|ww<|ww<|pF Y<|mv Y<|bE h λahp H8 h=>?_;obtain rfl:=O (F H8);refine ww<|ww<|pF Y<|mv Y<|bE h λahq Xj h=>?_;obtain rfl:=O (F Xj);exact ww<|ww<|pF Y<|ag Y<|dn<|⟨false,h,wR []⟩;refine RT.move (.some Y Y) (s:=.ptr _ _) Y T<|bE (V H9) λKR RL H9=>RT.dw (.some Y Y) (oP RL) 7 [316,317,318] Y ⟨Y,Y,Y,aq⟩ (by decide) Y Y (.cons Y (.nil)) T<|RT.gi (l:=[2,6,2]) (e:=bT) (.some Y Y) (.one Y (.one Y (.one Y (.nil)))) T Y Y Y Y Y Y<|bE H9 λI5 W8 H9=>gc (ef W8) ⟨Y,aq⟩<|bE H9 λL7 VY H9=>gc (fE VY) ⟨Y,Y,aq⟩ ?_;obtain rfl:=O H9;refine pT Y<|mv Y<|bE h λahr Ia h=>?_;cases L7;obtain rfl:=O (F Ia)
 refine ww<|ww<|ww<|ww<|ww<|pF Y<|mv Y<|bE h λahs Cx h=>?_;obtain rfl:=O (F Cx);refine ww<|ww<|ww<|ww<|ww<|pF Y<|mv Y<|bE h λaht H7 h=>?_;obtain rfl:=O (F H7);refine ww<|ww<|pF Y<|mv Y<|bE h λahu Cz h=>?_;obtain rfl:=O (F Cz);exact ww<|ww<|pF Y<|ag Y<|dn<|⟨false,h,wR []⟩;refine RT.move (.some Y Y) (s:=.ptr _ _) Y T<|bE (V Ia) λx76 h76 Ia=>RT.dw (.some Y Y) (nN h76) 7 [316,317,318] Y ⟨Y,Y,Y,aq⟩ (by decide) Y Y (.cons Y (.nil)) T<|RT.gi (l:=[2,6]) (e:=bT) (.some Y Y) (.one Y (.one Y (.nil))) T Y Y Y Y Y Y<|bE Ia λSf h78 Ia=>gc (ef h78) ⟨Y,aq⟩<|bE Ia λI2 VZ Ia=>gc (fE VZ) ⟨Y,Y,aq⟩ ?_;obtain rfl:=O Ia;refine pT Y<|mv Y<|bE h λahv Ib h=>?_;cases I2;obtain rfl:=O (F Ib);refine ww<|ww<|ww<|ww<|ww<|pF Y<|mv Y<|bE h λahw HZ h=>?_;obtain rfl:=O (F HZ);refine ww<|ww<|pF Y<|mv Y<|bE h λahx H6 h=>?_;obtain rfl:=O (F H6);exact ww<|ww<|pF Y<|ag Y<|dn<|⟨false,h,wR []⟩;refine RT.move (.some Y Y) (s:=.ptr _ _) Y T<|bE (V Ib) λQZ h83 Ib=>RT.dw (.some Y Y) (yg h83) 7 [316,317,318] Y ⟨Y,Y,Y,aq⟩ (by decide) Y Y (.cons Y (.nil)) T<|RT.gi (l:=[36,(-2),(-6)]) (e:=bT) (.some Y Y) (.one Y (.one Y (.one Y (.nil)))) T Y Y Y Y Y Y<|bE Ib λZL h85 Ib=>gc (ef h85) ⟨Y,aq⟩<|bE Ib λQX Z5 Ib=>gc (fE Z5) ⟨Y,Y,aq⟩ ?_
 obtain rfl:=O Ib;refine pT Y<|mv Y<|bE h λahz Sg h=>?_;cases QX;obtain rfl:=O (F Sg);refine ww<|ww<|pF Y<|mv Y<|bE h λahA ahB h=>?_;obtain rfl:=O (F ahB);exact ww<|ww<|pF Y<|ag Y<|dn<|⟨false,h,wR []⟩;refine RT.move (.some Y Y) (s:=.ptr _ _) Y T<|bE (V Sg) λRJ Z7 Sg=>RT.dw (.some Y Y) (tY Z7) 7 [316,317,318] Y ⟨Y,Y,Y,aq⟩ (by decide) Y Y (.cons Y (.nil)) T ?_;obtain rfl:=O Sg;refine pT Y<|mv Y<|bE h λahC Sh h=>?_;cases RJ;obtain rfl:=O (F Sh);exact ww<|ww<|pF Y<|ag Y<|dn<|⟨false,h,wR []⟩;refine RT.move (.some Y Y) (s:=.ptr _ _) Y T<|bE (V Sh) λMF h94 Sh=>RT.dw (.some Y Y) (AE h94) 7 [316,317,318] Y ⟨Y,Y,Y,aq⟩ (by decide) Y Y (.cons Y (.nil)) T ?_;obtain rfl:=O Sh;exact pT Y<|ag Y<|dn<|⟨MF,h,wR []⟩
 try dsimp only
 refine aV.n<|bf ?_;obtain rfl:=O h;exact R1 Y;refine cT<|sr<|ag Y<|dn<|bf<|aV.r ?_;obtain rfl:=O (V h);exact R1 Y;refine cT<|sr<|ag Y<|dn<|bf<|aV.r ?_;obtain rfl:=O (V h);exact R1 Y
end
section
open Go.Fw
noncomputable def oQ(x0:Lr):Option (Unit):=match x0 with|⟨bu,bw,bF,bJ⟩=>(fW ⟨bu,bw,bF,bJ⟩).bind λx5=>(some (!x5)).bind λx6=>(bif x6 then some ()else(dQ ⟨bu,bw,bF,bJ⟩).bind λ⟨wI,wJ,B4,B5,R5⟩=>none)
noncomputable def kj(x0:Lr):Option (Bool):=match x0 with|⟨bu,bw,bF,bJ⟩=>cK (λ(UH:Bool)=>some UH) λM3=>(lY ⟨bu,bw,bF,bJ⟩).bind λx4=>(bif x4 then some true else(some (bF.length:Int)).bind λx8=>(some (decide ((5:Int)<x8))).bind λx9=>(bif x9 then(lp ⟨bu,bw,bF,bJ⟩).bind λeX=>some eX else some false).bind λPE=>some PE).bind λyR=>(bif yR then some true else(some (decide ((6:Int)<bu))).bind λgX=>(bif gX then(lp ⟨bu,bw,bF,bJ⟩).bind λiv=>some iv else some false).bind λXt=>some Xt).bind λFy=>M3 Fy
end
section
open Go.Fw Go.Fw.Z Go.RowKit
theorem Ic{x0:Lr}{r:Unit}(h:oQ x0=some r):Pure ah 12 [.agg (Jm x0)] (.yB [.v (.pointer none),ay 1]):=by
 obtain⟨bu,bw,bF,bJ⟩:=x0;refine bD Tryz.func12 Y (af Y) (λeI M vs hvs=>?_);unfold oQ at h;refine sr<|bx Y<|ag Y<|ag Y<|dn<|qq<|sr<|ld Y Y (.k4 Y Y Y Y)<|bE h λx5 h5 h=>cl (pQ h5) ⟨Y,aq⟩<|lE h λx6 h6 h=>nt Y _ h6<|dn ?_;cases x6;refine fs<|sr<|ld Y Y (.k4 Y Y Y Y) ?_;obtain⟨⟨wI,wJ,B4,B5,R5⟩,h8,h⟩:=bS (F h);refine RT.JU .none (jr h8) [304,305,306] (by decide) Y ⟨⟨Y,T⟩,⟨Y,T⟩,⟨Y,T⟩,aq⟩ Y ⟨Y,aq⟩ T Y Y<|an (s:=.ptr _ _) Y<|ag Y<|dn<|bf ?_;cases h;refine cT<|sr<|ag Y<|ag Y<|dn<|bf<|aV.r ?_;obtain rfl:=O (V h);exact R2 Y Y
theorem vH{x0:Lr}{r:Bool}(h:kj x0=some r):Pure ah 9 [.agg (Jm x0)] (az r):=by
 obtain⟨bu,bw,bF,bJ⟩:=x0;refine bD Tryz.func9 Y (af Y) (λeI M vs hvs=>?_);unfold kj at h;refine sr<|bx Y<|ag Y<|dn<|qq ?_;refine bH h (λMg=>AS.cL 24 [(2,aj Mg)] [] []) (λh=>?_) (λUH h=>?_);refine aW<|ld Y Y (.k4 Y Y Y Y)<|bE h λx4 h4 h=>cl (Dx h4) ⟨Y,aq⟩<|mv Y<|bE h λyR ey h=>?_;cases x4;refine RT.fieldAddr (.some Y Y) Y T Y<|RT.rB (.some Y Y) Y Y Y T<|lE (F ey) λx8 h8 ey=>gn Y h8<|lE ey λx9 h9 ey=>gg _ Y Y h9<|gm Y<|bE ey λPE CA ey=>?_;cases x9;obtain rfl:=O (F CA);refine ww<|ww<|gF Y ?_;obtain rfl:=O ey;refine pF Y<|mv Y<|bE h λahD sj h=>RT.fieldAddr (.some Y Y) Y T Y<|RT.rB (.some Y Y) Y Y Y T<|lE (F sj) λgX lM sj=>gg _ Y Y lM<|gm Y<|bE sj λahE Fl sj=>?_;cases gX;obtain rfl:=O (F Fl);refine ww<|ww<|gF Y ?_;obtain rfl:=O sj;exact pF Y<|ag Y<|dn<|⟨false,h,wR []⟩;refine gl Y Y (.k4 Y Y Y Y)<|bE (V Fl) λiv o6 Fl=>gc (rP o6) ⟨Y,aq⟩ ?_;obtain rfl:=O Fl;refine gT Y ?_;obtain rfl:=O sj;exact pF Y<|ag Y<|dn<|⟨iv,h,wR []⟩;refine gl Y Y (.k4 Y Y Y Y)<|bE (V CA) λeX iz CA=>gc (rP iz) ⟨Y,aq⟩ ?_;obtain rfl:=O CA;refine gT Y ?_;obtain rfl:=O ey;refine pF Y<|mv Y<|bE h λahF Fz h=>?_;cases eX
 refine RT.fieldAddr (.some Y Y) Y T Y<|RT.rB (.some Y Y) Y Y Y T<|lE (F Fz) λgX lM Fz=>gg _ Y Y lM<|gm Y<|bE Fz λahG oD Fz=>?_;cases gX;obtain rfl:=O (F oD);refine ww<|ww<|gF Y ?_;obtain rfl:=O Fz;exact pF Y<|ag Y<|dn<|⟨false,h,wR []⟩;refine gl Y Y (.k4 Y Y Y Y)<|bE (V oD) λiv o6 oD=>gc (rP o6) ⟨Y,aq⟩ ?_;obtain rfl:=O oD;refine gT Y ?_;obtain rfl:=O Fz;exact pF Y<|ag Y<|dn<|⟨iv,h,wR []⟩;obtain rfl:=O (V Fz);exact ww<|ww<|ww<|ww<|wu<|wu<|ww<|pT Y<|ag Y<|dn<|⟨true,h,wR []⟩;obtain rfl:=O (V ey);refine ww<|ww<|ww<|ww<|ww<|wu<|wu<|ww<|pT Y<|mv Y<|bE h λWQ Dr h=>?_;obtain rfl:=O (V Dr);exact ww<|ww<|ww<|ww<|wu<|wu<|ww<|pT Y<|ag Y<|dn<|⟨true,h,wR []⟩
 try dsimp only
 refine aV.n<|bf ?_;obtain rfl:=O h;exact R1 Y
end
end Go.Proofs.YtningmnklfpfjaaGreat
namespace Go.Fw
section
open Go.RowKit
theorem Ie{M:Mem}{α:Type}{e:α->List SV}[el:EL e 1]:∀(l:List α) (vs:List Value) (m:Nat),SV.ec M (l.flatMap e) vs->SV.ec M ((l.take m).flatMap e) (vs.take m)
 |l,vs,0,h=>by
  rw[List.take_zero,List.take_zero];exact trivial
 |[],vs,m+1,h=>by
  cases vs with
  |nil=>trivial
  |cons _ _=>exact h.elim
 |x::l,vs,m+1,h=>by
  have hl:=el.len x
  match he:e x,hl with
  |[s],_=>
   rw[List.flatMap_cons,he]at h
   match vs,h with
   |v::vs,h=>
    rw[List.take_succ_cons,List.take_succ_cons,List.flatMap_cons,he];exact⟨h.1,Ie l vs m h.2⟩
theorem Ld{M:Mem}{α:Type}{e:α->List SV}(ho:∀x,∃v,e x=[.v v]/\v.oneCell'=true):∀{l:List α} {vs:List Value},SV.ec M (l.flatMap e) vs->∀v∈vs,v.oneCell'=true
 |[],vs,h,v,hv=>by
  cases vs with
  |nil=>simp at hv
  |cons _ _=>exact h.elim
 |x::l,vs,h,v,hv=>by
  obtain⟨u,he,h1⟩:=ho x;rw[List.flatMap_cons,he]at h
  match vs,h with
  |y::vs,h=>
   rcases List.mem_cons.1 hv with q|q
   ·have e1:y=u:=h.1;rw[q,e1];exact h1
   exact Ld ho h.2 v q
section steps
variable {P:Program}{C:Ctx}{ops:Array Oper}{S:AS}{nd:Bool}{K:List Ac->AS->Prop}{rest:List Oper}{acc:List Ac}{Q:Exit->AS->Prop}
variable {gd:Option (Nat×Bool)}{rg:List Nat}{d:Nat}{ty:TypeId}{pos:String}{aft:Array Edge}{x y z:Operand}{T U E0:TypeId}
theorem RT.Xu(hg:Gd ops S gd rg)[tS:eP P T E0 1]{α:Type}{e:α->List SV}[el:EL e 1]{i j0:Nat}{E1 E2:TypeId}{l k:List α}{m:Int}(KU:∀x,∃v,e x=[.v v]/\v.oneCell'=true)(hji:j0≠i)(hx:S.ev x=.row i)(hR:S.r i=.live (TR E1 1 e l))(hy:S.ev y=.row j0)(hR2:S.r j0=.live (TR E2 1 e k))(hd:d<S.n)(hm:((Min.min k.length l.length:Nat):Int)=m)
  (next:RunT P C ops nd K rest (⟨rg++(aX x++aX y),[],[i,j0],⟨some (d,.sv (.v (.int .i64 m))),[],[(i,.live (TR E1 1 e (uB l k)))]⟩⟩::acc) ((AS.cc [(i,.live (TR E1 1 e (uB l k)))] S).set d (.sv (.v (.int .i64 m))))):RunT P C ops nd K (⟨some d,.call ⟨.builtin .copy,#[x,y],#[T,U]⟩,ty,pos,aft,gd⟩::rest) acc S:=by
 subst hm;refine .inl ⟨_,[],[i,j0],_,?_,next⟩;rintro S' hn' ht _ KA ix a w L Q ho ⟨E,h⟩ hL;refine cD (C:=C) ho (hg.wanted h (λs hs=>ht s (List.mem_append_left _ hs)) Y) ?_;have mD:S'.r i=.live (TR E1 1 e l):=by rw[KA i (by simp)];exact hR
 have h1:a.eval x=E.ν i:=by
  have h1:=h.ev x;rw[bA (λ_ h=>List.mem_append_right _ (List.mem_append_left _ h)) ht,hx]at h1;exact h1
 have aa9:S'.r j0=.live (TR E2 1 e k):=by rw[KA j0 (by simp)];exact hR2
 have h2:a.eval y=E.ν j0:=by
  have h2:=h.ev y;rw[bA (λ_ h=>List.mem_append_right _ (List.mem_append_right _ h)) ht,hy]at h2;exact h2
 obtain⟨⟨Ns,D0,aly⟩,_⟩:=h.rx j0 _ aa9;have hsrc:∃sa sc,a.eval y=.slice sa k.length sc:=by
  rw[h2];rcases D0.2 with⟨q1,q2⟩|⟨g,cap,cur,q1,_⟩
  ·have q2:k.length=0:=q2;exact⟨none,0,by rw[q2];exact q1⟩
  exact⟨_,cap,q1⟩
 obtain⟨⟨us,hown,Al⟩,_⟩:=h.rx i _ mD;have WU:∃da dc,E.ν i=.slice da l.length dc:=by
  rcases hown.2 with⟨q1,q2⟩|⟨g,cap,cur,q1,_⟩
  ·have q2:l.length=0:=q2;exact⟨none,0,by rw[q2];exact q1⟩
  exact⟨_,cap,q1⟩
 obtain⟨sa,sc,hs⟩:=hsrc;by_cases h0:Nat.min k.length l.length=0
 ·obtain⟨da,dc,hdv⟩:=WU;have hc:uB l k=l:=by
   rcases Nat.eq_zero_or_pos l.length with q|q
   ·have:=List.length_eq_zero_iff.1 q;subst this;simp[uB]
   have:k.length=0:=by
    have h0:Min.min k.length l.length=0:=h0;omega
   have:=List.length_eq_zero_iff.1 this;subst this;simp[uB]
  have hr:(execOp a.eval ⟨some d,.call ⟨.builtin .copy,#[x,y],#[T,U]⟩,ty,pos,aft,gd⟩).run P w=.ok (.value (goInt 0)) w:=by
   have:=run_copy_none (P:=P) w T U ty E0 da sa l.length dc k.length sc tS.u tS.s h0;simp[execOp,resolve,invoke,builtin,h1,hs,hdv,this]
  refine cz (C:=C) (by intro c h;cases h) hr (hL _ _ ⟨E,?_⟩);rw[hc];have e0:((Min.min k.length l.length:Nat):Int)=0:=by
   have h0:Min.min k.length l.length=0:=h0;rw[h0];rfl
  rw[e0];have:AS.app S' ⟨some (d,.sv (.v (.int .i64 0))),[],[(i,.live (TR E1 1 e l))]⟩=S'.set d (.sv (.v (.int .i64 0))):=by
   show(AS.ou S' i _).set d _=_;rw[AS.yK mD]
  rw[this];exact h.put (x:=.sv (.v (.int .i64 0))) (v:=.int .i64 0) Y (by show d<S'.n;omega) fg
 have hpos:0<Min.min k.length l.length:=Nat.pos_of_ne_zero h0;obtain⟨g,vW⟩:∃g,(E.ν i).ownBlock=some g:=by
  rcases hown.2 with⟨_,q2⟩|⟨g,cap,cur,q1,_⟩
  ·have q2:l.length=0:=q2;omega
  exact⟨g,by rw[q1];rfl⟩
 obtain⟨cur,vs,q1,q2,q3,q4,cap,q5,q6,q7,q8⟩:=sH h mD vW;replace q2:cur.take (l.length*1)=vs:=q2;replace q3:vs.length=l.length*1:=q3;replace q6:l.length<=cap:=q6;replace q8:cur.length=cap*1:=q8;obtain⟨g2,M7⟩:∃g,(E.ν j0).ownBlock=some g:=by
  rcases D0.2 with⟨_,q2⟩|⟨g,cap,cur,q1,_⟩
  ·have q2:k.length=0:=q2;omega
  exact⟨g,by rw[q1];rfl⟩
 obtain⟨ahH,YY,p1,p2,p3,p4,ahI,p5,p6,p7,p8⟩:=sH h aa9 M7;replace p2:ahH.take (k.length*1)=YY:=p2;replace p3:YY.length=k.length*1:=p3;replace p4:SV.ec E.M (k.flatMap e) YY:=p4;rw[h2,show E.ν j0=.slice (some ⟨g2,0,none⟩) k.length ahI from p5]at hs;cases hs;obtain⟨cs,hcs⟩:∃cs,cs=YY.take (Min.min k.length l.length):=⟨_,Y⟩;have c1:cs.length=(k.take (Min.min k.length l.length)).length:=by rw[hcs,List.length_take,List.length_take,p3];omega
 have c2:SV.ec E.M ((k.take (Min.min k.length l.length)).flatMap e) cs:=by rw[hcs];exact Ie k YY _ p4
 have c4:=Ld KU c2;have c3:∀j v,cs[j]? =some v->w.cell? ⟨g2,j,none⟩=some v:=λj v hj=>by
  rw[hcs,List.getElem?_take]at hj;split at hj
  ·rw[<-p2,List.getElem?_take]at hj;split at hj
   ·simpa[World.cell?,p1]using hj
   cases hj
  cases hj
 have ry:cs.length=Nat.min k.length l.length:=by rw[c1,List.length_take];show Min.min (Min.min k.length l.length) k.length=Min.min k.length l.length;omega
 have JZ:cs.length=Min.min k.length l.length:=ry;have hrun:=run_copy_row (P:=P) w T U ty E0 g 0 l.length cap ⟨g2,0,none⟩ k.length sc ⟨cur⟩ E1 cs tS.u tS.s q1 ry (λj v hj=>by
  rw[fY,Nat.zero_add];exact c3 j v hj) (by simp;omega) c4
 have hr:(execOp a.eval ⟨some d,.call ⟨.builtin .copy,#[x,y],#[T,U]⟩,ty,pos,aft,gd⟩).run P w=.ok (.value (goInt cs.length)) (w.setRow g (cs++cur.drop cs.length).toArray):=by
  have hrun:(Builtin.copy_ #[T,U] ty #[.slice (some ⟨g,0,none⟩) l.length cap,.slice (some ⟨g2,0,none⟩) k.length sc]).run P w=.ok (goInt cs.length) (w.setRow g (cs++cur.drop cs.length).toArray):=by simpa using hrun
  have q5:E.ν i=.slice (some ⟨g,0,none⟩) l.length cap:=q5;have p5:E.ν j0=.slice (some ⟨g2,0,none⟩) k.length sc:=p5;simp[execOp,resolve,invoke,builtin,h1,h2,p5,q5,hrun]
 have WV:uB l k=k.take (Min.min k.length l.length)++l.drop (Min.min k.length l.length):=by
  unfold uB;have e1:k.take l.length=k.take (Min.min k.length l.length):=by rw[List.take_eq_take_iff];omega
  have e2:l.drop k.length=l.drop (Min.min k.length l.length):=by rw[List.drop_eq_drop_iff];omega
  rw[e1,e2]
 have hall:SV.ec E.M ((uB l k).flatMap e) (cs++vs.drop cs.length):=by
  rw[WV,List.flatMap_append,<-JZ];rw[<-JZ]at c2;exact SV.ec.append c2 (Ci l vs cs.length q4)
 have hh:=setRow_heap w g ⟨cur⟩ (cs++cur.drop cs.length).toArray E1 (0,0) q1;have D0:(w.setRow g (cs++cur.drop cs.length).toArray).ownsRow 0 E1 1 (E.ν i) l.length (cs++vs.drop cs.length):=by
  refine⟨by simp;omega,.inr ⟨g,cap,_,q5,Nat.zero_le _,hh,q6,q7,by simp;omega,?_⟩⟩;rw[<-q2];simp only[List.take_append,List.length_take,List.drop_take];congr 1;rw[List.take_of_length_le (by omega)]
 have hp:=h.Ez mD vW (w':=w.setRow g (cs++cur.drop cs.length).toArray) ⟨_,_,q1⟩ Y Y Y (by simp[World.setRow]) (λk' hk'=>setRow_other w g k' _ hk') D0 hall;refine cz (C:=C) (by intro c h;cases h) hr (hL _ _ ⟨E,?_⟩);have hrow:(⟨(TR E1 1 e l).E,(TR E1 1 e l).sz,(TR E1 1 e l).n,(uB l k).flatMap e⟩:Row)=TR E1 1 e (uB l k):=by
  show Row.mk _ _ l.length _=Row.mk _ _ (uB l k).length _;rw[KY]
 rw[hrow]at hp;rw[<-JZ];exact hp.put (x:=.sv (.v (.int .i64 cs.length))) (v:=.int .i64 cs.length) Y (by show d<S'.n;omega) fg
end steps
end
end Go.Fw
namespace Go.Proofs.YtningmnklfpfjaaGreat
section
open Go.Fw
noncomputable def eO(x0:Lr)(x1:List Int):Option (Bool×Int×(List (List Qr))×(List Int)×(List (List Qr))):=match x0 with|⟨bu,bw,bF,bJ⟩=>cK (λ(sW:Bool)=>(bif sW then none else(some (bF.length:Int)).bind λoY=>(some (IntKind.i64.wrap (bu+oY))).bind λjq=>(CV 1 jq (false:Bool)).bind λvk=>(some (x1.length:Int)).bind λkp=>(cy (λ(YZ:Int×(List Bool))=>match YZ with|⟨CB,w6⟩=>(show Option ((Int×(List Bool))⊕((Unit)⊕(Bool×Int×(List (List Qr))×(List Int)×(List (List Qr)))))from(some (decide ((CB:Int)<kp))).bind λoq=>(bif oq then(cU x1 CB).bind λot=>cK (λ(Kb:Bool)=>(bif Kb then none else(ko w6 ot).bind λLc=>(stM w6 Lc true).bind λl29=>(some (IntKind.i64.wrap (CB+1))).bind λAr=>some (.inl (Ar,l29)))) λK27=>(some (decide ((ot:Int)<0))).bind λzW=>(bif zW then some true else(some (w6.length:Int)).bind λqm=>(some (decide ((qm:Int)<=ot))).bind λsS=>some sS).bind λPF=>(bif PF then some true else(ko w6 ot).bind λsu=>(w6[su]?).bind λI0=>some I0).bind λXv=>K27 Xv else some (.inr (.inl ()))))) (0,vk)).bind λe21=>match e21 with|.inr v21=>some v21|.inl _=>(dQ ⟨bu,bw,bF,bJ⟩).bind λ⟨pJ,qF,UI,UJ,UL⟩=>(some (x1.length:Int)).bind λQU=>(cy (λ(Q0:Int×(List (List Qr))×(List Int)×(List (List Qr)))=>match Q0 with|⟨gL,m9,nc,dK⟩=>(show Option ((Int×(List (List Qr))×(List Int)×(List (List Qr)))⊕(((List (List Qr))×(List Int)×(List (List Qr)))⊕(Bool×Int×(List (List Qr))×(List Int)×(List (List Qr)))))from(some (decide ((gL:Int)<QU))).bind λGc=>(bif Gc then(cU x1 gL).bind λQ1=>(cy (λ(jU:Int)=>(show Option ((Int)⊕(Int))from cK (λ(w7:Bool)=>(bif w7 then(some (IntKind.i64.wrap (jU+1))).bind λJt=>some (.inl Jt)else some (.inr jU))) λK80=>(some (dK.length:Int)).bind λDS=>(some (decide ((jU:Int)<DS))).bind λI5=>(bif I5 then(ko dK jU).bind λSf=>(dK[Sf]?).bind λI2=>(cU I2 Q1).bind λ⟨⟨D6,D7⟩,⟨D8,D9⟩⟩=>(eV ⟨⟨D6,D7⟩,⟨D8,D9⟩⟩).bind λQZ=>(some (decide ((QZ:Int)=0))).bind λQW=>some QW else some false).bind λzB=>K80 zB)) gL).bind λmO=>(some (dK.length:Int)).bind λM4=>(some (decide ((mO:Int)=M4))).bind λMF=>(bif MF then none else(ko dK mO).bind λIg=>(dK[Ig]?).bind λER=>(ko dK gL).bind λGP=>(dK[GP]?).bind λPG=>(ko dK gL).bind λSi=>(stM dK Si ER).bind λY0=>(ko Y0 mO).bind λSj=>(stM Y0 Sj PG).bind λl85=>(cJ pJ qF m9 nc l85 gL Q1).bind λ⟨l89,l90,l91⟩=>(some (IntKind.i64.wrap (gL+1))).bind λES=>some (.inl (ES,l89,l90,l91)))else some (.inr (.inl (m9,nc,dK)))))) (0,UI,UJ,UL)).bind λe67=>match e67 with|.inr v67=>some v67|.inl ⟨Le,FA,Lf⟩=>some (pJ,qF,Le,(uB FA x1),Lf))) λK3=>(fW ⟨bu,bw,bF,bJ⟩).bind λga=>(some (!ga)).bind λe9=>(bif e9 then some true else(some (x1.length:Int)).bind λgX=>(some (bF.length:Int)).bind λiv=>(some (decide ((gX:Int)≠iv))).bind λkq=>some kq).bind λPI=>K3 PI
noncomputable def eA(o0:Bool)(o1:Int)(o2:List (List Qr))(o3:List Int)(o4:List (List Qr)):Option (List Int):=(cw (⟨o0,o1,o2,o3,o4⟩:Tb)).bind λx5=>(bif x5 then some []else(some (o3.length:Int)).bind λeY=>(CV 8 eY (0:Int)).bind λjC=>some (uB jC o3))
noncomputable def eL(o0:Bool)(o1:Int)(o2:List (List Qr))(o3:List Int)(o4:List (List Qr)):Option (List (List Qr)):=(cw (⟨o0,o1,o2,o3,o4⟩:Tb)).bind λx7=>(bif x7 then some []else(some (o4.length:Int)).bind λeX=>(cy (λ(s6:Int×(List (List Qr)))=>match s6 with|⟨ye,FB⟩=>(show Option ((Int×(List (List Qr)))⊕((List (List Qr))))from(some (decide ((ye:Int)<eX))).bind λga=>(bif ga then(ko o4 ye).bind λe9=>(o4[e9]?).bind λjD=>(dP (⟨o0,o1,o2,o3,o4⟩:Tb)).bind λja=>(gP jD ja).bind λiv=>(yM 24 FB [iv]).bind λku=>(some (IntKind.i64.wrap (ye+1))).bind λjE=>some (.inl (jE,ku))else some (.inr FB)))) (0,[])).bind λzC=>some zC)
noncomputable def jV(o0:Bool)(o1:Int)(o2:List (List Qr))(o3:List Int)(o4:List (List Qr)):Option ((List Int)×(List (List Qr))×Bool):=(eA o0 o1 o2 o3 o4).bind λeY=>(eL o0 o1 o2 o3 o4).bind λeX=>(some (eY.length:Int)).bind λga=>(some (eX.length:Int)).bind λjD=>(some (decide ((ga:Int)≠jD))).bind λgW=>(bif gW then some ([],[],false)else(cy (λ(Xw:Int×(List Int)×(List (List Qr)))=>match Xw with|⟨CC,CD,FC⟩=>(show Option ((Int×(List Int)×(List (List Qr)))⊕((List Int)×(List (List Qr))))from(some (CD.length:Int)).bind λja=>(some (decide ((CC:Int)<ja))).bind λiv=>(bif iv then(cy (λ(Xx:Int×(List Int)×(List (List Qr)))=>match Xx with|⟨pS,lZ,qg⟩=>(show Option ((Int×(List Int)×(List (List Qr)))⊕((List Int)×(List (List Qr))))from cK (λ(Kc:Bool)=>(bif Kc then(some (IntKind.i64.wrap (pS-1))).bind λyz=>(some (IntKind.i64.wrap (pS-1))).bind λsu=>(ko lZ su).bind λI0=>(lZ[I0]?).bind λsi=>(ko lZ pS).bind λLc=>(lZ[Lc]?).bind λAr=>(ko lZ pS).bind λyA=>(stM lZ yA si).bind λPJ=>(ko PJ yz).bind λDf=>(stM PJ Df Ar).bind λPK=>(some (IntKind.i64.wrap (pS-1))).bind λGe=>(some (IntKind.i64.wrap (pS-1))).bind λUF=>(ko qg UF).bind λYI=>(qg[YI]?).bind λI1=>(ko qg pS).bind λKR=>(qg[KR]?).bind λDS=>(ko qg pS).bind λI5=>(stM qg I5 I1).bind λl68=>(ko l68 Ge).bind λL7=>(stM l68 L7 DS).bind λVJ=>(some (IntKind.i64.wrap (pS-1))).bind λmX=>some (.inl (mX,PK,VJ))else some (.inr (lZ,qg)))) λK61=>(some (decide ((0:Int)<pS))).bind λmH=>(bif mH then(ko lZ pS).bind λvk=>(lZ[vk]?).bind λrE=>(some (IntKind.i64.wrap (pS-1))).bind λoq=>(ko lZ oq).bind λot=>(lZ[ot]?).bind λqa=>(some (decide ((rE:Int)<qa))).bind λuE=>some uE else some false).bind λPL=>K61 PL)) (CC,CD,FC)).bind λe58=>match e58 with|⟨Ke,Kf⟩=>(some (IntKind.i64.wrap (CC+1))).bind λku=>some (.inl (ku,Ke,Kf))else some (.inr (CD,FC))))) (1,eY,eX)).bind λe40=>match e40 with|⟨Kg,Kh⟩=>some (Kg,Kh,true))
end
section
open Go.Fw Go.Fw.Z Go.RowKit
set_option maxHeartbeats 4000000 in
theorem nE{x0:Lr}{x1:List Int}{r:Bool×Int×(List (List Qr))×(List Int)×(List (List Qr))}(h:eO x0 x1=some r):JS ah 30 [.agg (Jm x0),slc 1 (List.map bT x1)] true [ay 0] 79 [.s (az r.1),.s (ay r.2.1),.r (TR 23 1 (eS 4 eQ) r.2.2.1),.r (TR 3 1 bT r.2.2.2.1),.r (TR 23 1 (eS 4 eQ) r.2.2.2.2)]:=by
 obtain⟨bu,bw,bF,bJ⟩:=x0;refine z8 (t1:=4) (t2:=5) Tryz.func30 Y (af Y) Y (λeI M vs hvs=>?_);unfold eO at h;refine sr<|bx Y<|ag Y<|ag Y<|dn<|qq<|qq ?_;refine bH h (λj3=>AS.cL 133 [(1,.sv (slc 1 (List.map bT x1))),(2,.ptr 2 0),(23,aj j3)] [(2,⟨25,[ai bu,.sv (slc 1 (List.map (eS 4 eQ) bw)),.sv (slc 1 (List.map (eS 4 eQ) bF)),.sv (slc 4 (List.map eQ bJ))]⟩)] []) (λh=>?_) (λsW h=>?_);refine aW<|ld Y Y (.k4 Y Y Y Y)<|bE h λga lB h=>cl (pQ lB) ⟨Y,aq⟩<|lE h λe9 jB h=>nt Y _ jB<|mv Y<|bE h λPI Ih h=>?_;cases e9;refine gm Y<|lE (F Ih) λgX lM Ih=>gn Y lM<|RT.fieldAddr (.some Y Y) Y T Y<|RT.rB (.some Y Y) Y Y Y T<|lE Ih λiv o6 Ih=>gn Y o6<|lE Ih λkq qJ Ih=>gq _ Y Y (IX (p:=gX) (q:=iv) qJ) ?_;obtain rfl:=O Ih;exact pF Y<|dn<|⟨kq,h,wR []⟩;obtain rfl:=O (V Ih);exact ww<|ww<|ww<|ww<|ww<|ww<|pT Y<|dn<|⟨true,h,wR []⟩
 try dsimp only
 refine aV.n ?_;cases sW;refine fs<|sr<|fa Y Y<|lV Y Y Y<|fa Y Y<|lV Y Y Y<|lE (F h) λoY wE h=>ln Y wE<|lE h λjq nW h=>ad _ Y Y nW<|bE h λvk BP h=>RT.oA (n:=1) (e:=eB) .none Y Y T Y T (by rfl) (by decide) (by exact⟨au,aq⟩) BP<|an (s:=.row _) Y<|dn<|qq<|sr<|mv Y<|lE h λkp qo h=>ln Y qo<|mv Y ?_;refine dn<|bE h λe21 ahP PM=>?_;refine bU (λ(Xy:Unit)=>AS.cL 133 [(1,.sv (slc 1 (List.map bT x1))),(2,.ptr 2 0)] [(2,⟨25,[ai bu,.sv (slc 1 (List.map (eS 4 eQ) bw)),.sv (slc 1 (List.map (eS 4 eQ) bF)),.sv (slc 4 (List.map eQ bJ))]⟩)] []) (λXy=>.inl Xy=e21) ?_ (λXy ahQ=>?_);refine bj ?_;refine bV ahP (λYZ=>AS.cL 133 [(1,.sv (slc 1 (List.map bT x1))),(2,.ptr 2 0),(6,.row 30),(31,.sv (slc 1 (List.map bT x1))),(32,ai kp),(33,ai YZ.1)] [(2,⟨25,[ai bu,.sv (slc 1 (List.map (eS 4 eQ) bw)),.sv (slc 1 (List.map (eS 4 eQ) bF)),.sv (slc 4 (List.map eQ bJ))]⟩)] [(30,TR 4 1 eB YZ.2)]) (wR []) (λYZ y21 G21 h ahR ahS=>?_);obtain⟨CB,w6⟩:=YZ
 try dsimp only
 refine sr<|lE h λoq uS h=>ls _ Y Y uS<|dn<|qq ?_;cases oq;refine cF<|b9<|aV.x<|aV.x<|bG.x<|aV.n ?_;obtain rfl:=O (F h);exact⟨(),ahS _ Y,wR []⟩;refine cT<|bC<|aV.n<|qq<|bj<|sr<|bE (V h) λot yX h=>ix Y Y yX<|lr Y Y<|ag Y<|dn<|qq<|qq ?_;refine bH h (λj27=>AS.cL 133 [(1,.sv (slc 1 (List.map bT x1))),(2,.ptr 2 0),(6,.row 30),(8,ai ot),(31,.sv (slc 1 (List.map bT x1))),(32,ai kp),(33,ai CB),(50,aj j27)] [(2,⟨25,[ai bu,.sv (slc 1 (List.map (eS 4 eQ) bw)),.sv (slc 1 (List.map (eS 4 eQ) bF)),.sv (slc 4 (List.map eQ bJ))]⟩)] [(30,TR 4 1 eB w6)]) (λh=>?_) (λKb h=>?_);refine aW<|mv Y<|lE h λzW Jy h=>ls _ Y Y Jy<|mv Y<|bE h λPF o9 h=>?_;cases zW;refine gm Y<|RT.move (.some Y Y) (s:=.row _) Y T<|lE (F o9) λqm BQ o9=>RT.NL (.some Y Y) Y Y T BQ<|lE o9 λsS DW o9=>RT.geq (.some Y Y) _ Y Y T DW ?_;obtain rfl:=O o9;refine pF Y<|mv Y<|bE h λahT zg h=>?_;cases sS;refine RT.move (.some Y Y) (s:=.row _) Y T<|gm Y<|bE (F zg) λsu h48 zg=>RT.NM (.some Y Y) Y Y Y T h48<|bE zg λI0 Oh zg=>RT.L2 (.some Y Y) Y Y Oh Y T ?_;obtain rfl:=O zg;exact pF Y<|dn<|⟨I0,h,wR []⟩;obtain rfl:=O (V zg);exact ww<|ww<|ww<|ww<|pT Y<|dn<|⟨true,h,wR []⟩;obtain rfl:=O (V o9);refine ww<|ww<|ww<|ww<|pT Y<|mv Y<|bE h λahU OJ h=>?_
 obtain rfl:=O (V OJ);exact ww<|ww<|ww<|ww<|pT Y<|dn<|⟨true,h,wR []⟩
 try dsimp only
 refine aV.n ?_;cases Kb;refine fs<|aW<|mo (s:=.row _) Y<|mv Y<|bE (F h) λLc Oq h=>iR Y Y Y Oq<|bE h λl29 abe h=>sR true Y Y Y Y abe<|RT.done<|bG.n<|aV.n<|aW<|lE h λAr I3 h=>ad _ Y Y I3<|mv Y<|RT.done ?_;obtain rfl:=O h;exact aV.n ⟨(Ar,l29),ahR _ Y,wR []⟩;refine cT<|sr<|ag Y<|ag Y<|dn<|bf<|aV.r<|bG.r<|aV.r ?_;replace h:=V h;cases h;subst ahQ
 try dsimp only
 refine aV.n<|sr<|ld Y Y (.k4 Y Y Y Y) ?_;obtain⟨⟨pJ,qF,UI,UJ,UL⟩,G3,PM⟩:=bS PM;refine RT.JU .none (jr G3) [304,305,306] (by decide) Y ⟨⟨Y,T⟩,⟨Y,T⟩,⟨Y,T⟩,aq⟩ Y ⟨Y,aq⟩ T Y Y<|an (s:=.ptr _ _) Y<|dn<|qq<|sr<|mv Y<|lE PM λQU h58 PM=>ln Y h58<|mv Y<|dn<|bE PM λe67 ahV ahW=>?_;refine bU (λ(Ki:(List (List Qr))×(List Int)×(List (List Qr)))=>AS.cL 133 [(1,.sv (slc 1 (List.map bT x1))),(9,.ptr 56 0)] [(56,⟨79,[aj pJ,ai qF,.row 313,.row 314,.row 315]⟩)] [(313,TR 23 1 (eS 4 eQ) Ki.1),(314,TR 3 1 bT Ki.2.1),(315,TR 23 1 (eS 4 eQ) Ki.2.2)]) (λKi=>.inl Ki=e67) ?_ (λKi ahX=>?_);refine bj ?_
 refine bV ahV (λQ0=>AS.cL 133 [(1,.sv (slc 1 (List.map bT x1))),(9,.ptr 56 0),(57,.sv (slc 1 (List.map bT x1))),(58,ai QU),(59,ai Q0.1)] [(56,⟨79,[aj pJ,ai qF,.row 313,.row 314,.row 315]⟩)] [(313,TR 23 1 (eS 4 eQ) Q0.2.1),(314,TR 3 1 bT Q0.2.2.1),(315,TR 23 1 (eS 4 eQ) Q0.2.2.2)]) (dD (λi=>bif Nat.beq i 313 then 304 else bif Nat.beq i 314 then 305 else bif Nat.beq i 315 then 306 else i) Y Y Y Y Y ⟨.sv au,.ptr,.sv au,.sv au,.sv au,aq⟩ ⟨⟨_,Y,⟨.sv au,.sv au,.row Y,.row Y,.row Y,aq⟩⟩,aq⟩ ⟨⟨_,Y,cj.refl _⟩,⟨_,Y,cj.refl _⟩,⟨_,Y,cj.refl _⟩,aq⟩ (λi hi=>by rw[cg (show i≠313 by omega)];rw[cg (show i≠314 by omega)];rw[cg (show i≠315 by omega)];rfl)) (λQ0 y67 G67 h ahY ahZ=>?_);obtain⟨gL,m9,nc,dK⟩:=Q0
 try dsimp only
 refine sr<|lE h λGc Oj h=>ls _ Y Y Oj<|dn<|qq ?_;cases Gc;refine cF<|b9<|aV.x<|aV.x<|bG.x<|aV.n ?_;obtain rfl:=O (F h);exact⟨(m9,nc,dK),ahZ _ Y,wR []⟩;refine cT<|bC<|aV.n<|qq<|bj<|sr<|mv Y<|bE (V h) λQ1 h62 h=>ix Y Y h62<|lr Y Y<|ag Y<|ag Y<|dn<|sr<|mv Y<|ag Y<|dn<|qq<|bE h λe77 ah0 mw=>?_;refine bU (λ(mO:Int)=>AS.cL 133 [(1,.sv (slc 1 (List.map bT x1))),(9,.ptr 56 0),(10,ai gL),(11,ai Q1),(12,ai mO),(57,.sv (slc 1 (List.map bT x1))),(58,ai QU),(59,ai gL)] [(56,⟨79,[aj pJ,ai qF,.row 313,.row 314,.row 315]⟩)] [(313,TR 23 1 (eS 4 eQ) m9),(314,TR 3 1 bT nc),(315,TR 23 1 (eS 4 eQ) dK)]) (λmO=>mO=e77) ?_ (λmO ah1=>?_);refine bj ?_;refine bV ah0 (λs77=>AS.cL 133 [(1,.sv (slc 1 (List.map bT x1))),(9,.ptr 56 0),(10,ai gL),(11,ai Q1),(12,ai s77),(57,.sv (slc 1 (List.map bT x1))),(58,ai QU),(59,ai gL)] [(56,⟨79,[aj pJ,ai qF,.row 313,.row 314,.row 315]⟩)] [(313,TR 23 1 (eS 4 eQ) m9),(314,TR 3 1 bT nc),(315,TR 23 1 (eS 4 eQ) dK)]) (wR []) (λjU y77 G77 h ah2 ah3=>?_)
 try dsimp only
 refine qq<|qq ?_;refine bH h (λj80=>AS.cL 133 [(1,.sv (slc 1 (List.map bT x1))),(9,.ptr 56 0),(10,ai gL),(11,ai Q1),(12,ai jU),(57,.sv (slc 1 (List.map bT x1))),(58,ai QU),(59,ai gL),(85,aj j80)] [(56,⟨79,[aj pJ,ai qF,.row 313,.row 314,.row 315]⟩)] [(313,TR 23 1 (eS 4 eQ) m9),(314,TR 3 1 bT nc),(315,TR 23 1 (eS 4 eQ) dK)]) (λh=>?_) (λw7 h=>?_);refine aW<|mv Y<|mo (s:=.ptr _ _) Y<|RT.cH .none Y T<|fa Y Y<|RT.eU .none (s:=.row _) Y Y Y T<|lE h λDS VX h=>lL Y Y VX<|lE h λI5 W8 h=>ls _ Y Y W8<|mv Y<|bE h λzB sq h=>?_;cases I5;obtain rfl:=O (F sq);exact ww<|ww<|ww<|ww<|ww<|ww<|ww<|ww<|ww<|ww<|ww<|ww<|pF Y<|dn<|⟨false,h,wR []⟩;refine RT.move (.some Y Y) (s:=.ptr _ _) Y T<|RT.cH (.some Y Y) Y T<|RT.fieldAddr (.some Y Y) Y T Y<|RT.eU (.some Y Y) (s:=.row _) Y Y Y T<|gm Y<|bE (V sq) λSf h78 sq=>RT.NM (.some Y Y) Y Y Y T h78<|bE sq λI2 VZ sq=>RT.L2 (e:=(eS 4 eQ)) (.some Y Y) Y Y VZ Y T<|gm Y ?_;obtain⟨⟨⟨D6,D7⟩,⟨D8,D9⟩⟩,h81,sq⟩:=bS sq;refine RT.Ro (.some Y Y) Y Y T h81<|RT.kn (cs:=[_,_,_,_]) (.some Y Y) Y T Y Y<|bE sq λQZ h83 sq=>gc (jX h83) ⟨Y,aq⟩<|lE sq λQW h84 sq=>ZA _ Y Y (xg (p:=QZ) (q:=0) h84) ?_;obtain rfl:=O sq;exact pT Y<|dn<|⟨QW,h,wR []⟩
 try dsimp only
 refine aV.n ?_;cases w7;refine cF<|b9<|aV.x<|aV.x<|bG.x<|aV.n ?_;obtain rfl:=O (F h);exact⟨jU,ah3 _ Y,wR []⟩;refine cT<|bC<|aV.n<|bj<|aW<|mv Y<|lE (V h) λJt Z6 h=>ad _ Y Y Z6<|ag Y<|RT.done<|bG.n ?_;obtain rfl:=O h;exact aV.n ⟨Jt,ah2 _ Y,wR []⟩;subst ah1
 try dsimp only
 refine aV.n<|qq<|sr<|mv Y<|mo (s:=.ptr _ _) Y<|RT.cH .none Y T<|fa Y Y<|RT.eU .none (s:=.row _) Y Y Y T<|lE mw λM4 Z8 mw=>lL Y Y Z8<|lE mw λMF h94 mw=>eq _ Y Y (xg (p:=mO) (q:=M4) h94)<|dn ?_;cases MF;refine fs<|qq<|bh mixed<|mo (s:=.ptr _ _) Y<|RT.cH .none Y T<|fa Y Y<|RT.eU .none (s:=.row _) Y Y Y T<|mv Y<|mo (s:=.ptr _ _) Y<|RT.cH .none Y T<|fa Y Y<|RT.eU .none (s:=.row _) Y Y Y T<|mv Y<|mo (s:=.ptr _ _) Y<|RT.cH .none Y T<|fa Y Y<|RT.eU .none (s:=.row _) Y Y Y T<|mv Y<|bE (F mw) λIg Xz mw=>?_;refine iR Y Y Y Xz<|bE mw λER V4 mw=>lR (e:=(eS 4 eQ)) Y Y V4 Y<|mo (s:=.ptr _ _) Y<|RT.cH .none Y T<|fa Y Y<|RT.eU .none (s:=.row _) Y Y Y T<|mv Y<|bE mw λGP V5 mw=>iR Y Y Y V5<|bE mw λPG ah4 mw=>lR (e:=(eS 4 eQ)) Y Y ah4 Y<|bE mw λSi ah5 mw=>iR Y Y Y ah5<|bE mw λY0 abf mw=>sR ER Y Y Y Y abf<|bE mw λSj ah6 mw=>?_;refine iR Y Y Y ah6<|bE mw λl85 abg mw=>sR PG Y Y Y Y abg ?_;refine RT.done ⟨by kernel_rfl,?_⟩;refine aV.n<|aW<|mo (s:=.ptr _ _) Y<|mv Y<|mv Y ?_;obtain⟨⟨l89,l90,l91⟩,V6,mw⟩:=bS mw
 refine RT.Cf .none (jz V6) 56 [313,314,315] [325,326,327] Y ⟨Y,Y,Y,aq⟩ (by decide) (by decide) Y ⟨⟨Y,T⟩,⟨Y,T⟩,⟨Y,T⟩,aq⟩ Y Y (.k3 Y Y Y) T<|RT.done<|bG.n<|aV.n<|aW<|lE mw λES V7 mw=>ad _ Y Y V7<|mv Y<|RT.done ?_;obtain rfl:=O mw;exact aV.n ⟨(ES,l89,l90,l91),ahY _ Y,dD (λi=>bif Nat.beq i 313 then 325 else bif Nat.beq i 314 then 326 else bif Nat.beq i 315 then 327 else i) Y Y Y Y Y ⟨.sv au,.ptr,.sv au,.sv au,.sv au,aq⟩ ⟨⟨_,Y,⟨.sv au,.sv au,.row Y,.row Y,.row Y,aq⟩⟩,aq⟩ ⟨⟨_,Y,cj.refl _⟩,⟨_,Y,cj.refl _⟩,⟨_,Y,cj.refl _⟩,aq⟩ (λi hi=>by rw[cg (show i≠313 by omega)];rw[cg (show i≠314 by omega)];rw[cg (show i≠315 by omega)];rfl)⟩;refine cT<|sr<|ag Y<|ag Y<|dn<|bf<|aV.r<|bG.r<|aV.r ?_;replace mw:=V mw;cases mw;subst ahX;obtain⟨Le,FA,Lf⟩:=Ki
 try dsimp only
 refine aV.n<|sr<|mo (s:=.ptr _ _) Y<|RT.cH .none Y T<|fa Y Y<|RT.eU .none (s:=.row _) Y Y Y T<|mv Y<|RT.Uq (l:=FA) (k:=x1) (e:=bT) .none Y Y Y T Y<|dn<|sr<|mo (s:=.ptr _ _) Y<|an (s:=.ptr _ _) Y<|ag Y<|dn<|bf ?_;obtain rfl:=O ahW;exact⟨.inr Y,56,[313,314,315],Y,Y,Y,⟨Y,Y,Y,aq⟩,by decide⟩;refine cT<|sr<|ag Y<|ag Y<|dn<|bf<|aV.r ?_;replace h:=V h;cases h
theorem qh{o0:Bool}{o1:Int}{o2:List (List Qr)}{o3:List Int}{o4:List (List Qr)}{r:List Int}(h:eA o0 o1 o2 o3 o4=some r):z9 ah 17 (λ_=>[.ptr 1000 0]) 79 [.s (az o0),.s (ay o1),.r (TR 23 1 (eS 4 eQ) o2),.r (TR 3 1 bT o3),.r (TR 23 1 (eS 4 eQ) o4)] (RY (TR 3 1 bT r)):=by
 refine Ab [1001,1002,1003] Tryz.func17 Y (λ_=>(af Y)) (λ_=>Y) (by decide) Y Y ⟨⟨_,Y⟩,⟨_,Y⟩,aq,aq,aq,aq⟩ (λeI M β us=>?_);unfold eA at h;refine sr<|ag Y<|dn<|cI (iZ 2 304 3 1 Y Y T)<|qq<|sr<|mo (s:=.ptr _ _) Y<|bE h λx5 h5 h=>RT.dw .none (oO h5) 1000 [1001,1002,1003] Y ⟨Y,Y,Y,aq⟩ (by decide) Y Y (.cons Y (.nil)) T<|dn ?_;cases x5;refine fs<|sr<|mo (s:=.ptr _ _) Y<|RT.cH .none Y T<|fa Y Y<|RT.eU .none (s:=.row _) Y Y Y T<|lE (F h) λeY iO h=>lL Y Y iO<|bE h λjC qH h=>RT.oA (n:=1) (e:=bT) .none Y Y T Y T (by rfl) (by decide) (by exact⟨au,aq⟩) qH<|an (s:=.row _) Y<|dn<|sr<|mo (s:=.row _) Y<|mo (s:=.ptr _ _) Y<|RT.cH .none Y T<|fa Y Y ?_;refine RT.eU .none (s:=.row _) Y Y Y T<|RT.Xu (l:=jC) (k:=o3) (e:=bT) .none (λ_=>⟨_,Y,Y⟩) (by decide) Y Y Y Y T Y<|dn<|sr<|mo (s:=.row _) Y<|an (s:=.row _) Y<|dn<|bf ?_;obtain rfl:=O h;exact⟨.inr Y,⟨_,.tmp Y,Y,by decide⟩,Y,⟨Y,Y,Y,aq⟩⟩;refine cT<|sr<|ag Y<|dn<|cI (iZ 2 310 3 1 Y Y T)<|bf<|aV.r ?_;obtain rfl:=O (V h);exact⟨.inr Y,⟨_,.tmp Y,Y,by decide⟩,Y,⟨Y,Y,Y,aq⟩⟩
theorem qO{o0:Bool}{o1:Int}{o2:List (List Qr)}{o3:List Int}{o4:List (List Qr)}{r:List (List Qr)}(h:eL o0 o1 o2 o3 o4=some r):z9 ah 18 (λ_=>[.ptr 1000 0]) 79 [.s (az o0),.s (ay o1),.r (TR 23 1 (eS 4 eQ) o2),.r (TR 3 1 bT o3),.r (TR 23 1 (eS 4 eQ) o4)] (RY (TR 23 1 (eS 4 eQ) r)):=by
 refine Ab [1001,1002,1003] Tryz.func18 Y (λ_=>(af Y)) (λ_=>Y) (by decide) Y Y ⟨⟨_,Y⟩,⟨_,Y⟩,aq,aq,aq,aq⟩ (λeI M β us=>?_);unfold eL at h;refine sr<|ag Y<|dn<|cI (iZ 2 304 23 1 Y Y T)<|qq<|sr<|mo (s:=.ptr _ _) Y<|bE h λx7 h7 h=>RT.dw .none (oO h7) 1000 [1001,1002,1003] Y ⟨Y,Y,Y,aq⟩ (by decide) Y Y (.cons Y (.nil)) T<|dn ?_;cases x7;refine fs<|sr<|ag Y<|dn<|cI (iZ 3 314 23 1 Y Y T)<|qq<|sr<|mo (s:=.ptr _ _) Y<|RT.cH .none Y T<|fa Y Y<|RT.eU .none (s:=.row _) Y Y Y T<|lE (F h) λeX iz h=>lL Y Y iz<|mv Y<|dn<|bE h λe6 Di nx=>?_;refine bU (λ(zC:(List (List Qr)))=>AS.cL 26 [(3,.row 316)] [(1000,⟨79,[aj o0,ai o1,.row 1001,.row 1002,.row 1003]⟩)] [(316,TR 23 1 (eS 4 eQ) zC),(1001,TR 23 1 (eS 4 eQ) o2),(1002,TR 3 1 bT o3),(1003,TR 23 1 (eS 4 eQ) o4)]) (λzC=>zC=e6) ?_ (λzC Dj=>?_);refine bj ?_
 refine bV Di (λs6=>AS.cL 26 [(0,.ptr 1000 0),(3,.row 316),(11,.row 1003),(12,ai eX),(13,ai s6.1)] [(1000,⟨79,[aj o0,ai o1,.row 1001,.row 1002,.row 1003]⟩)] [(316,TR 23 1 (eS 4 eQ) s6.2),(1003,TR 23 1 (eS 4 eQ) o4),(1001,TR 23 1 (eS 4 eQ) o2),(1002,TR 3 1 bT o3)]) (dD (λi=>bif Nat.beq i 316 then 314 else i) Y Y Y Y Y ⟨.ptr,.row Y,.row Y,.sv au,.sv au,aq⟩ ⟨⟨_,Y,⟨.sv au,.sv au,.row Y,.row Y,.row Y,aq⟩⟩,aq⟩ ⟨⟨_,Y,cj.refl _⟩,⟨_,Y,cj.refl _⟩,⟨_,Y,cj.refl _⟩,⟨_,Y,cj.refl _⟩,aq⟩ (λi hi=>by rw[cg (show i≠316 by omega)];rfl)) (λs6 y6 G6 h Dk yW=>?_);obtain⟨ye,FB⟩:=s6
 try dsimp only
 refine sr<|lE h λga lB h=>ls _ Y Y lB<|dn<|qq ?_;cases ga;refine cF<|b9<|aV.x<|aV.x<|bG.x<|aV.n ?_;obtain rfl:=O (F h);exact⟨FB,yW _ Y,wR []⟩;refine cT<|bC<|aV.n<|qq<|bj<|sr<|bE (V h) λe9 jB h=>iR Y Y Y jB<|bE h λjD n8 h=>lR (e:=(eS 4 eQ)) Y Y n8 Y<|ag Y<|dn<|aW<|mo (s:=.row _) Y<|mv Y<|mo (s:=.ptr _ _) Y<|bE h λja o5 h=>RT.dw .none (yf o5) 1000 [1001,1002,1003] Y ⟨Y,Y,Y,aq⟩ (by decide) Y Y (.cons Y (.nil)) T<|bE h λiv o6 h=>cl (vD o6) ⟨Y,Y,aq⟩<|bl (l:=[iv]) (e:=(eS 4 eQ)) (.one Y (.nil)) Y Y Y Y Y Y ?_;refine bE h λku sZ h=>aR (k:=[iv]) (e:=(eS 4 eQ)) Y Y Y sZ<|an (s:=.row _) Y<|RT.done<|bG.n<|aV.n<|aW<|lE h λjE qp h=>ad _ Y Y qp<|mv Y<|RT.done ?_;obtain rfl:=O h;exact aV.n ⟨(jE,ku),Dk _ Y,dD (λi=>bif Nat.beq i 316 then 23 else i) Y Y Y Y Y ⟨.ptr,.row Y,.row Y,.sv au,.sv au,aq⟩ ⟨⟨_,Y,⟨.sv au,.sv au,.row Y,.row Y,.row Y,aq⟩⟩,aq⟩ ⟨⟨_,Y,cj.refl _⟩,⟨_,Y,cj.refl _⟩,⟨_,Y,cj.refl _⟩,⟨_,Y,cj.refl _⟩,aq⟩ (λi hi=>by rw[cg (show i≠316 by omega)];rfl)⟩;subst Dj
 try dsimp only
 refine aV.n<|sr<|mo (s:=.row _) Y<|an (s:=.row _) Y<|dn<|bf ?_;obtain rfl:=O nx;exact⟨.inr Y,⟨_,.tmp Y,Y,by decide⟩,Y,⟨Y,Y,Y,aq⟩⟩;refine cT<|sr<|ag Y<|dn<|cI (iZ 2 310 23 1 Y Y T)<|bf<|aV.r ?_;obtain rfl:=O (V h);exact⟨.inr Y,⟨_,.tmp Y,Y,by decide⟩,Y,⟨Y,Y,Y,aq⟩⟩
set_option maxHeartbeats 4000000 in
theorem AG{o0:Bool}{o1:Int}{o2:List (List Qr)}{o3:List Int}{o4:List (List Qr)}{r:(List Int)×(List (List Qr))×Bool}(h:jV o0 o1 o2 o3 o4=some r):wP ah 44 [.ptr 1000 0] 79 [.s (az o0),.s (ay o1),.r (TR 23 1 (eS 4 eQ) o2),.r (TR 3 1 bT o3),.r (TR 23 1 (eS 4 eQ) o4)] (.yB [slc 1 (List.map bT r.1),slc 1 (List.map (eS 4 eQ) r.2.1),az r.2.2]):=by
 refine JW [1001,1002,1003] Tryz.func44 Y (af Y) Y (by decide) Y Y ⟨⟨_,Y⟩,⟨_,Y⟩,aq,aq,aq,aq⟩ (λeI M β us=>?_);unfold jV at h;refine sr<|aI Y (aB (n:=1) (e:=bT))<|aI Y (aB (n:=1) (e:=(eS 4 eQ)))<|ag Y<|dn<|sr<|mo (s:=.ptr _ _) Y<|bE h λeY iO h=>RT.KW .none (qh iO) 1000 [1001,1002,1003] Y ⟨Y,Y,Y,aq⟩ (by decide) Y Y (.cons Y (.nil)) T Y T<|mo (s:=.ptr _ _) Y<|bE h λeX iz h=>RT.KW .none (qO iz) 1000 [1001,1002,1003] Y ⟨Y,Y,Y,aq⟩ (by decide) Y Y (.cons Y (.nil)) T Y T ?_;refine an (s:=.row _) Y<|an (s:=.row _) Y<|dn<|qq<|sr<|mo (s:=.row _) Y<|lE h λga lB h=>lL Y Y lB<|mo (s:=.row _) Y<|lE h λjD n8 h=>lL Y Y n8<|lE h λgW nL h=>ne _ Y Y (IX (p:=ga) (q:=jD) nL)<|dn ?_;cases gW;refine fs<|qq<|sr<|ag Y<|dn<|bE (F h) λe40 ah7 ah8=>?_;refine bU (λ(MG:(List Int)×(List (List Qr)))=>AS.cL 75 [(5,.row 10),(6,.row 12)] [(1000,⟨79,[aj o0,ai o1,.row 1001,.row 1002,.row 1003]⟩)] [(10,TR 3 1 bT MG.1),(12,TR 23 1 (eS 4 eQ) MG.2),(1001,TR 23 1 (eS 4 eQ) o2),(1002,TR 3 1 bT o3),(1003,TR 23 1 (eS 4 eQ) o4)]) (λMG=>MG=e40) ?_ (λMG ah9=>?_);refine bj ?_
 refine bV ah7 (λXw=>AS.cL 75 [(5,.row 10),(6,.row 12),(7,ai Xw.1)] [(1000,⟨79,[aj o0,ai o1,.row 1001,.row 1002,.row 1003]⟩)] [(10,TR 3 1 bT Xw.2.1),(12,TR 23 1 (eS 4 eQ) Xw.2.2),(1001,TR 23 1 (eS 4 eQ) o2),(1002,TR 3 1 bT o3),(1003,TR 23 1 (eS 4 eQ) o4)]) (wR []) (λXw y40 G40 h aia aib=>?_);obtain⟨CC,CD,FC⟩:=Xw
 try dsimp only
 refine qq<|sr<|mv Y<|mo (s:=.row _) Y<|lE h λja o5 h=>lL Y Y o5<|lE h λiv o6 h=>ls _ Y Y o6<|dn ?_;cases iv;refine cF<|b9<|aV.x<|aV.x<|bG.x<|aV.n ?_;obtain rfl:=O (F h);exact⟨(CD,FC),aib _ Y,wR []⟩;refine cT<|bC<|aV.n<|qq<|bj<|sr<|mv Y<|ag Y<|dn<|bE (V h) λe58 aic XA=>?_;refine bU (λ(MH:(List Int)×(List (List Qr)))=>AS.cL 75 [(5,.row 10),(6,.row 12),(7,ai CC)] [(1000,⟨79,[aj o0,ai o1,.row 1001,.row 1002,.row 1003]⟩)] [(10,TR 3 1 bT MH.1),(12,TR 23 1 (eS 4 eQ) MH.2),(1001,TR 23 1 (eS 4 eQ) o2),(1002,TR 3 1 bT o3),(1003,TR 23 1 (eS 4 eQ) o4)]) (λMH=>MH=e58) ?_ (λMH aid=>?_);refine bj ?_;refine bV aic (λXx=>AS.cL 75 [(5,.row 10),(6,.row 12),(7,ai CC),(8,ai Xx.1)] [(1000,⟨79,[aj o0,ai o1,.row 1001,.row 1002,.row 1003]⟩)] [(10,TR 3 1 bT Xx.2.1),(12,TR 23 1 (eS 4 eQ) Xx.2.2),(1001,TR 23 1 (eS 4 eQ) o2),(1002,TR 3 1 bT o3),(1003,TR 23 1 (eS 4 eQ) o4)]) (wR []) (λXx y58 G58 h aie aif=>?_);obtain⟨pS,lZ,qg⟩:=Xx
 try dsimp only
 refine qq<|qq ?_;refine bH h (λj61=>AS.cL 75 [(5,.row 10),(6,.row 12),(7,ai CC),(8,ai pS),(38,aj j61)] [(1000,⟨79,[aj o0,ai o1,.row 1001,.row 1002,.row 1003]⟩)] [(10,TR 3 1 bT lZ),(12,TR 23 1 (eS 4 eQ) qg),(1001,TR 23 1 (eS 4 eQ) o2),(1002,TR 3 1 bT o3),(1003,TR 23 1 (eS 4 eQ) o4)]) (λh=>?_) (λKc h=>?_);refine bh mixed<|mv Y<|lE h λmH vp h=>gt _ Y Y vp<|mv Y<|bE h λPL qf h=>?_;cases mH;obtain rfl:=O (F qf);refine ww<|ww<|ww<|ww<|ww<|ww<|ww<|ww<|ww<|ww<|pF Y ?_;refine RT.done ⟨by kernel_rfl,?_⟩;exact aV.n<|⟨false,h,wR []⟩;refine RT.move (.some Y Y) (s:=.row _) Y T<|gm Y<|bE (V qf) λvk BP qf=>RT.NM (.some Y Y) Y Y Y T BP<|bE qf λrE CX qf=>RT.L2 (.some Y Y) Y Y CX Y T<|RT.move (.some Y Y) (s:=.row _) Y T<|gm Y<|lE qf λoq uS qf=>RT.sub (.some Y Y) _ Y Y T uS<|bE qf λot yX qf=>RT.NM (.some Y Y) Y Y Y T yX<|bE qf λqa xN qf=>RT.L2 (.some Y Y) Y Y xN Y T<|lE qf λuE E4 qf=>RT.lss (.some Y Y) _ Y Y T E4 ?_;obtain rfl:=O qf;refine pT Y ?_;refine RT.done ⟨by kernel_rfl,?_⟩;exact aV.n<|⟨uE,h,wR []⟩
 try dsimp only
 refine aV.n ?_;cases Kc;refine cF<|b9<|aV.x<|aV.x<|bG.x<|aV.n ?_;obtain rfl:=O (F h);exact⟨(lZ,qg),aif _ Y,wR []⟩;refine cT<|bC<|aV.n<|qq<|bj<|qq<|bh mixed<|mo (s:=.row _) Y<|mv Y<|mo (s:=.row _) Y<|mv Y<|lE (V h) λyz Jz h=>sb _ Y Y Jz<|mo (s:=.row _) Y<|mv Y<|lE h λsu h48 h=>sb _ Y Y h48<|bE h λI0 Oh h=>iR Y Y Y Oh<|bE h λsi EZ h=>lR Y Y EZ Y<|mo (s:=.row _) Y<|mv Y<|bE h λLc Oq h=>iR Y Y Y Oq ?_;refine bE h λAr I3 h=>lR Y Y I3 Y<|bE h λyA Mj h=>iR Y Y Y Mj<|bE h λPJ abh h=>sR si Y Y Y Y abh<|bE h λDf G3 h=>iR Y Y Y G3<|bE h λPK abi h=>sR Ar Y Y Y Y abi ?_;refine RT.done ⟨by kernel_rfl,?_⟩;refine aV.n<|bh mixed<|mo (s:=.row _) Y<|mv Y<|mo (s:=.row _) Y<|mv Y<|lE h λGe Ol h=>sb _ Y Y Ol<|mo (s:=.row _) Y<|mv Y<|lE h λUF h64 h=>sb _ Y Y h64<|bE h λYI h65 h=>iR Y Y Y h65<|bE h λI1 VU h=>lR (e:=(eS 4 eQ)) Y Y VU Y<|mo (s:=.row _) Y<|mv Y<|bE h λKR RL h=>iR Y Y Y RL<|bE h λDS VX h=>?_;refine lR (e:=(eS 4 eQ)) Y Y VX Y<|bE h λI5 W8 h=>iR Y Y Y W8<|bE h λl68 abj h=>sR I1 Y Y Y Y abj<|bE h λL7 VY h=>iR Y Y Y VY<|bE h λVJ Ot h=>sR DS Y Y Y Y Ot ?_;refine RT.done ⟨by kernel_rfl,?_⟩;refine bG.n<|aV.n<|aW<|mv Y<|lE h λmX sx h=>sb _ Y Y sx<|ag Y<|RT.done ?_;obtain rfl:=O h
 exact aV.n ⟨(mX,PK,VJ),aie _ Y,wR []⟩;subst aid;obtain⟨Ke,Kf⟩:=MH
 try dsimp only
 refine bG.n<|aV.n<|aW<|mv Y<|lE XA λku sZ XA=>ad _ Y Y sZ<|ag Y<|RT.done ?_;obtain rfl:=O XA;exact aV.n ⟨(ku,Ke,Kf),aia _ Y,wR []⟩;subst ah9;obtain⟨Kg,Kh⟩:=MG
 try dsimp only
 refine aV.n<|sr<|mo (s:=.row _) Y<|mo (s:=.row _) Y<|an (s:=.row _) Y<|an (s:=.row _) Y<|ag Y<|dn<|cI (oh (i:=10) (E1:=3) (n:=1) (e:=bT) (l:=Kg) Y)<|cI (oh (i:=12) (E1:=23) (n:=1) (e:=(eS 4 eQ)) (l:=Kh) Y)<|bf ?_;obtain rfl:=O ah8;exact⟨.inr Y,gE (.tmp Y (.tmp Y (.tmp Y (.nil)))) au,Y,⟨Y,Y,Y,aq⟩⟩;refine cT<|sr<|aI Y (aB (n:=1) (e:=bT))<|aI Y (aB (n:=1) (e:=(eS 4 eQ)))<|ag Y<|dn<|bf<|aV.r ?_;obtain rfl:=O (V h);exact⟨.inr Y,gE (.tmp Y (.tmp Y (.tmp Y (.nil)))) au,Y,⟨Y,Y,Y,aq⟩⟩
end
section
open Go.Fw
noncomputable def fF(x0:Lr)(x1:List Pv)(x2:Pv):Option (Bool):=match x0 with|⟨bu,bw,bF,bJ⟩=>match x2 with|⟨iS,jM⟩=>cK (λ(CE:Bool)=>(bif CE then(dZ).bind λvi=>some vi else(g9 ⟨bu,bw,bF,bJ⟩).bind λ⟨iJ,iK,D1,D2,PN⟩=>cK (λ(PO:Bool)=>(bif PO then cK (λ(UM:Bool)=>some UM) λWZ=>(bif false then none else some false).bind λPR=>(bif PR then(dZ).bind λyz=>some yz else some false).bind λXB=>WZ XB else(cy (λ(I4:Int×(List (List Qr))×(List Int)×(List (List Qr)))=>match I4 with|⟨Ii,A5,A6,A7⟩=>(show Option ((Int×(List (List Qr))×(List Int)×(List (List Qr)))⊕((List (List Qr))×(List Int)×(List (List Qr))))from(some (x1.length:Int)).bind λI0=>(some (decide ((Ii:Int)<I0))).bind λsi=>(bif si then(cU x1 Ii).bind λ⟨pJ,qF⟩=>(cU x1 Ii).bind λ⟨abk,UN⟩=>(bp iJ iK A5 A6 A7 pJ UN).bind λ⟨UF,l34,l35,l36⟩=>(some (IntKind.i64.wrap (Ii+1))).bind λwv=>some (.inl (wv,l34,l35,l36))else some (.inr (A5,A6,A7))))) (0,D1,D2,PN)).bind λWY=>match WY with|⟨iU,kK,kL⟩=>(ez (⟨iJ,iK,iU,kK,kL⟩:Tb)).bind λJr=>(eO ⟨bu,bw,bF,bJ⟩ Jr).bind λ⟨vI,vJ,vK,vL,vM⟩=>(jV iJ iK iU kK kL).bind λ⟨XC,XD,abl⟩=>cK (λ(FD:Bool)=>(bif FD then some false else(eO ⟨bu,bw,bF,bJ⟩ XC).bind λ⟨FE,FF,FG,FH,FI⟩=>cK (λ(FJ:Bool)=>(bif FJ then some false else(ez (⟨iJ,iK,iU,kK,kL⟩:Tb)).bind λMI=>(bp iJ iK iU kK kL iS jM).bind λ⟨XE,PJ,PK,XF⟩=>(some (decide ((XE:Int)≠0))).bind λXG=>(bif XG then cK (λ(UO:Bool)=>some UO) λK77=>(ez (⟨iJ,iK,PJ,PK,XF⟩:Tb)).bind λabm=>(gQ abm MI).bind λXH=>(bif XH then(fX (⟨vI,vJ,vK,vL,vM⟩:Tb)).bind λabn=>(fX (⟨iJ,iK,PJ,PK,XF⟩:Tb)).bind λabo=>(eW abn abo).bind λXI=>some XI else some false).bind λLg=>(bif Lg then(dZ).bind λXJ=>some XJ else some false).bind λSk=>K77 Sk else cK (λ(UP:Bool×(List (List Qr))×(List Int)×(List (List Qr)))=>match UP with|⟨FK,A8,A9,Ba⟩=>(bif FK then some false else cK (λ(PS:Bool)=>some PS) λaik=>(ez (⟨iJ,iK,A8,A9,Ba⟩:Tb)).bind λabp=>(gQ abp MI).bind λXK=>(bif XK then(fX (⟨vI,vJ,vK,vL,vM⟩:Tb)).bind λabq=>(fX (⟨iJ,iK,A8,A9,Ba⟩:Tb)).bind λabr=>(eW abq abr).bind λXL=>some XL else some false).bind λIj=>(bif Ij then(fP (⟨vI,vJ,vK,vL,vM⟩:Tb)).bind λabt=>(fP (⟨iJ,iK,A8,A9,Ba⟩:Tb)).bind λabu=>(dA abt abu).bind λXM=>some XM else some false).bind λPT=>(bif PT then(dZ).bind λXN=>some XN else some false).bind λPU=>aik PU)) λK99=>(some (decide ((iS:Int)<0))).bind λXO=>(bif XO then some true else(some (MI.length:Int)).bind λabv=>(some (decide ((abv:Int)<=iS))).bind λXP=>some XP).bind λIk=>(bif Ik then some (true,PJ,PK,XF)else(cU MI iS).bind λabw=>(bp iJ iK PJ PK XF iS abw).bind λ⟨XQ,ail,aim,ain⟩=>(some (decide ((XQ:Int)≠0))).bind λXR=>some (XR,ail,aim,ain)).bind λ⟨PV,Kj,Kk,Kl⟩=>K99 (PV,Kj,Kk,Kl)))) λK60=>(bif false then none else some false).bind λIl=>(bif Il then some true else(fX (⟨FE,FF,FG,FH,FI⟩:Tb)).bind λabx=>(eW abx XD).bind λN4=>(some (!N4)).bind λMb=>some Mb).bind λPW=>(bif PW then some true else(fK (⟨FE,FF,FG,FH,FI⟩:Tb)).bind λMc=>(fK (⟨iJ,iK,iU,kK,kL⟩:Tb)).bind λN5=>(dA Mc N5).bind λMd=>(some (!Md)).bind λMe=>some Me).bind λPX=>(bif PX then some true else(dm (⟨FE,FF,FG,FH,FI⟩:Tb)).bind λaby=>(dm (⟨iJ,iK,iU,kK,kL⟩:Tb)).bind λabz=>(eW aby abz).bind λabA=>(some (!abA)).bind λXS=>some XS).bind λPY=>K60 PY)) λK50=>(bif false then none else some false).bind λLh=>(bif Lh then some true else(some (!abl)).bind λQX=>some QX).bind λSl=>(bif Sl then some true else(ez (⟨vI,vJ,vK,vL,vM⟩:Tb)).bind λRJ=>(ez (⟨iJ,iK,iU,kK,kL⟩:Tb)).bind λZM=>(gQ RJ ZM).bind λM4=>(some (!M4)).bind λMF=>some MF).bind λSn=>(bif Sn then some true else(fX (⟨vI,vJ,vK,vL,vM⟩:Tb)).bind λWX=>(fX (⟨iJ,iK,iU,kK,kL⟩:Tb)).bind λMv=>(eW WX Mv).bind λabB=>(some (!abB)).bind λL8=>some L8).bind λPZ=>(bif PZ then some true else(dm (⟨vI,vJ,vK,vL,vM⟩:Tb)).bind λMa=>(dm (⟨iJ,iK,iU,kK,kL⟩:Tb)).bind λabC=>(eW Ma abC).bind λabD=>(some (!abD)).bind λIg=>some Ig).bind λP0=>K50 P0)) λK6=>(bif false then none else some false).bind λLi=>K6 Li)) λK3=>(kj ⟨bu,bw,bF,bJ⟩).bind λmm=>(bif mm then some true else(some (x1.length:Int)).bind λkq=>(some (decide ((12:Int)<kq))).bind λku=>some ku).bind λLj=>K3 Lj
noncomputable def fG(x0:Lr)(x1:List Pv)(x2:Pv):Option (Bool):=match x0 with|⟨bu,bw,bF,bJ⟩=>match x2 with|⟨iS,jM⟩=>cK (λ(CE:Bool)=>(bif CE then(dZ).bind λvi=>some vi else(oQ ⟨bu,bw,bF,bJ⟩).bind λ_=>cK (λ(UQ:Bool)=>some UQ) λK12=>(fW ⟨bu,bw,bF,bJ⟩).bind λwj=>(some (!wj)).bind λqm=>(bif qm then(dZ).bind λyz=>some yz else some false).bind λP1=>K12 P1)) λK3=>(kj ⟨bu,bw,bF,bJ⟩).bind λmm=>(bif mm then some true else(some (x1.length:Int)).bind λkq=>(some (decide ((12:Int)<kq))).bind λku=>some ku).bind λP2=>K3 P2
noncomputable def fR(x0:Lr)(x1:List Pv)(x2:Pv):Option (Bool):=if fW x0=some true then fF x0 x1 x2 else fG x0 x1 x2
end
section
open Go.Fw Go.Fw.Z Go.RowKit
set_option maxHeartbeats 4000000 in
theorem pg{x0:Lr}{x1:List Pv}{x2:Pv}{r:Bool}(h:fF x0 x1 x2=some r):Pure ah 7 [.agg (Jm x0),slc 2 (List.map KK x1),.agg (KK x2)] (az r):=by
 obtain⟨bu,bw,bF,bJ⟩:=x0;obtain⟨iS,jM⟩:=x2;refine bD Tryz.func7 Y (af Y) (λeI M vs hvs=>?_);unfold fF at h;refine sr<|bx Y<|bx Y<|ag Y<|dn<|qq<|qq ?_;refine bH h (λj3=>AS.cL 213 [(1,.sv (slc 2 (List.map KK x1))),(3,.ptr 3 0),(5,.ptr 5 0),(24,aj j3)] [(5,⟨38,[ai iS,ai jM]⟩),(3,⟨25,[ai bu,.sv (slc 1 (List.map (eS 4 eQ) bw)),.sv (slc 1 (List.map (eS 4 eQ) bF)),.sv (slc 4 (List.map eQ bJ))]⟩)] []) (λh=>?_) (λCE h=>?_);refine aW<|ld Y Y (.k4 Y Y Y Y)<|bE h λmm n7 h=>cl (vH n7) ⟨Y,aq⟩<|mv Y<|bE h λLj Ea h=>?_;cases mm;refine gm Y<|lE (F Ea) λkq qJ Ea=>gn Y qJ<|lE Ea λku sZ Ea=>gg _ Y Y sZ ?_;obtain rfl:=O Ea;exact pF Y<|dn<|⟨ku,h,wR []⟩;obtain rfl:=O (V Ea);exact ww<|ww<|ww<|pT Y<|dn<|⟨true,h,wR []⟩
 try dsimp only
 refine aV.n ?_;cases CE;refine fs<|sr<|ld Y Y (.k4 Y Y Y Y) ?_;obtain⟨⟨iJ,iK,D1,D2,PN⟩,wE,h⟩:=bS (F h);refine RT.AZ .none (tZ wE) [304,305,306] (by decide) Y ⟨⟨Y,T⟩,⟨Y,T⟩,⟨Y,T⟩,aq⟩ Y ⟨Y,aq⟩ T Y Y<|mo (s:=.cmp _ _) Y<|RT.nB .none Y Y T<|RT.nB .none Y Y T<|an (s:=.ptr _ _) Y<|ag Y<|dn<|qq<|qq ?_;refine bH h (λj6=>AS.cL 213 [(1,.sv (slc 2 (List.map KK x1))),(3,.ptr 3 0),(5,.ptr 5 0),(7,.ptr 28 0),(8,ai 0),(36,aj j6)] [(28,⟨79,[aj iJ,ai iK,.row 304,.row 305,.row 306]⟩),(5,⟨38,[ai iS,ai jM]⟩),(3,⟨25,[ai bu,.sv (slc 1 (List.map (eS 4 eQ) bw)),.sv (slc 1 (List.map (eS 4 eQ) bF)),.sv (slc 4 (List.map eQ bJ))]⟩)] [(304,TR 23 1 (eS 4 eQ) D1),(305,TR 3 1 bT D2),(306,TR 23 1 (eS 4 eQ) PN)]) (λh=>?_) (λPO h=>?_);refine aW<|mv Y<|ne false Y Y (by decide)<|mv Y<|bE h λLi abE h=>RT.move (.some Y Y) (s:=.ptr _ _) Y T<|RT.Fj (.some Y Y) Y Y T ?_;obtain rfl:=O (F abE);exact pF Y<|dn<|⟨false,h,wR []⟩
 try dsimp only
 refine aV.n ?_;cases PO;refine fs<|qq<|sr<|ag Y<|dn<|bE (F h) λWY W4 cx=>?_;refine bU (λ(yh:(List (List Qr))×(List Int)×(List (List Qr)))=>AS.cL 213 [(3,.ptr 3 0),(5,.ptr 5 0),(7,.ptr 28 0)] [(28,⟨79,[aj iJ,ai iK,.row 313,.row 314,.row 315]⟩),(5,⟨38,[ai iS,ai jM]⟩),(3,⟨25,[ai bu,.sv (slc 1 (List.map (eS 4 eQ) bw)),.sv (slc 1 (List.map (eS 4 eQ) bF)),.sv (slc 4 (List.map eQ bJ))]⟩)] [(313,TR 23 1 (eS 4 eQ) yh.1),(314,TR 3 1 bT yh.2.1),(315,TR 23 1 (eS 4 eQ) yh.2.2)]) (λyh=>yh=WY) ?_ (λyh W5=>?_);refine bj ?_
 refine bV W4 (λI4=>AS.cL 213 [(1,.sv (slc 2 (List.map KK x1))),(3,.ptr 3 0),(5,.ptr 5 0),(7,.ptr 28 0),(9,ai I4.1)] [(28,⟨79,[aj iJ,ai iK,.row 313,.row 314,.row 315]⟩),(5,⟨38,[ai iS,ai jM]⟩),(3,⟨25,[ai bu,.sv (slc 1 (List.map (eS 4 eQ) bw)),.sv (slc 1 (List.map (eS 4 eQ) bF)),.sv (slc 4 (List.map eQ bJ))]⟩)] [(313,TR 23 1 (eS 4 eQ) I4.2.1),(314,TR 3 1 bT I4.2.2.1),(315,TR 23 1 (eS 4 eQ) I4.2.2.2)]) (dD (λi=>bif Nat.beq i 313 then 304 else bif Nat.beq i 314 then 305 else bif Nat.beq i 315 then 306 else i) Y Y Y Y Y ⟨.sv au,.ptr,.ptr,.ptr,.sv au,aq⟩ ⟨⟨_,Y,⟨.sv au,.sv au,.row Y,.row Y,.row Y,aq⟩⟩,⟨_,Y,⟨.sv au,.sv au,aq⟩⟩,⟨_,Y,⟨.sv au,.sv au,.sv au,.sv au,aq⟩⟩,aq⟩ ⟨⟨_,Y,cj.refl _⟩,⟨_,Y,cj.refl _⟩,⟨_,Y,cj.refl _⟩,aq⟩ (λi hi=>by rw[cg (show i≠313 by omega)];rw[cg (show i≠314 by omega)];rw[cg (show i≠315 by omega)];rfl)) (λI4 y30 G30 h W6 W7=>?_);obtain⟨Ii,A5,A6,A7⟩:=I4
 try dsimp only
 refine qq<|sr<|mv Y<|mv Y<|lE h λI0 Oh h=>ln Y Oh<|lE h λsi EZ h=>ls _ Y Y EZ<|dn ?_;cases si;refine cF<|b9<|aV.x<|aV.x<|bG.x<|aV.n ?_;obtain rfl:=O (F h);exact⟨(A5,A6,A7),W7 _ Y,wR []⟩;refine cT<|bC<|aV.n<|qq<|bj<|bh mixed<|mo (s:=.ptr _ _) Y<|mv Y<|mv Y ?_;obtain⟨⟨pJ,qF⟩,G3,h⟩:=bS (V h);refine ix Y Y G3<|RT.cf .none Y T Y<|lr Y Y<|mv Y<|mv Y ?_;obtain⟨⟨abk,UN⟩,Ol,h⟩:=bS h;refine ix Y Y Ol<|RT.cf .none Y T Y<|lr Y Y ?_;obtain⟨⟨UF,l34,l35,l36⟩,h64,h⟩:=bS h;refine RT.Cf .none (dY h64) 28 [313,314,315] [325,326,327] Y ⟨Y,Y,Y,aq⟩ (by decide) (by decide) Y ⟨⟨Y,T⟩,⟨Y,T⟩,⟨Y,T⟩,aq⟩ Y Y (.k3 Y Y Y) T ?_;refine RT.done ⟨by kernel_rfl,?_⟩;refine bG.n<|aV.n<|aW<|mv Y<|lE h λwv Dl h=>ad _ Y Y Dl<|ag Y<|RT.done ?_;obtain rfl:=O h;exact aV.n ⟨(wv,l34,l35,l36),W6 _ Y,dD (λi=>bif Nat.beq i 313 then 325 else bif Nat.beq i 314 then 326 else bif Nat.beq i 315 then 327 else i) Y Y Y Y Y ⟨.sv au,.ptr,.ptr,.ptr,.sv au,aq⟩ ⟨⟨_,Y,⟨.sv au,.sv au,.row Y,.row Y,.row Y,aq⟩⟩,⟨_,Y,⟨.sv au,.sv au,aq⟩⟩,⟨_,Y,⟨.sv au,.sv au,.sv au,.sv au,aq⟩⟩,aq⟩ ⟨⟨_,Y,cj.refl _⟩,⟨_,Y,cj.refl _⟩,⟨_,Y,cj.refl _⟩,aq⟩ (λi hi=>by rw[cg (show i≠313 by omega)];rw[cg (show i≠314 by omega)];rw[cg (show i≠315 by omega)];rfl)⟩;subst W5
 obtain⟨iU,kK,kL⟩:=yh
 try dsimp only
 refine aV.n<|qq<|bh mixed<|ld Y Y (.k4 Y Y Y Y)<|mo (s:=.ptr _ _) Y<|bE cx λJr VV cx=>RT.dw .none (iV VV) 28 [313,314,315] Y ⟨Y,Y,Y,aq⟩ (by decide) Y Y (.cons Y (.nil)) T ?_;obtain⟨⟨vI,vJ,vK,vL,vM⟩,RL,cx⟩:=bS cx;refine RT.AZ .none (nE RL) [331,332,333] (by decide) Y ⟨⟨Y,T⟩,⟨Y,T⟩,⟨Y,T⟩,aq⟩ Y ⟨Y,Y,aq⟩ T Y Y<|mo (s:=.cmp _ _) Y<|RT.nB .none Y Y T<|RT.nB .none Y Y T<|an (s:=.ptr _ _) Y<|ag Y ?_;refine RT.done ⟨by kernel_rfl,?_⟩;refine aV.n<|sr<|mo (s:=.ptr _ _) Y ?_;obtain⟨⟨XC,XD,abl⟩,h74,cx⟩:=bS cx;refine RT.dw .none (AG h74) 28 [313,314,315] Y ⟨Y,Y,Y,aq⟩ (by decide) Y Y (.cons Y (.nil)) T<|mv Y<|ex Y Y<|ex Y Y<|ex Y Y<|ag Y<|ag Y<|ag Y<|dn<|qq<|qq ?_
 refine bH cx (λj50=>AS.cL 213 [(3,.ptr 3 0),(5,.ptr 5 0),(7,.ptr 28 0),(10,.ptr 69 0),(12,.sv (slc 1 (List.map bT XC))),(13,.sv (slc 1 (List.map (eS 4 eQ) XD))),(111,aj j50)] [(69,⟨79,[aj vI,ai vJ,.row 331,.row 332,.row 333]⟩),(28,⟨79,[aj iJ,ai iK,.row 313,.row 314,.row 315]⟩),(5,⟨38,[ai iS,ai jM]⟩),(3,⟨25,[ai bu,.sv (slc 1 (List.map (eS 4 eQ) bw)),.sv (slc 1 (List.map (eS 4 eQ) bF)),.sv (slc 4 (List.map eQ bJ))]⟩)] [(331,TR 23 1 (eS 4 eQ) vK),(332,TR 3 1 bT vL),(333,TR 23 1 (eS 4 eQ) vM),(313,TR 23 1 (eS 4 eQ) iU),(314,TR 3 1 bT kK),(315,TR 23 1 (eS 4 eQ) kL)]) (λcx=>?_) (λFD cx=>?_);refine aW<|mv Y<|ne false Y Y (by decide)<|mv Y<|bE cx λLh abF cx=>RT.move (.some Y Y) (s:=.ptr _ _) Y T<|RT.Fj (.some Y Y) Y Y T ?_;obtain rfl:=O (F abF);refine pF Y<|mv Y<|bE cx λads P3 cx=>gm Y<|lE (F P3) λQX Z5 P3=>IY Y _ Z5 ?_;obtain rfl:=O P3;refine pF Y<|mv Y<|bE cx λadt vN cx=>?_;cases QX
 refine RT.move (.some Y Y) (s:=.ptr _ _) Y T<|bE (F vN) λRJ Z7 vN=>RT.dw (.some Y Y) (iV Z7) 69 [331,332,333] Y ⟨Y,Y,Y,aq⟩ (by decide) Y Y (.cons Y (.nil)) T<|RT.move (.some Y Y) (s:=.ptr _ _) Y T<|bE vN λZM h92 vN=>RT.dw (.some Y Y) (iV h92) 28 [313,314,315] Y ⟨Y,Y,Y,aq⟩ (by decide) Y Y (.cons Y (.nil)) T<|bE vN λM4 Z8 vN=>gc (m8 Z8) ⟨Y,Y,aq⟩<|lE vN λMF h94 vN=>IY Y _ h94 ?_;obtain rfl:=O vN;refine pF Y<|mv Y<|bE cx λabG vO cx=>?_;cases MF;refine RT.move (.some Y Y) (s:=.ptr _ _) Y T<|bE (F vO) λWX h98 vO=>RT.dw (.some Y Y) (jS h98) 69 [331,332,333] Y ⟨Y,Y,Y,aq⟩ (by decide) Y Y (.cons Y (.nil)) T<|RT.move (.some Y Y) (s:=.ptr _ _) Y T<|bE vO λMv W9 vO=>RT.dw (.some Y Y) (jS W9) 28 [313,314,315] Y ⟨Y,Y,Y,aq⟩ (by decide) Y Y (.cons Y (.nil)) T<|bE vO λabB aio vO=>gc (jZ aio) ⟨Y,Y,aq⟩<|lE vO λL8 V0 vO=>IY Y _ V0 ?_;obtain rfl:=O vO;refine pF Y<|mv Y<|bE cx λabH vP cx=>?_;cases L8
 refine RT.move (.some Y Y) (s:=.ptr _ _) Y T<|bE (F vP) λMa V3 vP=>RT.dw (.some Y Y) (ir V3) 69 [331,332,333] Y ⟨Y,Y,Y,aq⟩ (by decide) Y Y (.cons Y (.nil)) T<|RT.move (.some Y Y) (s:=.ptr _ _) Y T<|bE vP λabC aip vP=>RT.dw (.some Y Y) (ir aip) 28 [313,314,315] Y ⟨Y,Y,Y,aq⟩ (by decide) Y Y (.cons Y (.nil)) T<|bE vP λabD aiq vP=>gc (jZ aiq) ⟨Y,Y,aq⟩<|lE vP λIg Xz vP=>?_;refine IY Y _ Xz ?_;obtain rfl:=O vP;exact pF Y<|dn<|⟨Ig,cx,wR []⟩;obtain rfl:=O (V vP);exact ww<|ww<|ww<|ww<|ww<|ww<|pT Y<|dn<|⟨true,cx,wR []⟩;obtain rfl:=O (V vO);refine ww<|ww<|ww<|ww<|ww<|ww<|pT Y<|mv Y<|bE cx λabI abJ cx=>?_;obtain rfl:=O (V abJ);exact ww<|ww<|ww<|ww<|ww<|ww<|pT Y<|dn<|⟨true,cx,wR []⟩;obtain rfl:=O (V vN);refine ww<|ww<|ww<|ww<|ww<|ww<|pT Y<|mv Y<|bE cx λabK abL cx=>?_;obtain rfl:=O (V abL);refine ww<|ww<|ww<|ww<|ww<|ww<|pT Y<|mv Y<|bE cx λabM abN cx=>?_;obtain rfl:=O (V abN);exact ww<|ww<|ww<|ww<|ww<|ww<|pT Y<|dn<|⟨true,cx,wR []⟩
 try dsimp only
 refine aV.n ?_;cases FD;refine fs<|sr<|ld Y Y (.k4 Y Y Y Y)<|mv Y ?_;obtain⟨⟨FE,FF,FG,FH,FI⟩,air,cx⟩:=bS (F cx);refine RT.AZ .none (nE air) [337,338,339] (by decide) Y ⟨⟨Y,T⟩,⟨Y,T⟩,⟨Y,T⟩,aq⟩ Y ⟨Y,Y,aq⟩ T Y Y<|mo (s:=.cmp _ _) Y<|RT.nB .none Y Y T<|RT.nB .none Y Y T<|an (s:=.ptr _ _) Y<|ag Y<|dn<|qq<|qq ?_;refine bH cx (λj60=>AS.cL 213 [(5,.ptr 5 0),(7,.ptr 28 0),(10,.ptr 69 0),(146,aj j60)] [(69,⟨79,[aj vI,ai vJ,.row 331,.row 332,.row 333]⟩),(28,⟨79,[aj iJ,ai iK,.row 313,.row 314,.row 315]⟩),(5,⟨38,[ai iS,ai jM]⟩)] [(331,TR 23 1 (eS 4 eQ) vK),(332,TR 3 1 bT vL),(333,TR 23 1 (eS 4 eQ) vM),(313,TR 23 1 (eS 4 eQ) iU),(314,TR 3 1 bT kK),(315,TR 23 1 (eS 4 eQ) kL)]) (λcx=>?_) (λFJ cx=>?_);refine aW<|mv Y<|ne false Y Y (by decide)<|mv Y<|bE cx λIl abO cx=>RT.move (.some Y Y) (s:=.ptr _ _) Y T<|RT.Fj (.some Y Y) Y Y T ?_;obtain rfl:=O (F abO);refine pF Y<|mv Y<|bE cx λabP CF cx=>RT.move (.some Y Y) (s:=.ptr _ _) Y T<|bE (F CF) λabx ais CF=>RT.dw (.some Y Y) (jS ais) 115 [337,338,339] Y ⟨Y,Y,Y,aq⟩ (by decide) Y Y (.cons Y (.nil)) T<|gm Y<|bE CF λN4 h128 CF=>gc (jZ h128) ⟨Y,Y,aq⟩<|lE CF λMb V8 CF=>IY Y _ V8 ?_;obtain rfl:=O CF;refine pF Y<|mv Y<|bE cx λabQ vQ cx=>?_;cases Mb
 refine RT.move (.some Y Y) (s:=.ptr _ _) Y T<|bE (F vQ) λMc V9 vQ=>RT.dw (.some Y Y) (nN V9) 115 [337,338,339] Y ⟨Y,Y,Y,aq⟩ (by decide) Y Y (.cons Y (.nil)) T<|RT.move (.some Y Y) (s:=.ptr _ _) Y T<|bE vQ λN5 Wa vQ=>RT.dw (.some Y Y) (nN Wa) 28 [313,314,315] Y ⟨Y,Y,Y,aq⟩ (by decide) Y Y (.cons Y (.nil)) T<|bE vQ λMd Wb vQ=>gc (fE Wb) ⟨Y,Y,aq⟩<|lE vQ λMe Wc vQ=>IY Y _ Wc ?_;obtain rfl:=O vQ;refine pF Y<|mv Y<|bE cx λabR vR cx=>?_;cases Me;refine RT.move (.some Y Y) (s:=.ptr _ _) Y T<|bE (F vR) λaby ait vR=>RT.dw (.some Y Y) (ir ait) 115 [337,338,339] Y ⟨Y,Y,Y,aq⟩ (by decide) Y Y (.cons Y (.nil)) T<|RT.move (.some Y Y) (s:=.ptr _ _) Y T<|bE vR λabz aiu vR=>RT.dw (.some Y Y) (ir aiu) 28 [313,314,315] Y ⟨Y,Y,Y,aq⟩ (by decide) Y Y (.cons Y (.nil)) T<|bE vR λabA aiv vR=>gc (jZ aiv) ⟨Y,Y,aq⟩<|lE vR λXS aiw vR=>?_;refine IY Y _ aiw ?_;obtain rfl:=O vR;exact pF Y<|dn<|⟨XS,cx,wR []⟩;obtain rfl:=O (V vR);exact ww<|ww<|ww<|ww<|ww<|ww<|pT Y<|dn<|⟨true,cx,wR []⟩;obtain rfl:=O (V vQ);refine ww<|ww<|ww<|ww<|ww<|ww<|pT Y<|mv Y<|bE cx λabS abT cx=>?_;obtain rfl:=O (V abT);exact ww<|ww<|ww<|ww<|ww<|ww<|pT Y<|dn<|⟨true,cx,wR []⟩
 try dsimp only
 refine aV.n ?_;cases FJ;refine fs<|sr<|mo (s:=.ptr _ _) Y<|bE (F cx) λMI aix cx=>RT.dw .none (iV aix) 28 [313,314,315] Y ⟨Y,Y,Y,aq⟩ (by decide) Y Y (.cons Y (.nil)) T<|ag Y<|dn<|qq<|sr<|mo (s:=.ptr _ _) Y<|fa Y Y<|lV Y Y Y<|fa Y Y<|lV Y Y Y ?_;obtain⟨⟨XE,PJ,PK,XF⟩,aiy,cx⟩:=bS cx;refine RT.Cf .none (dY aiy) 28 [313,314,315] [343,344,345] Y ⟨Y,Y,Y,aq⟩ (by decide) (by decide) Y ⟨⟨Y,T⟩,⟨Y,T⟩,⟨Y,T⟩,aq⟩ Y Y (.k3 Y Y Y) T<|lE cx λXG aiz cx=>ne _ Y Y (IX (p:=XE) (q:=0) aiz)<|dn ?_;cases XG;refine fs<|qq<|qq ?_;refine bH (F cx) (λUP=>AS.cL 213 [(7,.ptr 28 0),(10,.ptr 69 0),(17,.sv (slc 1 (List.map bT MI))),(191,aj UP.1)] [(69,⟨79,[aj vI,ai vJ,.row 331,.row 332,.row 333]⟩),(28,⟨79,[aj iJ,ai iK,.row 361,.row 362,.row 363]⟩)] [(331,TR 23 1 (eS 4 eQ) vK),(332,TR 3 1 bT vL),(333,TR 23 1 (eS 4 eQ) vM),(361,TR 23 1 (eS 4 eQ) UP.2.1),(362,TR 3 1 bT UP.2.2.1),(363,TR 23 1 (eS 4 eQ) UP.2.2.2)]) (λcx=>?_) (λUP cx=>?_);refine bh mixed<|fa Y Y<|lV Y Y Y<|lE cx λXO aiA cx=>ls _ Y Y aiA<|mv Y<|bE cx λIk Eb cx=>?_;cases XO;refine RT.fieldAddr (.some Y Y) Y T Y<|RT.rB (.some Y Y) Y Y Y T<|gm Y<|lE (F Eb) λabv aiB Eb=>gn Y aiB<|lE Eb λXP aiC Eb=>RT.geq (.some Y Y) _ Y Y T aiC ?_;obtain rfl:=O Eb
 refine pF Y<|mv Y<|bE cx λabU Ad cx=>?_;cases XP;refine RT.move (.some Y Y) (s:=.ptr _ _) Y T<|RT.fieldAddr (.some Y Y) Y T Y<|RT.rB (.some Y Y) Y Y Y T<|gm Y<|RT.fieldAddr (.some Y Y) Y T Y<|RT.rB (.some Y Y) Y Y Y T<|bE (F Ad) λabw aiD Ad=>RT.Ro (.some Y Y) Y Y T aiD<|gr Y Y ?_;obtain⟨⟨XQ,aiE,aiF,aiG⟩,aiH,Ad⟩:=bS Ad;refine RT.Cf (.some Y Y) (dY aiH) 28 [343,344,345] [367,368,369] Y ⟨Y,Y,Y,aq⟩ (by decide) (by decide) Y ⟨⟨Y,T⟩,⟨Y,T⟩,⟨Y,T⟩,aq⟩ Y Y (.k3 Y Y Y) T<|lE Ad λXR aiI Ad=>gq _ Y Y (IX (p:=XQ) (q:=0) aiI) ?_;obtain rfl:=O Ad;refine pF Y ?_;refine RT.done ⟨by kernel_rfl,?_⟩;exact aV.n<|⟨(XR,aiE,aiF,aiG),cx,dD (λi=>bif Nat.beq i 361 then 367 else bif Nat.beq i 362 then 368 else bif Nat.beq i 363 then 369 else i) Y Y Y Y Y ⟨.ptr,.ptr,.sv au,.sv au,aq⟩ ⟨⟨_,Y,⟨.sv au,.sv au,.row Y,.row Y,.row Y,aq⟩⟩,⟨_,Y,⟨.sv au,.sv au,.row Y,.row Y,.row Y,aq⟩⟩,aq⟩ ⟨⟨_,Y,cj.refl _⟩,⟨_,Y,cj.refl _⟩,⟨_,Y,cj.refl _⟩,⟨_,Y,cj.refl _⟩,⟨_,Y,cj.refl _⟩,⟨_,Y,cj.refl _⟩,aq⟩ (λi hi=>by rw[cg (show i≠361 by omega)];rw[cg (show i≠362 by omega)];rw[cg (show i≠363 by omega)];rfl)⟩;obtain rfl:=O (V Ad);refine ww<|ww<|ww<|ww<|ww<|ww<|ww<|ww<|ww<|ww<|pT Y ?_;refine RT.done ⟨by kernel_rfl,?_⟩
 exact aV.n<|⟨(true,PJ,PK,XF),cx,dD (λi=>bif Nat.beq i 361 then 343 else bif Nat.beq i 362 then 344 else bif Nat.beq i 363 then 345 else i) Y Y Y Y Y ⟨.ptr,.ptr,.sv au,.sv au,aq⟩ ⟨⟨_,Y,⟨.sv au,.sv au,.row Y,.row Y,.row Y,aq⟩⟩,⟨_,Y,⟨.sv au,.sv au,.row Y,.row Y,.row Y,aq⟩⟩,aq⟩ ⟨⟨_,Y,cj.refl _⟩,⟨_,Y,cj.refl _⟩,⟨_,Y,cj.refl _⟩,⟨_,Y,cj.refl _⟩,⟨_,Y,cj.refl _⟩,⟨_,Y,cj.refl _⟩,aq⟩ (λi hi=>by rw[cg (show i≠361 by omega)];rw[cg (show i≠362 by omega)];rw[cg (show i≠363 by omega)];rfl)⟩;obtain rfl:=O (V Eb);refine ww<|ww<|ww<|ww<|ww<|pT Y<|mv Y<|bE cx λabV abW cx=>?_;obtain rfl:=O (V abW);refine ww<|ww<|ww<|ww<|ww<|ww<|ww<|ww<|ww<|ww<|pT Y ?_;refine RT.done ⟨by kernel_rfl,?_⟩;exact aV.n<|⟨(true,PJ,PK,XF),cx,dD (λi=>bif Nat.beq i 361 then 343 else bif Nat.beq i 362 then 344 else bif Nat.beq i 363 then 345 else i) Y Y Y Y Y ⟨.ptr,.ptr,.sv au,.sv au,aq⟩ ⟨⟨_,Y,⟨.sv au,.sv au,.row Y,.row Y,.row Y,aq⟩⟩,⟨_,Y,⟨.sv au,.sv au,.row Y,.row Y,.row Y,aq⟩⟩,aq⟩ ⟨⟨_,Y,cj.refl _⟩,⟨_,Y,cj.refl _⟩,⟨_,Y,cj.refl _⟩,⟨_,Y,cj.refl _⟩,⟨_,Y,cj.refl _⟩,⟨_,Y,cj.refl _⟩,aq⟩ (λi hi=>by rw[cg (show i≠361 by omega)];rw[cg (show i≠362 by omega)];rw[cg (show i≠363 by omega)];rfl)⟩;obtain⟨FK,A8,A9,Ba⟩:=UP
 try dsimp only
 refine aV.n ?_;cases FK;refine fs<|qq ?_;refine bH (F cx) (λaiJ=>AS.cL 213 [(6,aj aiJ)] [] []) (λcx=>?_) (λPS cx=>?_);refine aW<|mo (s:=.ptr _ _) Y<|bE cx λabp aiK cx=>RT.dw .none (iV aiK) 28 [361,362,363] Y ⟨Y,Y,Y,aq⟩ (by decide) Y Y (.cons Y (.nil)) T<|mv Y<|bE cx λXK aiL cx=>cl (m8 aiL) ⟨Y,Y,aq⟩<|mv Y<|bE cx λIj Ae cx=>?_;cases XK;obtain rfl:=O (F Ae);refine ww<|ww<|ww<|ww<|ww<|pF Y<|mv Y<|bE cx λabX abY cx=>?_;obtain rfl:=O (F abY);refine ww<|ww<|ww<|ww<|ww<|pF Y<|mv Y<|bE cx λabZ ab0 cx=>?_;obtain rfl:=O (F ab0);exact ww<|pF Y<|ag Y<|dn<|⟨false,cx,wR []⟩;refine RT.move (.some Y Y) (s:=.ptr _ _) Y T<|bE (V Ae) λabq aiM Ae=>RT.dw (.some Y Y) (jS aiM) 69 [331,332,333] Y ⟨Y,Y,Y,aq⟩ (by decide) Y Y (.cons Y (.nil)) T<|RT.move (.some Y Y) (s:=.ptr _ _) Y T<|bE Ae λabr aiN Ae=>RT.dw (.some Y Y) (jS aiN) 28 [361,362,363] Y ⟨Y,Y,Y,aq⟩ (by decide) Y Y (.cons Y (.nil)) T<|bE Ae λXL aiO Ae=>gc (jZ aiO) ⟨Y,Y,aq⟩ ?_;obtain rfl:=O Ae;refine pT Y<|mv Y<|bE cx λab1 Af cx=>?_;cases XL;obtain rfl:=O (F Af);refine ww<|ww<|ww<|ww<|ww<|pF Y<|mv Y<|bE cx λab2 ab3 cx=>?_;obtain rfl:=O (F ab3);exact ww<|pF Y<|ag Y<|dn<|⟨false,cx,wR []⟩
 refine RT.move (.some Y Y) (s:=.ptr _ _) Y T<|bE (V Af) λabt aiP Af=>RT.dw (.some Y Y) (oP aiP) 69 [331,332,333] Y ⟨Y,Y,Y,aq⟩ (by decide) Y Y (.cons Y (.nil)) T<|RT.move (.some Y Y) (s:=.ptr _ _) Y T<|bE Af λabu aiQ Af=>RT.dw (.some Y Y) (oP aiQ) 28 [361,362,363] Y ⟨Y,Y,Y,aq⟩ (by decide) Y Y (.cons Y (.nil)) T<|bE Af λXM aiR Af=>gc (fE aiR) ⟨Y,Y,aq⟩ ?_;obtain rfl:=O Af;refine pT Y<|mv Y<|bE cx λab4 Lk cx=>?_;cases XM;obtain rfl:=O (F Lk);exact ww<|pF Y<|ag Y<|dn<|⟨false,cx,wR []⟩;refine bE (V Lk) λXN aiS Lk=>gc (jT aiS) trivial ?_;obtain rfl:=O Lk;exact pT Y<|ag Y<|dn<|⟨XN,cx,wR []⟩
 try dsimp only
 refine aV.n<|bf ?_;obtain rfl:=O cx;exact R1 Y;refine cT<|sr<|ag Y<|dn<|bf<|aV.r ?_;obtain rfl:=O (V cx);exact R1 Y;refine cT<|qq ?_;refine bH (V cx) (λj77=>AS.cL 213 [(6,aj j77)] [] []) (λcx=>?_) (λUO cx=>?_);refine aW<|mo (s:=.ptr _ _) Y<|bE cx λabm aiT cx=>RT.dw .none (iV aiT) 28 [343,344,345] Y ⟨Y,Y,Y,aq⟩ (by decide) Y Y (.cons Y (.nil)) T<|mv Y<|bE cx λXH aiU cx=>cl (m8 aiU) ⟨Y,Y,aq⟩<|mv Y<|bE cx λLg w5 cx=>?_;cases XH;obtain rfl:=O (F w5);refine ww<|ww<|ww<|ww<|ww<|pF Y<|mv Y<|bE cx λadu Xh cx=>?_;obtain rfl:=O (F Xh);exact ww<|pF Y<|ag Y<|dn<|⟨false,cx,wR []⟩;refine RT.move (.some Y Y) (s:=.ptr _ _) Y T<|bE (V w5) λabn aiV w5=>RT.dw (.some Y Y) (jS aiV) 69 [331,332,333] Y ⟨Y,Y,Y,aq⟩ (by decide) Y Y (.cons Y (.nil)) T<|RT.move (.some Y Y) (s:=.ptr _ _) Y T<|bE w5 λabo aiW w5=>RT.dw (.some Y Y) (jS aiW) 28 [343,344,345] Y ⟨Y,Y,Y,aq⟩ (by decide) Y Y (.cons Y (.nil)) T<|bE w5 λXI aiX w5=>gc (jZ aiX) ⟨Y,Y,aq⟩ ?_;obtain rfl:=O w5;refine pT Y<|mv Y<|bE cx λadv Cy cx=>?_;cases XI;obtain rfl:=O (F Cy);exact ww<|pF Y<|ag Y<|dn<|⟨false,cx,wR []⟩;refine bE (V Cy) λXJ aiY Cy=>gc (jT aiY) trivial ?_;obtain rfl:=O Cy;exact pT Y<|ag Y<|dn<|⟨XJ,cx,wR []⟩
 try dsimp only
 refine aV.n<|bf<|aV.r ?_;obtain rfl:=O cx;exact R1 Y;refine cT<|sr<|ag Y<|dn<|bf<|aV.r ?_;obtain rfl:=O (V cx);exact R1 Y;refine cT<|sr<|ag Y<|dn<|bf<|aV.r ?_;obtain rfl:=O (V cx);exact R1 Y;refine cT<|qq ?_;refine bH (V h) (λj15=>AS.cL 213 [(6,aj j15)] [] []) (λh=>?_) (λUM h=>?_);refine aW<|mv Y<|eq false Y Y (by decide)<|mv Y<|bE h λPR Fz h=>?_;obtain rfl:=O (F Fz);refine ww<|ww<|ww<|pF Y<|mv Y<|bE h λaiZ oD h=>?_;obtain rfl:=O (F oD);exact ww<|pF Y<|ag Y<|dn<|⟨false,h,wR []⟩
 try dsimp only
 refine aV.n<|bf<|aV.r ?_;obtain rfl:=O h;exact R1 Y;refine cT<|sr<|bE (V h) λvi wD h=>cl (jT wD) trivial<|ag Y<|dn<|bf<|aV.r ?_;obtain rfl:=O h;exact R1 Y
end
section
open Go.Fw Go.Fw.Z Go.RowKit
theorem pq{x0:Lr}{x1:List Pv}{x2:Pv}{r:Bool}(h:fG x0 x1 x2=some r):Pure ah 7 [.agg (Jm x0),slc 2 (List.map KK x1),.agg (KK x2)] (az r):=by
 obtain⟨bu,bw,bF,bJ⟩:=x0;obtain⟨iS,jM⟩:=x2;refine bD Tryz.func7 Y (af Y) (λeI M vs hvs=>?_);unfold fG at h;refine sr<|bx Y<|bx Y<|ag Y<|dn<|qq<|qq ?_;refine bH h (λj3=>AS.cL 213 [(1,.sv (slc 2 (List.map KK x1))),(3,.ptr 3 0),(5,.ptr 5 0),(24,aj j3)] [(5,⟨38,[ai iS,ai jM]⟩),(3,⟨25,[ai bu,.sv (slc 1 (List.map (eS 4 eQ) bw)),.sv (slc 1 (List.map (eS 4 eQ) bF)),.sv (slc 4 (List.map eQ bJ))]⟩)] []) (λh=>?_) (λCE h=>?_);refine aW<|ld Y Y (.k4 Y Y Y Y)<|bE h λmm n7 h=>cl (vH n7) ⟨Y,aq⟩<|mv Y<|bE h λP2 CA h=>?_;cases mm;refine gm Y<|lE (F CA) λkq qJ CA=>gn Y qJ<|lE CA λku sZ CA=>gg _ Y Y sZ ?_;obtain rfl:=O CA;exact pF Y<|dn<|⟨ku,h,wR []⟩;obtain rfl:=O (V CA);exact ww<|ww<|ww<|pT Y<|dn<|⟨true,h,wR []⟩
 try dsimp only
 refine aV.n ?_;cases CE;refine fs<|sr<|ld Y Y (.k4 Y Y Y Y)<|bE (F h) λ_ wE h=>cl (Ic wE) ⟨Y,aq⟩<|mv Y<|ex Y Y<|ex Y Y<|ag Y<|ag Y<|dn<|qq<|sr<|mv Y<|ne true Y Y (by decide)<|mv Y<|ww<|ww<|pT Y<|dn<|cT ?_;refine qq ?_;refine bH h (λj12=>AS.cL 213 [(6,aj j12)] [] []) (λh=>?_) (λUQ h=>?_);refine aW<|mv Y<|eq true Y Y (by decide)<|mv Y<|gl Y Y (.k4 Y Y Y Y)<|bE h λwj G0 h=>gc (pQ G0) ⟨Y,aq⟩<|lE h λqm BQ h=>IY Y _ BQ<|pT Y<|mv Y<|bE h λP1 ey h=>?_;cases qm;obtain rfl:=O (F ey);exact ww<|pF Y<|ag Y<|dn<|⟨false,h,wR []⟩;refine bE (V ey) λyz Jz ey=>gc (jT Jz) trivial ?_;obtain rfl:=O ey;exact pT Y<|ag Y<|dn<|⟨yz,h,wR []⟩
 try dsimp only
 refine aV.n<|bf<|aV.r ?_;obtain rfl:=O h;exact R1 Y;refine cT<|sr<|bE (V h) λvi wD h=>cl (jT wD) trivial<|ag Y<|dn<|bf<|aV.r ?_;obtain rfl:=O h;exact R1 Y
end
section
open Go.Fw Go.Fw.Z Go.RowKit
theorem qi{x0:Lr}{x1:List Pv}{x2:Pv}{r:Bool}(h:fR x0 x1 x2=some r):Pure ah 7 [.agg (Jm x0),slc 2 (List.map KK x1),.agg (KK x2)] (az r):=by
 unfold fR at h;split at h
 ·exact pg h
 exact pq h
end
end Go.Proofs.YtningmnklfpfjaaGreat
namespace Go.Fw
section
theorem uK{n:Nat}(h:n<=9223372036854775807):IntKind.i64.wrap (n:Int)=n:=mE (by omega)
theorem cQ{x:Int}(h: -9223372036854775808<=x)(h':x<=9223372036854775807):IntKind.i64.wrap x=x:=mE ⟨h,h'⟩
theorem bQ{n:Nat}(h:n<9223372036854775807):IntKind.i64.wrap ((n:Int)+1)=((n+1:Nat):Int):=by rw[mE (by omega)];simp
theorem uL{n m:Nat}(h:n+m<=9223372036854775807):IntKind.i64.wrap ((n:Int)+(m:Int))=((n+m:Nat):Int):=by rw[mE (by omega)];simp
theorem Im{n:Nat}(h:n<=9223372036854775807):IntKind.i64.wrap (((n+1:Nat):Int)-1)=(n:Int):=by rw[mE (by omega)];omega
theorem bK{α:Type}{l:List α}{i:Nat}{a:α}(h:l[i]? =some a):cU l (i:Int)=some a:=by simp[cU,h]
theorem zD{α:Type}{l:List α}{a:α}(h:l[0]? =some a):cU l 0=some a:=by simp[cU,h]
theorem P4{α:Type}{l:List α}{a:α}(h:l[1]? =some a):cU l 1=some a:=by simp[cU,h]
theorem bR{α:Type}{l:List α}{i:Nat}(h:i<l.length):ko l (i:Int)=some i:=by simp[ko,h]
theorem eD{α:Type}{l:List α}{i:Nat}{y:α}(h:i<l.length):stM l i y=some (l.set i y):=by simp[stM,h]
theorem P5{α:Type}{b:Nat}{l k:List α}(h:(l.length+k.length)*b<=140737488355328)(h':l.length+k.length<=140737488355328):yM b l k=some (l++k):=by simp[yM,h,h']
theorem CG{α:Type}{b:Nat}{l:List α}{x:α}(hb:b<=100)(h:l.length<=1000000000000):yM b l [x]=some (l++[x]):=by
 apply P5
 ·have:(l.length+[x].length)*b<=1000000000001*100:=Nat.mul_le_mul (by simp;omega) hb;omega
 simp;omega
theorem ai0{α:Type}{b:Nat}{l k:List α}(hb:b<=100)(h:l.length+k.length<=1000000000000):yM b l k=some (l++k):=by
 apply P5
 ·have:(l.length+k.length)*b<=1000000000000*100:=Nat.mul_le_mul h hb;omega
 omega
theorem CH{α:Type}{b:Nat}{n:Nat}(hb:b<=100)(h:n<=1000000000000):NF (α:=α) b (n:Int)=some []:=by
 have:b*n<=100*1000000000000:=Nat.mul_le_mul hb h;have h2:(b:Int)*(n:Int)=((b*n:Nat):Int):=by simp
 unfold NF;rw[h2,if_pos ⟨by omega,by omega,by omega⟩]
theorem oR{α:Type}{b:Nat}{n:Nat}{z:α}(hb:b<=100)(h:n<=1000000000000):CV b (n:Int) z=some (List.replicate n z):=by
 have:b*n<=100*1000000000000:=Nat.mul_le_mul hb h;have h2:(b:Int)*(n:Int)=((b*n:Nat):Int):=by simp
 unfold CV;rw[h2,if_pos ⟨by omega,by omega,by omega⟩,Int.toNat_natCast]
theorem P6{α:Type}{l:List α}{i j:Nat}(h:i<=j)(h':j<=l.length):Db l (i:Int) (j:Int)=some (cut l i j):=by
 unfold Db;rw[if_pos ⟨by omega,by omega,by omega⟩];simp
theorem zE{α:Type}{l:List α}{j:Nat}(h':j<=l.length):Db l 0 (j:Int)=some (l.take j):=by
 have:=P6 (l:=l) (i:=0) (j:=j) (by omega) h';simpa[cut]using this
theorem rQ{M a b:Nat}(h:b<=a)(h':a<M):oZ M a b=a-b:=by
 unfold oZ;rw[show(a:Int)-(b:Int)=((a-b:Nat):Int) by omega,<-Int.natCast_emod,Int.toNat_natCast,Nat.mod_eq_of_lt (by omega)]
theorem Bb{M a b:Nat}(h:a<b)(h':b<=M):oZ M a b=M+a-b:=by
 unfold oZ;have:((a:Int)-(b:Int))%(M:Int)=((M+a-b:Nat):Int):=by
  rw[<-Int.add_emod_right (a:=(a:Int)-b),show(a:Int)-(b:Int)+(M:Int)=((M+a-b:Nat):Int) by omega,<-Int.natCast_emod,Nat.mod_eq_of_lt (by omega)]
 rw[this,Int.toNat_natCast]
theorem Bc{o n i:Nat}(h:i<n):QT o n (i:Int)=some (o+i):=by simp[QT,h]
theorem qP{α:Type}{l l':List α}(h:l'.length=l.length):vg l l'=some ():=by simp[vg,h]
theorem FL{M a b:Nat}(h:b≠0)(h':a<M):EC M a b=some (a/b):=by
 unfold EC;rw[if_neg h,Nat.mod_eq_of_lt (Nat.lt_of_le_of_lt (Nat.div_le_self _ _) h')]
theorem Bd{a b:Nat}(h:b≠0):Dc a b=some (a%b):=by unfold Dc;rw[if_neg h]
theorem cC{α β:Type}{a:α}{f:α->Option β}:Option.bind (some a) f=f a:=by
 have h:∀o,o=some a->Option.bind o f=f a:=by intro o ho;rw[ho];rfl
 exact h _ Y
theorem jt{α:Type}{x y:α}:(bif true then x else y)=x:=by
 have h:∀b,b=true->(bif b then x else y)=x:=by intro b hb;rw[hb];rfl
 exact h _ Y
theorem jF{α:Type}{x y:α}:(bif false then x else y)=y:=by
 have h:∀b,b=false->(bif b then x else y)=y:=by intro b hb;rw[hb];rfl
 exact h _ Y
theorem mP{S E R:Type}{body:S->Option (S⊕E)}{s:S}{f:E->Option R}{r:R}(I:S->Prop)(Post:E->Prop)(μ:S->Nat)
  (step:∀s,I s->(∃s',body s=some (.inl s')/\I s'/\μ s'<μ s)\/(∃e,body s=some (.inr e)/\Post e)) (h:I s) (hf:∀e,Post e->f e=some r):(cy body s).bind f=some r:=by
 obtain⟨e,h1,h2⟩:=qC I Post μ step h;rw[h1];exact hf e h2
theorem l7{S E R:Type}{body:S->Option (S⊕E)}{s:S}{f:E->Option R}{Q:R->Prop}(I:S->Prop)(Post:E->Prop)(μ:S->Nat)
  (step:∀s,I s->(∃s',body s=some (.inl s')/\I s'/\μ s'<μ s)\/(∃e,body s=some (.inr e)/\Post e)) (h:I s) (hf:∀e,Post e->∃r,f e=some r/\Q r):∃r,(cy body s).bind f=some r/\Q r:=by
 obtain⟨e,h1,h2⟩:=qC I Post μ step h;rw[h1];exact hf e h2
theorem bP{S E R:Type}{body:S->Option (S⊕E)}{s:S}{f:E->Option R}{r:R}(st:Nat->S)(n:Nat)(e:E)(h0:s=st 0)(hs:∀k,k<n->body (st k)=some (.inl (st (k+1))))(he:body (st n)=some (.inr e))(hf:f e=some r):(cy body s).bind f=some r:=by
 rw[h0,NJ st n hs he];exact hf
theorem rR{S R:Type}{body:Nat->S->Option S}{s:S}{f:S->Option R}{r:R}(st:Nat->S){n:Nat}(h0:s=st 0)(hs:∀k,k<n->body k (st k)=some (st (k+1)))(hf:f (st n)=some r):(nJ body n s).bind f=some r:=by
 rw[h0,yN st n hs];exact hf
theorem aA{α β:Type}{x:Option α}{a:α}{f:α->Option β}{r:Option β}(h:x=some a)(hf:f a=r):x.bind f=r:=by rw[h];exact hf
theorem bN{α:Type}{b:Bool}{x y r:α}(hb:b=true)(h:x=r):(bif b then x else y)=r:=by rw[hb];exact h
theorem bt{α:Type}{b:Bool}{x y r:α}(hb:b=false)(h:y=r):(bif b then x else y)=r:=by rw[hb];exact h
end
section
def val(B:Nat):List Nat->Nat
 |[]=>0
 |x::l=>x+B*val B l
def gj(B:Nat):Nat->Nat->List Nat
 |0,_=>[]
 |n+1,v=>v%B::gj B n (v/B)
def l8(ws:List Nat):List Nat:=(ws.reverse.dropWhile (· ==0)).reverse
def can(B v:Nat):List Nat:=l8 (gj B v v)
theorem bZ(B:Nat):∀n v,(gj B n v).length=n
 |0,_=>rfl
 |n+1,v=>by simp[gj,bZ B n]
theorem l9(B:Nat):∀n v,val B (gj B n v)=v%B^n
 |0,v=>by simp[gj,val,Nat.mod_one]
 |n+1,v=>by
  rw[gj,val,l9 B n,Nat.pow_succ,Nat.mul_comm (B^n) B,Nat.mod_mul]
theorem nO{B:Nat}(hB:0<B):∀(n v x:Nat),x∈gj B n v->x<B
 |n+1,v,x,h=>by
  rcases List.mem_cons.1 h with rfl|h
  ·exact Nat.mod_lt _ hB
  exact nO hB n _ x h
theorem ju{B:Nat}:∀(l:List Nat),(∀x∈l,x<B)->val B l<B^l.length
 |[],_=>by simp[val]
 |x::l,h=>by
  have h1:=ju l (λy hy=>h y (List.mem_cons_of_mem _ hy));have h2:=h x (by simp);rw[val,List.length_cons,Nat.pow_succ]
  calc x+B*val B l<B+B*val B l:=by omega
   _=B*(val B l+1):=by rw[Nat.mul_add];omega
   _<=B*B^l.length:=Nat.mul_le_mul_left _ h1
   _=B^l.length*B:=Nat.mul_comm _ _
theorem Be{B:Nat}:∀(l:List Nat),(∀x∈l,x<B)->gj B l.length (val B l)=l
 |[],_=>rfl
 |x::l,h=>by
  have h2:=h x (by simp);have hB:0<B:=by omega
  rw[List.length_cons,gj,val,Nat.add_mul_mod_self_left,Nat.mod_eq_of_lt h2,Nat.add_mul_div_left _ _ hB,Nat.div_eq_of_lt h2,Nat.zero_add,Be l (λy hy=>h y (List.mem_cons_of_mem _ hy))]
theorem yl{B:Nat}:∀(n v j:Nat),j<n->(gj B n v)[j]? =some (v/B^j%B)
 |n+1,v,0,_=>by simp[gj]
 |n+1,v,j+1,h=>by
  rw[gj,List.getElem?_cons_succ,yl n _ j (by omega),Nat.div_div_eq_div_mul,Nat.pow_succ,Nat.mul_comm B]
theorem FM{B:Nat}:∀(a b:List Nat),val B (a++b)=val B a+B^a.length*val B b
 |[],b=>by simp[val]
 |x::a,b=>by
  rw[List.cons_append,val,val,FM a b,List.length_cons,Nat.pow_succ,Nat.mul_add,Nat.add_assoc,Nat.mul_comm (B^a.length) B,Nat.mul_assoc]
theorem oS{B:Nat}:∀(n v:Nat),gj B (n+1) v=gj B n v++[v/B^n%B]
 |0,v=>by simp[gj]
 |n+1,v=>by
  rw[gj,oS n,gj,List.cons_append,Nat.div_div_eq_div_mul,Nat.pow_succ,Nat.mul_comm B]
theorem uc(B:Nat):∀k,gj B k 0=List.replicate k 0
 |0=>rfl
 |k+1=>by rw[gj,Nat.zero_mod,Nat.zero_div,uc B k];rfl
theorem CI{B:Nat}(hB:0<B):∀(n k v:Nat),v<B^n->gj B (n+k) v=gj B n v++List.replicate k 0
 |0,k,v,h=>by
  have:v=0:=by simpa using h
  subst this;rw[Nat.zero_add,uc];rfl
 |n+1,k,v,h=>by
  rw[show n+1+k=n+k+1 by omega,gj,gj,List.cons_append,CI hB n k (v/B) (by rw[Nat.div_lt_iff_lt_mul hB];rwa[Nat.pow_succ]at h)]
theorem rS{B:Nat}(hB:2<=B):∀v,v<B^v
 |0=>by simp
 |v+1=>by
  have:=rS hB v;rw[Nat.pow_succ];have h2:B^v*2<=B^v*B:=Nat.mul_le_mul_left _ hB;omega
theorem rT(l:List Nat):l8 (l++[0])=l8 l:=by simp[l8]
theorem ud(l:List Nat):∀k,l8 (l++List.replicate k 0)=l8 l
 |0=>by simp
 |k+1=>by rw[List.replicate_succ',<-List.append_assoc,rT,ud l k]
theorem w8(l:List Nat){x:Nat}(h:x≠0):l8 (l++[x])=l++[x]:=by simp[l8,h]
theorem w9(xs:List Nat):xs=[]\/(∃ys,xs=ys++[0])\/(∃ys y,y≠0/\xs=ys++[y]):=by
 rcases List.eq_nil_or_concat xs with rfl|⟨ys,y,rfl⟩
 ·exact .inl Y
 by_cases hy:y=0
 ·subst hy;exact .inr (.inl ⟨ys,by simp⟩)
 exact .inr (.inr ⟨ys,y,hy,by simp⟩)
theorem zF:∀(n:Nat) (l:List Nat),l.length=n->∃k,l=l8 l++List.replicate k 0:=by
 intro n
 induction n with
 |zero=>intro l h;obtain rfl:=List.length_eq_zero_iff.1 h;exact⟨0,Y⟩
 |succ n ih=>
  intro l h;rcases w9 l with rfl|⟨ys,rfl⟩|⟨ys,y,hy,rfl⟩
  ·simp at h
  ·obtain⟨k,hk⟩:=ih ys (by simpa using h);refine⟨k+1,?_⟩;rw[rT,List.replicate_succ',<-List.append_assoc,<-hk]
  exact⟨0,by rw[w8 _ hy];simp⟩
theorem MJ{l:List Nat}{x:Nat}(h:x∈l8 l):x∈l:=by
 obtain⟨k,hk⟩:=zF _ l Y;rw[hk];exact List.mem_append_left _ h
theorem Ec(l:List Nat):(l8 l).length<=l.length:=by
 obtain⟨k,hk⟩:=zF _ l Y;have:=congrArg List.length hk;rw[List.length_append]at this;omega
theorem Ed(B:Nat):∀k,val B (List.replicate k 0)=0
 |0=>rfl
 |k+1=>by rw[List.replicate_succ,val,Ed B k];simp
theorem P7(B:Nat)(l:List Nat):val B (l8 l)=val B l:=by
 obtain⟨k,hk⟩:=zF _ l Y
 conv=>rhs;rw[hk,FM,Ed]
 simp
theorem Io{B:Nat}(hB:2<=B){n v:Nat}(h:v<B^n):l8 (gj B n v)=can B v:=by
 have hv:=rS hB v;rcases Nat.le_total n v with hn|hn
 ·obtain⟨k,rfl⟩:=Nat.exists_eq_add_of_le hn;rw[can,CI (by omega) n k _ h,ud]
 obtain⟨k,rfl⟩:=Nat.exists_eq_add_of_le hn;rw[can,CI (by omega) v k _ hv,ud]
theorem qQ{B:Nat}(hB:2<=B){l:List Nat}(h:∀x∈l,x<B):l8 l=can B (val B l):=by
 conv=>lhs;rw[<-Be l h]
 exact Io hB (ju l h)
theorem rU{B:Nat}(hB:2<=B)(v:Nat):val B (can B v)=v:=by
 rw[can,P7,l9,Nat.mod_eq_of_lt (rS hB v)]
theorem mc{B:Nat}(hB:2<=B){v x:Nat}(h:x∈can B v):x<B:=nO (by omega) v v x (MJ h)
theorem ue(B:Nat):can B 0=[]:=rfl
theorem FN{B:Nat}(hB:2<=B){v:Nat}(h:can B v=[]):v=0:=by have:=rU hB v;rw[h]at this;exact this.symm
theorem So{B:Nat}(hB:2<=B){v n:Nat}(h:v<B^n):(can B v).length<=n:=by
 rw[<-Io hB h];have:=Ec (gj B n v);rwa[bZ]at this
theorem Sq{B:Nat}(hB:2<=B)(v:Nat):l8 (can B v)=can B v:=by
 rw[qQ hB (λx hx=>mc hB hx),rU hB]
theorem Sr{B:Nat}(hB:2<=B)(v:Nat):can B v=gj B (can B v).length v:=by
 have:=Be (can B v) (λx hx=>mc hB hx);rw[rU hB]at this;exact this.symm
theorem ew{B:Nat}(hB:2<=B)(v:Nat):v<B^(can B v).length:=by
 have:=ju (can B v) (λx hx=>mc hB hx);rwa[rU hB]at this
theorem FO{B:Nat}(hB:2<=B){v j:Nat}(h:j<(can B v).length):(can B v)[j]? =some (v/B^j%B):=by
 rw[Sr hB v]at h⊢;rw[bZ]at h;exact yl _ _ _ h
theorem CJ{B:Nat}(hB:2<=B){v j:Nat}(h:(can B v).length<=j):v/B^j=0:=by
 refine Nat.div_eq_of_lt (Nat.lt_of_lt_of_le (ew hB v) ?_);exact Nat.pow_le_pow_right (by omega) h
theorem Ip{B:Nat}(hB:2<=B){v:Nat}(h:v≠0):∃l x,x≠0/\can B v=l++[x]:=by
 rcases w9 (can B v)with e|⟨ys,e⟩|⟨ys,y,hy,e⟩
 ·exact absurd (FN hB e) h
 ·exfalso;have h1:=Sq hB v;rw[e,rT]at h1;have h2:=Ec ys;rw[h1]at h2;simp at h2;omega
 exact⟨ys,y,hy,e⟩
theorem vS{B:Nat}(hB:2<=B){v n:Nat}(h:n<(can B v).length):B^n<=v:=by
 by_cases h0:v=0
 ·subst h0;simp[ue]at h
 obtain⟨l,x,hx,e⟩:=Ip hB h0;have h1:=rU hB v;rw[e,FM]at h1;have hl:n<=l.length:=by rw[e]at h;simp at h;omega
 have h2:B^n<=B^l.length:=Nat.pow_le_pow_right (by omega) hl;have h3:B^l.length<=B^l.length*val B [x]:=Nat.le_mul_of_pos_right _ (by simp[val];omega);omega
theorem fL{B:Nat}(hB:2<=B){v n:Nat}:(can B v).length<=n↔v<B^n:=by
 refine⟨λh=>?_,So hB⟩;exact Nat.lt_of_lt_of_le (ew hB v) (Nat.pow_le_pow_right (by omega) h)
theorem P8{B:Nat}(hB:2<=B){l:List Nat}{x:Nat}(hx:x≠0)(h:∀y∈l++[x],y<B):l++[x]=can B (val B (l++[x])):=by
 rw[<-qQ hB h,w8 _ hx]
theorem qR{B:Nat}:∀(l:List Nat),(∀x∈l,x<B)->∀k,l.getD k 0=val B l/B^k%B
 |[],_,k=>by simp[val]
 |x::l,h,0=>by
  have h2:=h x (by simp);simp[val,Nat.add_mul_mod_self_left,Nat.mod_eq_of_lt h2]
 |x::l,h,k+1=>by
  have h2:=h x (by simp);have hB:0<B:=by omega
  rw[List.getD_cons_succ,qR l (λy hy=>h y (List.mem_cons_of_mem _ hy)) k,val,Nat.pow_succ,Nat.mul_comm (B^k) B,<-Nat.div_div_eq_div_mul,Nat.add_mul_div_left _ _ hB,Nat.div_eq_of_lt h2,Nat.zero_add]
theorem gR(B V k:Nat):V%B^(k+1)=V%B^k+B^k*(V/B^k%B):=by
 rw[Nat.pow_succ,Nat.mod_mul]
def Gf(B V W k:Nat):Nat:=(V%B^k+W%B^k)/B^k
theorem Km{B:Nat}(hB:0<B)(V W k:Nat):Gf B V W k<=1:=by
 have hP:0<B^k:=Nat.pow_pos hB;have h1:=Nat.mod_lt V hP;have h2:=Nat.mod_lt W hP;have:Gf B V W k<2:=by rw[Gf,Nat.div_lt_iff_lt_mul hP];omega
 omega
theorem Iq{B:Nat}(hB:0<B)(V W k:Nat):(V/B^k%B+W/B^k%B+Gf B V W k)/B=Gf B V W (k+1):=by
 have hP:0<B^k:=Nat.pow_pos hB;rw[Gf,Gf,gR,gR,Nat.pow_succ,<-Nat.div_div_eq_div_mul];congr 1;rw[show V%B^k+B^k*(V/B^k%B)+(W%B^k+B^k*(W/B^k%B))=(V%B^k+W%B^k)+B^k*(V/B^k%B+W/B^k%B) by rw[Nat.mul_add];omega,Nat.add_mul_div_left _ _ hP];omega
theorem FP{B:Nat}(hB:0<B)(V W k:Nat):(V/B^k%B+W/B^k%B+Gf B V W k)%B=(V+W)/B^k%B:=by
 have hP:0<B^k:=Nat.pow_pos hB;have h:(V+W)/B^k=V/B^k+W/B^k+Gf B V W k:=by
  have e1:=Nat.div_add_mod V (B^k);have e2:=Nat.div_add_mod W (B^k);rw[Gf]
  conv=>lhs;rw[<-e1,<-e2]
  rw[show B^k*(V/B^k)+V%B^k+(B^k*(W/B^k)+W%B^k)=(V%B^k+W%B^k)+B^k*(V/B^k+W/B^k) by rw[Nat.mul_add];omega,Nat.add_mul_div_left _ _ hP];omega
 rw[h];simp[Nat.add_mod]
theorem Ss{B:Nat}{V W k:Nat}(hV:V<B^k)(hW:W<B^k):Gf B V W k=(V+W)/B^k:=by
 rw[Gf,Nat.mod_eq_of_lt hV,Nat.mod_eq_of_lt hW]
theorem Ir(B V W:Nat):Gf B V W 0=0:=by simp[Gf,Nat.mod_one]
def AH(B V W k:Nat):Nat:=(V%B^k+B^k-W%B^k)/B^k
theorem Is(B V W:Nat):AH B V W 0=1:=by simp[AH,Nat.mod_one]
theorem P9{B:Nat}(hB:0<B)(V W k:Nat):AH B V W k<=1:=by
 have hP:0<B^k:=Nat.pow_pos hB;have h1:=Nat.mod_lt V hP;have:AH B V W k<2:=by
  rw[AH,Nat.div_lt_iff_lt_mul hP];generalize W%B^k=y at*;generalize V%B^k=x at*;omega
 omega
theorem Ll{B:Nat}(hB:0<B)(V W k:Nat):V%B^(k+1)+B^(k+1)-W%B^(k+1)=(V%B^k+B^k-W%B^k)+B^k*(V/B^k%B+(B-1-W/B^k%B)):=by
 have hP:0<B^k:=Nat.pow_pos hB;have h1:=Nat.mod_lt V hP;have h2:=Nat.mod_lt W hP;have h3:=Nat.mod_lt (W/B^k) hB;rw[gR,gR,Nat.pow_succ];generalize B^k=p at*;generalize V/p%B=x at*;generalize W/p%B=y at*;obtain⟨z,rfl⟩:∃z,B=y+1+z:=⟨B-y-1,by omega⟩;have e1:y+1+z-1-y=z:=by omega
 rw[e1,Nat.mul_add p x z,Nat.mul_add p (y+1) z,Nat.mul_add p y 1];omega
theorem It{B:Nat}(hB:0<B)(V W k:Nat):(V/B^k%B+(B-1-W/B^k%B)+AH B V W k)/B=AH B V W (k+1):=by
 have hP:0<B^k:=Nat.pow_pos hB;rw[AH,AH,Ll hB,Nat.pow_succ,<-Nat.div_div_eq_div_mul,Nat.add_mul_div_left _ _ hP];congr 1;omega
theorem Kn{Q V W:Nat}(hQ:0<Q)(h:W<=V):(V%Q+Q-W%Q)%Q=(V-W)%Q:=by
 have e1:=Nat.div_add_mod V Q;have e2:=Nat.div_add_mod W Q;have h1:=Nat.mod_lt V hQ;have h2:=Nat.mod_lt W hQ;have hq:W/Q<=V/Q:=Nat.div_le_div_right h;generalize V%Q=r at*;generalize W%Q=s at*;generalize V/Q=a at*;generalize W/Q=b at*;obtain⟨c,rfl⟩:=Nat.exists_eq_add_of_le hq;rw[Nat.mul_add]at e1;rcases Nat.lt_or_ge r s with YM|YM
 ·cases c with
  |zero=>simp at e1;omega
  |succ c=>
   rw[Nat.mul_add,Nat.mul_one]at e1;rw[show V-W=Q*c+(r+Q-s) by omega,Nat.mul_add_mod]
 rw[show V-W=Q*c+(r-s) by omega,Nat.mul_add_mod,show r+Q-s=r-s+Q by omega,Nat.add_mod_right]
theorem Lm{B:Nat}(hB:0<B){V W:Nat}(h:W<=V)(k:Nat):(V/B^k%B+(B-1-W/B^k%B)+AH B V W k)%B=(V-W)/B^k%B:=by
 have hP:0<B^k:=Nat.pow_pos hB;have hQ:0<B^(k+1):=Nat.pow_pos hB;have e:=Kn hQ h;have e2:V/B^k%B+(B-1-W/B^k%B)+AH B V W k=(V%B^(k+1)+B^(k+1)-W%B^(k+1))/B^k:=by
  rw[Ll hB,Nat.add_mul_div_left _ _ hP,AH];omega
 rw[e2,<-Nat.mod_mul_right_div_self,<-Nat.mod_mul_right_div_self,<-Nat.pow_succ,e]
end
section
theorem Ln{B:Nat}(hB:0<B):∀(j N lo p d hi:Nat),lo<B^j->p<B->d<B->j<N->(gj B N (lo+B^j*(p+B*hi))).set j d=gj B N (lo+B^j*(d+B*hi))
 |0,N+1,lo,p,d,hi,hlo,hp,hd,_=>by
  have:lo=0:=by simpa using hlo
  subst this;simp only[Nat.pow_zero,Nat.zero_add,Nat.one_mul,gj,List.set_cons_zero,Nat.add_mul_mod_self_left,Nat.mod_eq_of_lt hd];rw[Nat.add_mul_div_left _ _ hB,Nat.add_mul_div_left _ _ hB,Nat.div_eq_of_lt hp,Nat.div_eq_of_lt hd]
 |j+1,N+1,lo,p,d,hi,hlo,hp,hd,hN=>by
  have e:∀q,(lo+B^(j+1)*(q+B*hi))%B=lo%B:=λq=>by
   rw[Nat.pow_succ,Nat.mul_comm (B^j) B,Nat.mul_assoc,Nat.add_mul_mod_self_left]
  have e2:∀q,(lo+B^(j+1)*(q+B*hi))/B=lo/B+B^j*(q+B*hi):=λq=>by
   rw[Nat.pow_succ,Nat.mul_comm (B^j) B,Nat.mul_assoc,Nat.add_mul_div_left _ _ hB]
  have ai1:lo/B<B^j:=by rw[Nat.div_lt_iff_lt_mul hB];rwa[Nat.pow_succ]at hlo
  rw[gj,gj,List.set_cons_succ,e,e,e2,e2,Ln hB j N (lo/B) p d hi ai1 hp hd (by omega)]
theorem uM{B:Nat}(hB:0<B){N j u u' d:Nat}(hj:j<N)(hd:d<B)(hlo:u'%B^j=u%B^j)(XT:u'/B^j%B=d)(hhi:u'/B^(j+1)=u/B^(j+1)):(gj B N u).set j d=gj B N u':=by
 have hP:0<B^j:=Nat.pow_pos hB;have f:∀u,u=u%B^j+B^j*(u/B^j%B+B*(u/B^(j+1))):=λu=>by
  have e1:=Nat.mod_add_div u (B^j);have e2:=MK B u j;rw[Nat.add_comm]at e2;rw[<-e2,e1]
 rw[f u,Ln hB j N _ _ d _ (Nat.mod_lt _ hP) (Nat.mod_lt _ hB) hd hj]
 conv=>rhs;rw[f u',hlo,XT,hhi]
where
 MK (B v m:Nat):v/B^m=B*(v/B^(m+1))+v/B^m%B:=by
  rw[Nat.pow_succ,<-Nat.div_div_eq_div_mul,Nat.div_add_mod]
def mT(B V W i k:Nat):Nat:=((V%B^i)*W)%B^(i+k)+B^i*(V/B^i%B)*(W%B^k)
def mC(B V W i k:Nat):Nat:=mT B V W i k/B^(i+k)
def mV(B V W i k:Nat):Nat:=mT B V W i k%B^(i+k)+B^(i+k)*(((V%B^i)*W)/B^(i+k))
theorem UR{B:Nat}(hB:0<B)(V W i k:Nat):mT B V W i k<B^(i+k)*B:=by
 have h1:((V%B^i)*W)%B^(i+k)<B^(i+k):=Nat.mod_lt _ (Nat.pow_pos hB);have h2:V/B^i%B<B:=Nat.mod_lt _ hB;have h3:W%B^k<B^k:=Nat.mod_lt _ (Nat.pow_pos hB);have h4:B^i*(V/B^i%B)*(W%B^k)<=B^i*(B-1)*B^k:=Nat.mul_le_mul (Nat.mul_le_mul_left _ (by omega)) (Nat.le_of_lt h3);have h5:B^i*(B-1)*B^k=B^(i+k)*(B-1):=by rw[Nat.pow_add,Nat.mul_assoc,Nat.mul_assoc,Nat.mul_comm (B-1)]
 have h6:B^(i+k)*B=B^(i+k)*(B-1)+B^(i+k):=by
  obtain⟨b,rfl⟩:∃b,B=b+1:=⟨B-1,by omega⟩;rw[Nat.add_sub_cancel,Nat.mul_add,Nat.mul_one]
 unfold mT;omega
theorem US{B:Nat}(hB:0<B)(V W i k:Nat):mC B V W i k<B:=by
 rw[mC,Nat.div_lt_iff_lt_mul (Nat.pow_pos hB),Nat.mul_comm];exact UR hB V W i k
theorem FR{B:Nat}(V W i k:Nat):mT B V W i (k+1)=mT B V W i k+B^(i+k)*(((V%B^i)*W)/B^(i+k)%B+(V/B^i%B)*(W/B^k%B)):=by
 have e1:((V%B^i)*W)%B^(i+(k+1))=((V%B^i)*W)%B^(i+k)+B^(i+k)*(((V%B^i)*W)/B^(i+k)%B):=by rw[<-Nat.add_assoc,gR]
 have e2:W%B^(k+1)=W%B^k+B^k*(W/B^k%B):=gR B W k;unfold mT;rw[e1,e2,Nat.mul_add,Nat.mul_add (B^(i+k))];have e3:B^i*(V/B^i%B)*(B^k*(W/B^k%B))=B^(i+k)*((V/B^i%B)*(W/B^k%B)):=by
  rw[Nat.pow_add,Nat.mul_assoc,Nat.mul_assoc,Nat.mul_left_comm (V/B^i%B)]
 omega
theorem St{B:Nat}(hB:0<B)(V W i k:Nat):(((V%B^i)*W)/B^(i+k)%B+(V/B^i%B)*(W/B^k%B)+mC B V W i k)/B=mC B V W i (k+1):=by
 have hP:0<B^(i+k):=Nat.pow_pos hB;rw[mC,mC,FR,<-Nat.add_assoc,Nat.pow_succ,<-Nat.div_div_eq_div_mul,Nat.add_mul_div_left _ _ hP];congr 1;omega
theorem UT{B:Nat}(V W i k:Nat):mV B V W i k%B^(i+k)=mT B V W i k%B^(i+k):=by
 rw[mV,Nat.add_mul_mod_self_left,Nat.mod_mod]
theorem Lo{B:Nat}(hB:0<B)(V W i k:Nat):mV B V W i k/B^(i+k)=((V%B^i)*W)/B^(i+k):=by
 have hP:0<B^(i+k):=Nat.pow_pos hB;rw[mV,Nat.add_mul_div_left _ _ hP,Nat.div_eq_of_lt (Nat.mod_lt _ hP),Nat.zero_add]
theorem XU{B:Nat}(hB:0<B){V W i k N:Nat}(h:i+k<N):(gj B N (mV B V W i k))[i+k]? =some (((V%B^i)*W)/B^(i+k)%B):=by
 rw[yl _ _ _ h,Lo hB]
theorem Su{B:Nat}(hB:0<B){V W i k N:Nat}(h:i+k<N):
  (gj B N (mV B V W i k)).set (i+k) ((((V%B^i)*W)/B^(i+k)%B+(V/B^i%B)*(W/B^k%B)+mC B V W i k)%B)=gj B N (mV B V W i (k+1)):=by
 have hP:0<B^(i+k):=Nat.pow_pos hB;have hPB:B^(i+(k+1))=B^(i+k)*B:=by rw[<-Nat.add_assoc,Nat.pow_succ]
 have hs:mT B V W i (k+1)/B^(i+k)=((V%B^i)*W)/B^(i+k)%B+(V/B^i%B)*(W/B^k%B)+mC B V W i k:=by
  rw[FR,Nat.add_mul_div_left _ _ hP,mC];omega
 have ht:mT B V W i (k+1)%B^(i+k)=mT B V W i k%B^(i+k):=by rw[FR,Nat.add_mul_mod_self_left]
 refine uM hB h (Nat.mod_lt _ hB) ?_ ?_ ?_
 ·rw[UT,<-ht,mV,hPB,Nat.mul_assoc,Nat.add_mul_mod_self_left,Nat.mod_mul_right_mod]
 ·rw[mV,hPB,Nat.mul_assoc,Nat.add_mul_div_left _ _ hP,Nat.add_mul_mod_self_left,Nat.mod_mul_right_div_self,Nat.mod_mod,hs]
 rw[show i+k+1=i+(k+1) by omega,Lo hB,show i+(k+1)=i+k+1 by omega,Nat.pow_succ,<-Nat.div_div_eq_div_mul,<-Nat.div_div_eq_div_mul,Lo hB]
theorem Sv{B:Nat}(V W i:Nat):mV B V W i 0=(V%B^i)*W:=by
 rw[mV,mT,Nat.pow_zero,Nat.mod_one,Nat.mul_zero,Nat.add_zero,Nat.add_zero,Nat.mod_mod,Nat.mod_add_div]
theorem Sw{B:Nat}(hB:0<B)(V W i:Nat):mC B V W i 0=0:=by
 rw[mC,mT,Nat.pow_zero,Nat.mod_one,Nat.mul_zero,Nat.add_zero,Nat.add_zero];exact Nat.div_eq_of_lt (Nat.mod_lt _ (Nat.pow_pos hB))
theorem XV{B:Nat}(hB:0<B){V W i n N:Nat}(hW:W<B^n)(h:i+n<N):(gj B N (mV B V W i n)).set (i+n) ((0+mC B V W i n)%B)=gj B N ((V%B^(i+1))*W):=by
 have hP:0<B^(i+n):=Nat.pow_pos hB;have hp:(V%B^i)*W<B^(i+n):=by
  have h1:V%B^i<B^i:=Nat.mod_lt _ (Nat.pow_pos hB);rw[Nat.pow_add];by_cases h0:W=0
  ·subst h0;rw[Nat.mul_zero];exact Nat.mul_pos (Nat.pow_pos hB) (Nat.pow_pos hB)
  calc (V%B^i)*W<B^i*W:=Nat.mul_lt_mul_of_pos_right h1 (by omega)
   _<=B^i*B^n:=Nat.mul_le_mul_left _ (Nat.le_of_lt hW)
 have hT:mT B V W i n=(V%B^(i+1))*W:=by
  rw[mT,Nat.mod_eq_of_lt hp,Nat.mod_eq_of_lt hW,gR,Nat.add_mul]
 have hlt:=UR hB V W i n;rw[hT]at hlt;refine uM hB h (Nat.mod_lt _ hB) ?_ ?_ ?_
 ·rw[UT,hT]
 ·rw[Nat.zero_add,mC,hT]
 rw[Nat.pow_succ B (i+n),Nat.div_eq_of_lt hlt,<-Nat.div_div_eq_div_mul,Lo hB,Nat.div_eq_of_lt hp,Nat.zero_div]
def sT(B V f e i:Nat):Nat:=V%B^i*f+e
def sC(B V f e i:Nat):Nat:=sT B V f e i/B^i
theorem Lp(B V f e:Nat):sC B V f e 0=e:=by simp[sC,sT,Nat.mod_one]
theorem Lq(B V f e i:Nat):sT B V f e (i+1)=sT B V f e i+B^i*(V/B^i%B*f):=by
 unfold sT;rw[gR,Nat.add_mul,Nat.mul_assoc];omega
theorem Ls{B:Nat}(hB:0<B)(V f e i:Nat):(V/B^i%B*f+sC B V f e i)/B=sC B V f e (i+1):=by
 have hP:0<B^i:=Nat.pow_pos hB;rw[sC,sC,Lq,Nat.pow_succ,<-Nat.div_div_eq_div_mul,Nat.add_mul_div_left _ _ hP];congr 1;omega
theorem Qa{B:Nat}(hB:0<B)(V f e i:Nat):(V/B^i%B*f+sC B V f e i)%B=(V*f+e)/B^i%B:=by
 have hP:0<B^i:=Nat.pow_pos hB;have h1:V*f+e=sT B V f e (i+1)+B^i*(B*(V/B^(i+1)*f)):=by
  have e1:=Nat.mod_add_div V (B^(i+1));unfold sT
  conv=>lhs;rw[<-e1,Nat.add_mul]
  rw[Nat.pow_succ,Nat.mul_assoc,Nat.mul_assoc];omega
 rw[h1,Nat.add_mul_div_left _ _ hP,Nat.add_mul_mod_self_left,Lq,Nat.add_mul_div_left _ _ hP,sC,Nat.add_comm]
theorem UU{B:Nat}(hB:0<B){V f e:Nat}(hf:f<B)(he:e<B)(i:Nat):sC B V f e i<B:=by
 have hP:0<B^i:=Nat.pow_pos hB;rw[sC,Nat.div_lt_iff_lt_mul hP];have h1:V%B^i<=B^i-1:=by have:=Nat.mod_lt V hP;omega
 have h2:V%B^i*f<=(B^i-1)*(B-1):=Nat.mul_le_mul h1 (by omega);obtain⟨p,hp⟩:∃p,B^i=p+1:=⟨B^i-1,by omega⟩;obtain⟨b,rfl⟩:∃b,B=b+1:=⟨B-1,by omega⟩;unfold sT;rw[hp]at h2⊢;rw[Nat.add_sub_cancel,Nat.add_sub_cancel]at h2;have h3:(b+1)*(p+1)=p*b+b+p+1:=by rw[Nat.add_mul,Nat.mul_add,Nat.mul_comm b p];omega
 omega
theorem XW{B V f e i:Nat}(h:V<B^i):sC B V f e i=(V*f+e)/B^i:=by rw[sC,sT,Nat.mod_eq_of_lt h]
def sU(B V f e i:Nat):Nat:=sT B V f e i%B^i+B^i*(V/B^i)
def qU(B V d n:Nat):Nat:=V%B^n+B^n*(V/B^n/d)
theorem Sx(B V d:Nat):qU B V d 0=V/d:=by simp[qU,Nat.mod_one]
theorem XX{B V d n:Nat}(h:V<B^n):qU B V d n=V:=by simp[qU,Nat.mod_eq_of_lt h,Nat.div_eq_of_lt h]
theorem Sy(B V m:Nat):V/B^m=B*(V/B^(m+1))+V/B^m%B:=by rw[Nat.pow_succ,<-Nat.div_div_eq_div_mul,Nat.div_add_mod]
theorem UW{B d:Nat}(V m:Nat):V/B^m=(V/B^(m+1)%d*B+V/B^m%B)+d*(B*(V/B^(m+1)/d)):=by
 have h1:=Sy B V m;have h2:=Nat.mod_add_div (V/B^(m+1)) d;generalize V/B^(m+1)=q at*;generalize V/B^m%B=y at*;rw[h1]
 conv=>lhs;rw[<-h2]
 rw[Nat.mul_add,Nat.mul_left_comm B d,Nat.mul_comm B (q%d)];omega
theorem ab5{B d:Nat}(hd:0<d)(V m:Nat):V/B^m/d=B*(V/B^(m+1)/d)+(V/B^(m+1)%d*B+V/B^m%B)/d:=by
 conv=>lhs;rw[UW (B:=B) (d:=d) V m]
 rw[Nat.add_mul_div_left _ _ hd,Nat.add_comm]
theorem ab6{B d:Nat}(V m:Nat):V/B^m%d=(V/B^(m+1)%d*B+V/B^m%B)%d:=by
 conv=>lhs;rw[UW (B:=B) (d:=d) V m]
 rw[Nat.add_mul_mod_self_left]
theorem ab7{B d:Nat}(hB:0<B)(hd:0<d)(V m:Nat):V/B^(m+1)%d*B+V/B^m%B<d*B:=by
 have h1:=Nat.mod_lt (V/B^(m+1)) hd;have h2:=Nat.mod_lt (V/B^m) hB;have h3:(V/B^(m+1)%d+1)*B<=d*B:=Nat.mul_le_mul_right _ h1;rw[Nat.add_mul]at h3;omega
theorem Qb{B:Nat}(hB:0<B)(V d n:Nat):qU B V d n/B^n=V/B^n/d:=by
 have hP:0<B^n:=Nat.pow_pos hB;rw[qU,Nat.add_mul_div_left _ _ hP,Nat.div_eq_of_lt (Nat.mod_lt _ hP),Nat.zero_add]
theorem ab8(B V d n:Nat):qU B V d n%B^n=V%B^n:=by rw[qU,Nat.add_mul_mod_self_left,Nat.mod_mod]
theorem SA{B:Nat}(V d m:Nat):qU B V d (m+1)%B^m=V%B^m:=by
 rw[qU,Nat.pow_succ,Nat.mul_assoc,Nat.add_mul_mod_self_left,Nat.mod_mul_right_mod]
theorem XY{B:Nat}(hB:0<B){V d m N:Nat}(h:m<N):(gj B N (qU B V d (m+1)))[m]? =some (V/B^m%B):=by
 have hP:0<B^m:=Nat.pow_pos hB;rw[yl _ _ _ h,qU,Nat.pow_succ,Nat.mul_assoc,Nat.add_mul_div_left _ _ hP,Nat.add_mul_mod_self_left,Nat.mod_mul_right_div_self,Nat.mod_mod]
theorem SB{B:Nat}(hB:0<B){V d m N:Nat}(hd:0<d)(h:m<N):(gj B N (qU B V d (m+1))).set m ((V/B^(m+1)%d*B+V/B^m%B)/d)=gj B N (qU B V d m):=by
 have hx:(V/B^(m+1)%d*B+V/B^m%B)/d<B:=by rw[Nat.div_lt_iff_lt_mul hd,Nat.mul_comm B d];exact ab7 hB hd V m
 have hq:=ab5 (B:=B) hd V m;refine uM hB h hx ?_ ?_ ?_
 ·rw[ab8,SA]
 ·rw[Qb hB,hq,Nat.mul_add_mod,Nat.mod_eq_of_lt hx]
 rw[Qb hB,Nat.pow_succ,<-Nat.div_div_eq_div_mul,Qb hB,hq,Nat.mul_add_div hB,Nat.div_eq_of_lt hx,<-Nat.pow_succ];rfl
end
section
theorem SC{B v:Nat}(hB:2<=B)(h0:v≠0)(h:v<B):can B v=[v]:=by
 have:=P8 hB (l:=[]) h0 (by simpa using h);simpa[val]using this.symm
theorem SD{B v:Nat}(hB:2<=B)(h0:v/B≠0)(h:v<B*B):can B v=[v%B,v/B]:=by
 have h1:v/B<B:=by rw[Nat.div_lt_iff_lt_mul (by omega)];exact h
 have h2:v%B<B:=Nat.mod_lt _ (by omega);have:=P8 hB (l:=[v%B]) h0 (by simp;exact⟨h2,h1⟩);simp only[List.cons_append,List.nil_append,val,Nat.mul_zero,Nat.add_zero]at this;rw[Nat.mod_add_div]at this;exact this.symm
theorem pU{B:Nat}{l:List Nat}(h:∀x∈l,x<B){i:Nat}(hi:i<l.length):l[i]? =some (val B l/B^i%B):=by
 rw[<-qR l h i];simp[List.getD,hi]
def DC(v w:Nat):Int:=if v<w then-1 else if v=w then 0 else 1
theorem ym{v w:Nat}(h:v<w):DC v w=-1:=by simp[DC,h]
theorem FU(v:Nat):DC v v=0:=by simp[DC]
theorem Bf{v w:Nat}(h:w<v):DC v w=1:=by
 have h1:¬v<w:=by omega
 have h2:¬v=w:=by omega
 simp[DC,h1,h2]
theorem CK{B v w:Nat}(hB:2<=B)(h:(can B v).length<(can B w).length):v<w:=
 Nat.lt_of_lt_of_le (ew hB v) (vS hB h)
theorem Iu(B v m:Nat):v/B^m=B*(v/B^(m+1))+v/B^m%B:=by
 rw[Nat.pow_succ,<-Nat.div_div_eq_div_mul,Nat.div_add_mod]
theorem Ee{B v w m:Nat}(h:v/B^m<w/B^m):v<w:=by
 rcases Nat.lt_or_ge v w with h1|h1
 ·exact h1
 have:=Nat.div_le_div_right (c:=B^m) h1;omega
theorem ML{B v w m:Nat}(h:v/B^(m+1)=w/B^(m+1)):(v/B^m%B=w/B^m%B/\v/B^m=w/B^m)\/(v/B^m%B<w/B^m%B/\v<w)\/(w/B^m%B<v/B^m%B/\w<v):=by
 have h1:=Iu B v m;have h2:=Iu B w m;rw[<-h]at h2;rcases Nat.lt_trichotomy (v/B^m%B) (w/B^m%B)with h3|h3|h3
 ·exact .inr (.inl ⟨h3,Ee (B:=B) (m:=m) (by omega)⟩)
 ·exact .inl ⟨h3,by omega⟩
 exact .inr (.inr ⟨h3,Ee (B:=B) (m:=m) (by omega)⟩)
end
end Go.Fw
namespace Go.Proofs.YtningmnklfpfjaaGreat
section
open Go.Fw
theorem Bg(l:List Nat)(hl:l.length<=1000000000000):bz l=some (l8 l):=by
 unfold bz;refine mP (λy=>y.length<=1000000000000/\l8 y=l8 l) (λe=>e=l8 l) (λy=>y.length) ?_ ⟨hl,Y⟩ (λe he=>by rw[he]);rintro y ⟨hy,ht⟩;rcases w9 y with rfl|⟨ys,rfl⟩|⟨ys,x,hx,rfl⟩
 ·right;exact⟨[],by simp[cK],ht⟩
 ·left;have h1:((ys++[0]).length:Int)=((ys.length+1:Nat):Int):=by simp
  have h2:ys.length<=9223372036854775807:=by simp at hy;omega
  refine⟨ys,?_,⟨by simp at hy⊢;omega,by rw[<-ht,rT]⟩,by simp⟩;simp only[cK,Option.bind_some,h1,Im h2];rw[bK (a:=0) (by simp),zE (by simp)];simp
 right;have h1:((ys++[x]).length:Int)=((ys.length+1:Nat):Int):=by simp
 have h2:ys.length<=9223372036854775807:=by simp at hy;omega
 refine⟨ys++[x],?_,by rw[<-ht,w8 _ hx]⟩;simp only[cK,Option.bind_some,h1,Im h2];rw[bK (a:=x) (by simp)];simp[hx]
def zc(n:Bool)(v:Nat):Zr:=⟨n&&v != 0,can 4294967296 v⟩
theorem Lt(n:Bool):zc n 0=⟨false,[]⟩:=by simp[zc,ue]
theorem Qc(n:Bool){v:Nat}(h:v≠0):zc n v=⟨n,can 4294967296 v⟩:=by simp[zc,h]
def Gg(l:List Nat):Prop:=(∀x∈l,x<4294967296)/\l.length<=100000000000
abbrev vl(l:List Nat):Nat:=val 4294967296 l
theorem kG(n:Bool)(l:List Nat)(h:Gg l):cE n l=some (zc n (vl l)):=by
 unfold cE;rw[Bg l (by have:=h.2;omega),qQ (by decide) h.1];show _=some (zc n (val 4294967296 l));by_cases hz:val 4294967296 l=0
 ·rw[hz,Lt];simp[ue]
 have:can 4294967296 (val 4294967296 l)≠[]:=λe=>hz (FN (by decide) e);rw[Qc _ hz];simp[this]
theorem qS(n:Bool)(v:Nat)(h:v<18446744073709551616):fy n v=some (zc n v):=by
 unfold fy;by_cases hz:v=0
 ·subst hz;simp[Lt]
 rw[Qc _ hz];by_cases h1:v/2^32=0
 ·rw[SC (by decide) hz (by omega)];simp only[Option.bind_some,hz,h1,decide_false,decide_true,cond_false,cond_true];rw[Nat.mod_eq_of_lt (by omega)]
 rw[SD (by decide) (by omega) (by omega)];simp only[Option.bind_some,hz,h1,decide_false,cond_false];rw[Nat.mod_eq_of_lt (a:=v/2^32) (by omega)]
theorem Qd{a b s:Nat}(h:a<2^s):a ||| b*2^s=a+b*2^s:=by
 rw[Nat.or_comm,Nat.mul_comm b,<-Nat.two_pow_add_eq_or_of_lt h,Nat.add_comm]
theorem low_eq(l:List Nat)(h:∀x∈l,x<4294967296)(hl:l.length<=2):dU l=some (vl l):=by
 rcases l with _|⟨x,_|⟨y,_|⟨z,l⟩⟩⟩
 ·simp[dU,vl,val]
 ·have hx:=h x (by simp);simp only[dU,zD (l:=[x]) (a:=x) rfl];simp[vl,val];omega
 ·have hx:=h x (by simp);have hy:=h y (by simp);simp only[dU,zD (l:=[x,y]) (a:=x) Y,P4 (l:=[x,y]) (a:=y) Y,Option.bind_some];rw[Nat.mod_eq_of_lt (a:=x) (by omega),Nat.mod_eq_of_lt (a:=y) (by omega),Nat.mod_eq_of_lt (a:=y*2^32) (by omega),Qd (by omega),Nat.mod_eq_of_lt (by omega)];simp[vl,val];omega
 simp at hl
theorem hH(x c:Nat)(h:x+c<18446744073709551616):bY x c=some ((x+c)%4294967296,(x+c)/4294967296):=by
 simp[bY,Nat.mod_eq_of_lt h]
theorem kM(v w:Nat)(hv:(can 4294967296 v).length<=100000000000)(hw:(can 4294967296 w).length<=100000000000):c8 (can 4294967296 v) (can 4294967296 w)=some (DC v w):=by
 unfold c8;rcases Nat.lt_trichotomy (can 4294967296 v).length (can 4294967296 w).length with hl|hl|hl
 ·rw[ym (CK (by decide) hl)];simp only[Option.bind_some];rw[show decide (((can 4294967296 v).length:Int)≠((can 4294967296 w).length:Int))=true by simp;omega,show decide (((can 4294967296 v).length:Int)<((can 4294967296 w).length:Int))=true by simp;omega];rfl
 ·simp only[Option.bind_some];rw[show decide (((can 4294967296 v).length:Int)≠((can 4294967296 w).length:Int))=false by simp;omega,cond_false];refine mP (λy=>∃n:Nat,y=(n:Int)-1/\n<=(can 4294967296 v).length/\v/4294967296^n=w/4294967296^n) (λe=>e=(if v=w then .inl ()else .inr (DC v w))) (λy=>(y+1).toNat) ?_ ⟨(can 4294967296 v).length,?_,Nat.le_refl _,?_⟩ ?_
  ·rintro y ⟨n,rfl,hn,he⟩;cases n with
   |zero=>
    right;have:v=w:=by simpa using he
    subst this;exact⟨_,by simp,Y⟩
   |succ m=>
    have Gb:=FO (B:=4294967296) (by decide) (v:=v) (j:=m) (by omega);have hgw:=FO (B:=4294967296) (by decide) (v:=w) (j:=m) (by omega);have e0:((m+1:Nat):Int)-1=(m:Int):=by omega
    rw[e0];rcases ML he with⟨h1,h2⟩|⟨h1,h2⟩|⟨h1,h2⟩
    ·left;refine⟨(m:Int)-1,?_,⟨m,Y,by omega,h2⟩,by omega⟩;simp only[Option.bind_some,bK Gb,bK hgw,h1];rw[cQ (by omega) (by omega)];simp
    ·right;refine⟨.inr (-1),?_,by rw[if_neg (by omega),ym h2]⟩;simp only[Option.bind_some,bK Gb,bK hgw];simp[h1,Nat.ne_of_lt h1]
    right;refine⟨.inr 1,?_,by rw[if_neg (by omega),Bf h2]⟩;simp only[Option.bind_some,bK Gb,bK hgw];simp[Nat.not_lt_of_lt h1,Nat.ne_of_gt h1]
  ·rw[cQ (by omega) (by omega)]
  ·rw[CJ (by decide) (Nat.le_refl _),CJ (by decide) (by omega)]
  rintro e rfl;by_cases h:v=w
  ·subst h;simp[FU]
  simp[h]
 rw[Bf (CK (by decide) hl)];simp only[Option.bind_some];rw[show decide (((can 4294967296 v).length:Int)≠((can 4294967296 w).length:Int))=true by simp;omega,show decide (((can 4294967296 v).length:Int)<((can 4294967296 w).length:Int))=false by simp;omega];rfl
theorem Bh{l:List Nat}(h:∀x∈l,x<4294967296)(i:Nat):l.getD i 0<4294967296:=by
 rcases Nat.lt_or_ge i l.length with hi|hi
 ·exact h _ (List.mem_of_getElem? (sO hi))
 rw[we hi];decide
theorem Ag(a b:List Nat)(ha:Gg a)(hb:Gg b):fk a b=some (gj 4294967296 (max a.length b.length+1) (vl a+vl b)):=by
 obtain⟨hA,hla⟩:=ha;obtain⟨hB,hlb⟩:=hb;have hV:val 4294967296 a<4294967296^(max a.length b.length):=Nat.lt_of_lt_of_le (ju a hA) (Nat.pow_le_pow_right (by decide) (by omega));have hW:val 4294967296 b<4294967296^(max a.length b.length):=Nat.lt_of_lt_of_le (ju b hB) (Nat.pow_le_pow_right (by decide) (by omega));unfold fk;simp only[Option.bind_some];rw[show max (a.length:Int) (b.length:Int)=((max a.length b.length:Nat):Int) by omega,bQ (by omega),CH (by decide) (by omega),Option.bind_some];refine rR (λk=>(Gf 4294967296 (vl a) (vl b) k,gj 4294967296 k (vl a+vl b))) (by simp[Ir,gj]) (λk hk=>?_) ?_
 ·have hx:=Bh hA k;have hy:=Bh hB k;have hc:=Km (B:=4294967296) (by decide) (vl a) (vl b) k;have hxe:=qR a hA k;have hye:=qR b hB k;simp only[Option.bind_some];rw[Nat.mod_eq_of_lt (a:=a.getD k 0) (by omega),Nat.mod_eq_of_lt (a:=b.getD k 0) (by omega),Nat.mod_eq_of_lt (a:=a.getD k 0+b.getD k 0) (by omega),hH _ _ (by omega)];simp only[Option.bind_some];rw[CG (by decide) (by rw[bZ];omega),Option.bind_some,hxe,hye,Iq (by decide),FP (by decide),<-oS]
 have hc:=Km (B:=4294967296) (by decide) (vl a) (vl b) (max a.length b.length);simp only;rw[hH _ _ (by omega)];simp only[Option.bind_some];rw[CG (by decide) (by rw[bZ];omega),Option.bind_some,Nat.zero_add,Ss hV hW,<-oS]
theorem Ah(a b:List Nat)(ha:Gg a)(hb:Gg b)(hl:b.length<=a.length)(hle:vl b<=vl a):dy a b=some (gj 4294967296 a.length (vl a-vl b)):=by
 obtain⟨hA,hla⟩:=ha;obtain⟨hB,hlb⟩:=hb;have hmx:max a.length b.length=a.length:=by omega
 unfold dy;simp only[Option.bind_some];rw[CH (by decide) (by omega),Option.bind_some,hmx];refine rR (λk=>(AH 4294967296 (vl a) (vl b) k,gj 4294967296 k (vl a-vl b))) (by simp[Is,gj]) (λk hk=>?_) Y;have hx:=Bh hA k;have hy:=Bh hB k;have hc:=P9 (B:=4294967296) (by decide) (vl a) (vl b) k;have hxe:=qR a hA k;have hye:=qR b hB k;simp only[Option.bind_some];rw[Nat.mod_eq_of_lt (a:=a.getD k 0) (by omega),Nat.mod_eq_of_lt (a:=b.getD k 0) (by omega),rQ (by omega) (by omega),Nat.mod_eq_of_lt (a:=a.getD k 0+(4294967295-b.getD k 0)) (by omega),hH _ _ (by omega)];simp only[Option.bind_some];rw[CG (by decide) (by rw[bZ];omega),Option.bind_some,hxe,hye,It (B:=4294967296) (by decide),Lm (B:=4294967296) (by decide) hle,<-oS]
theorem Iv(a b:List Nat)(ha:Gg a)(hb:Gg b):gz a b=some (gj 4294967296 (a.length+b.length) (vl a*vl b)):=by
 obtain⟨hA,hla⟩:=ha;obtain⟨hB,hlb⟩:=hb;unfold gz;simp only[Option.bind_some];rw[uL (by omega),oR (by decide) (by omega),Option.bind_some];refine bP (λi=>((i:Int),gj 4294967296 (a.length+b.length) (vl a%4294967296^i*vl b))) a.length (gj 4294967296 (a.length+b.length) (vl a%4294967296^a.length*vl b)) (by simp[Nat.mod_one,uc]) (λi hi=>?_) (by simp) (by rw[Nat.mod_eq_of_lt (ju a hA)]);have hgx:=pU hA hi;have hx:val 4294967296 a/4294967296^i%4294967296<4294967296:=Nat.mod_lt _ (by decide);simp only[Option.bind_some,show decide ((i:Int)<(a.length:Int))=true by simp;omega,cond_true];rw[bK hgx,Option.bind_some];refine bP (λk=>((k:Int),mC 4294967296 (vl a) (vl b) i k,gj 4294967296 (a.length+b.length) (mV 4294967296 (vl a) (vl b) i k))) b.length (mC 4294967296 (vl a) (vl b) i b.length,gj 4294967296 (a.length+b.length) (mV 4294967296 (vl a) (vl b) i b.length)) (by simp[Sw,Sv]) (λk hk=>?_) (by simp) ?_
 ·have hgy:=pU hB hk;have hgp:=XU (B:=4294967296) (by decide) (V:=vl a) (W:=vl b) (i:=i) (k:=k) (N:=a.length+b.length) (by omega);have hy:val 4294967296 b/4294967296^k%4294967296<4294967296:=Nat.mod_lt _ (by decide);have hp:vl a%4294967296^i*vl b/4294967296^(i+k)%4294967296<4294967296:=Nat.mod_lt _ (by decide);have hc:=US (B:=4294967296) (by decide) (vl a) (vl b) i k;have hxy:val 4294967296 a/4294967296^i%4294967296*(val 4294967296 b/4294967296^k%4294967296)<=4294967295*4294967295:=Nat.mul_le_mul (by omega) (by omega);simp only[Option.bind_some,show decide ((k:Int)<(b.length:Int))=true by simp;omega,cond_true];rw[bK hgy,Option.bind_some,uL (by omega),bR (by rw[bZ];omega),Option.bind_some,hgp,Option.bind_some]
  rw[Nat.mod_eq_of_lt (a:=vl a%4294967296^i*vl b/4294967296^(i+k)%4294967296) (by omega),Nat.mod_eq_of_lt (a:=val 4294967296 a/4294967296^i%4294967296) (b:=18446744073709551616) (by omega),Nat.mod_eq_of_lt (a:=val 4294967296 b/4294967296^k%4294967296) (b:=18446744073709551616) (by omega),Nat.mod_eq_of_lt (a:=val 4294967296 a/4294967296^i%4294967296*(val 4294967296 b/4294967296^k%4294967296)) (by omega),Nat.mod_eq_of_lt (a:=vl a%4294967296^i*vl b/4294967296^(i+k)%4294967296+_) (by omega),hH _ _ (by omega)];simp only[Option.bind_some];rw[eD (by rw[bZ];omega),Option.bind_some,St (B:=4294967296) (by decide),Su (B:=4294967296) (by decide) (by omega),bQ (by omega)]
 have hc:=US (B:=4294967296) (by decide) (vl a) (vl b) i b.length;simp only[Option.bind_some];rw[uL (by omega),hH _ _ (by omega)];simp only[Option.bind_some];rw[bR (by rw[bZ];omega),Option.bind_some,eD (by rw[bZ];omega),Option.bind_some,XV (B:=4294967296) (by decide) (ju b hB) (by omega),bQ (by omega)]
end
section
open Go.Fw
theorem SE{a b s:Nat}(h:a<2^s):b*2^s ||| a=b*2^s+a:=by rw[Nat.or_comm,Qd h,Nat.add_comm]
theorem Lu{a b:Nat}(h:a<4294967296):b*4294967296 ||| a=b*4294967296+a:=SE (s:=32) h
theorem Iw(a:List Nat)(d:Nat)(ha:Gg a)(hd:0<d)(hd2:d<=4294967296):iw a d=some (vl a%d,gj 4294967296 a.length (vl a/d)):=by
 obtain⟨hA,hla⟩:=ha;unfold iw;simp only[Option.bind_some];rw[cQ (by omega) (by omega)];refine bP (λi=>(vl a/4294967296^(a.length-i)%d,((a.length-i:Nat):Int)-1,gj 4294967296 a.length (qU 4294967296 (vl a) d (a.length-i)))) a.length (vl a%d,gj 4294967296 a.length (vl a/d)) ?_ (λi hi=>?_) (by simp[Sx]) ?_
 ·simp only[Nat.sub_zero];rw[XX (ju a hA),Be a hA,Nat.div_eq_of_lt (ju a hA),Nat.zero_mod]
 ·obtain⟨m,hm⟩:∃m,a.length-i=m+1:=⟨a.length-i-1,by omega⟩;have hm':a.length-(i+1)=m:=by omega
  have hml:m<a.length:=by omega
  rw[hm,hm'];have hy:vl a/4294967296^m%4294967296<4294967296:=Nat.mod_lt _ (by decide);have hr:vl a/4294967296^(m+1)%d<d:=Nat.mod_lt _ hd;have hq:=ab7 (B:=4294967296) (by decide) hd (vl a) m;have hqd:(vl a/4294967296^(m+1)%d*4294967296+vl a/4294967296^m%4294967296)/d<4294967296:=by rw[Nat.div_lt_iff_lt_mul hd,Nat.mul_comm 4294967296 d];exact hq
  have hg:=XY (B:=4294967296) (by decide) (V:=vl a) (d:=d) (m:=m) (N:=a.length) hml;have hlt:vl a/4294967296^(m+1)%d*4294967296+vl a/4294967296^m%4294967296<18446744073709551616:=by omega
  have YD:vl a/4294967296^(m+1)%d*4294967296<18446744073709551616:=Nat.lt_of_le_of_lt (Nat.le_add_right _ _) hlt;have C7:vl a/4294967296^m%4294967296<18446744073709551616:=Nat.lt_of_le_of_lt (Nat.le_add_left _ _) hlt;have hi1:((m+1:Nat):Int)-1=(m:Int):=by omega
  simp only[hi1,show decide ((0:Int)<=(m:Int))=true by simp,cond_true,Option.bind_some];rw[bR (by rw[bZ];omega),Option.bind_some,hg];simp only[Option.bind_some];rw[show(2:Nat)^32=4294967296 from rfl];rw[Nat.mod_eq_of_lt (a:=vl a/4294967296^(m+1)%d*4294967296) YD,Nat.mod_eq_of_lt (a:=vl a/4294967296^m%4294967296) (b:=18446744073709551616) C7,Lu hy,Nat.mod_eq_of_lt (a:=vl a/4294967296^(m+1)%d*4294967296+vl a/4294967296^m%4294967296) hlt,FL (by omega) hlt,Bd (by omega)];simp only[Option.bind_some];rw[Nat.mod_eq_of_lt (b:=4294967296) (a:=(vl a/4294967296^(m+1)%d*4294967296+vl a/4294967296^m%4294967296)/d) hqd,eD (by rw[bZ];omega),Option.bind_some,cQ (by omega) (by omega)];rw[SB (B:=4294967296) (by decide) hd hml,<-ab6 (B:=4294967296) (d:=d) (vl a) m]
 simp only;rw[qP (by rw[bZ]),Option.bind_some]
theorem shiftLeft_eq(a:List Nat)(s:Nat)(ha:Gg a)(hs:s<32):fO a s=some (gj 4294967296 (a.length+1) (vl a*2^s)):=by
 obtain⟨hA,hla⟩:=ha;have hf:2^s<4294967296:=by
  have:2^s<2^32:=Nat.pow_lt_pow_right (by decide) hs;omega
 unfold fO;simp only[Option.bind_some];rw[bQ (by omega),CH (by decide) (by omega),Option.bind_some];refine bP (λi=>((i:Int),sC 4294967296 (vl a) (2^s) 0 i,gj 4294967296 i (vl a*2^s+0))) a.length (sC 4294967296 (vl a) (2^s) 0 a.length,gj 4294967296 a.length (vl a*2^s+0)) (by simp[Lp,gj]) (λi hi=>?_) (by simp) ?_
 ·have hx:vl a/4294967296^i%4294967296<4294967296:=Nat.mod_lt _ (by decide);have hc:=UU (B:=4294967296) (by decide) (V:=vl a) hf (show(0:Nat)<4294967296 by decide) i;have hxf:vl a/4294967296^i%4294967296*2^s<=4294967295*4294967295:=Nat.mul_le_mul (by omega) (by omega);have hg:a[i]? =some (vl a/4294967296^i%4294967296):=pU hA hi;simp only[show decide ((i:Int)<(a.length:Int))=true by simp;omega,cond_true];rw[bK hg];simp only[Option.bind_some];rw[show min s 64=s by omega,Nat.mod_eq_of_lt (a:=vl a/4294967296^i%4294967296) (b:=18446744073709551616) (by omega),Nat.mod_eq_of_lt (b:=18446744073709551616) (by omega),hH _ _ (by omega)];simp only[Option.bind_some];rw[CG (by decide) (by rw[bZ];omega),Option.bind_some,Ls (B:=4294967296) (by decide),Qa (B:=4294967296) (by decide),bQ (by omega),<-oS]
 have hc:=UU (B:=4294967296) (by decide) (V:=vl a) hf (show(0:Nat)<4294967296 by decide) a.length;simp only;rw[hH _ _ (by omega)];simp only[Option.bind_some];rw[CG (by decide) (by rw[bZ];omega),Option.bind_some,Nat.zero_add,XW (ju a hA),<-oS];simp
theorem DD(a:List Nat)(s:Nat):iP a s=fO a s:=rfl
def xb:QS:=[0,1,2,2,3,3,3,3,4,4,4,4,4,4,4,4,5,5,5,5,5,5,5,5,5,5,5,5,5,5,5,5]++List.replicate 32 6++List.replicate 64 7++List.replicate 128 8
theorem XZ:∀y:Nat,y<256->vf xb (y:Int)=some ((vf xb (y:Int)).getD 0)/\(vf xb (y:Int)).getD 0<=8/\y<2^(vf xb (y:Int)).getD 0/\(y=0\/2^(vf xb (y:Int)).getD 0<=2*y):=by decide+kernel
set_option maxRecDepth 20000 in
theorem Qe(x:Nat)(h:x<4294967296):∃n:Nat,gO x=some (n:Int)/\n<=32/\x<2^n/\(x=0\/2^n<=2*x):=by
 have key:∀(y k:Nat),y<256->y=x/2^k->k<=24->(x≠0->y≠0)->∃n:Nat,(((vf xb ((y%256:Nat):Int)).bind λjD=>(some (IntKind.i64.wrap (jD:Int))).bind λgW=>(some (IntKind.i64.wrap ((k:Int)+gW))).bind λgX=>some gX)=some (n:Int))/\n<=32/\x<2^n/\(x=0\/2^n<=2*x):=by
  intro y k hy hyx hk hnz;obtain⟨h1,h2,h3,h4⟩:=XZ y hy;rw[Nat.mod_eq_of_lt hy,h1];generalize (vf xb (y:Int)).getD 0=t at*;have hp:0<2^k:=Nat.two_pow_pos _;have e1:2^(k+t)=2^k*2^t:=Nat.pow_add ..;have e2:=Nat.div_add_mod x (2^k);have e3:=Nat.mod_lt x hp;rw[<-hyx]at e2;refine⟨k+t,?_,by omega,?_,?_⟩
  ·simp only[Option.bind_some];rw[uK (by omega),uL (by omega)]
  ·rw[e1];have:2^k*(y+1)<=2^k*2^t:=Nat.mul_le_mul_left _ h3;rw[Nat.mul_add]at this;omega
  rcases h4 with h4|h4
  ·left;cases Nat.eq_zero_or_pos x with
   |inl h=>exact h
   |inr h=>exact absurd h4 (hnz (by omega))
  right;rw[e1];have:2^k*2^t<=2^k*(2*y):=Nat.mul_le_mul_left _ h4;rw[show 2^k*(2*y)=2*(2^k*y) by rw[Nat.mul_left_comm]]at this;omega
 unfold gO;simp only[cK,Option.bind_some];by_cases c1:65536<=x
 ·rw[show decide (65536<=x)=true by simpa using c1];simp only[cond_true];by_cases c2:256<=x/2^16
  ·rw[show decide (256<=x/2^16)=true by simpa using c2];simp only[cond_true];rw[show IntKind.i64.wrap (16+8)=((24:Nat):Int) by decide];exact key (x/2^16/2^8) 24 (by omega) (by omega) (by omega) (by omega)
  rw[show decide (256<=x/2^16)=false by simpa using c2];simp only[cond_false];exact key (x/2^16) 16 (by omega) Y (by omega) (by omega)
 rw[show decide (65536<=x)=false by simpa using c1];simp only[cond_false];by_cases c2:256<=x
 ·rw[show decide (256<=x)=true by simpa using c2];simp only[cond_true];rw[show IntKind.i64.wrap (0+8)=((8:Nat):Int) by decide];exact key (x/2^8) 8 (by omega) Y (by omega) (by omega)
 rw[show decide (256<=x)=false by simpa using c2];simp only[cond_false];exact key x 0 (by omega) (by simp) (by omega) (λh=>h)
theorem ab9(x:Nat)(h:x<4294967296)(h0:x≠0):∃s:Nat,dO x=some (s:Int)/\s<32/\2147483648<=x*2^s/\x*2^s<4294967296:=by
 obtain⟨n,h1,h2,h3,h4⟩:=Qe x h;have h4:2^n<=2*x:=h4.resolve_left h0;have hn:n≠0:=by rintro rfl;simp at h3;omega
 refine⟨32-n,?_,by omega,?_,?_⟩
 ·unfold dO;rw[h1];simp only[Option.bind_some];rw[cQ (by omega) (by omega)];congr 1;omega
 ·have:2^n*2^(32-n)<=2*x*2^(32-n):=Nat.mul_le_mul_right _ h4;rw[<-Nat.pow_add,show n+(32-n)=32 by omega,Nat.mul_assoc]at this;omega
 have:x*2^(32-n)<2^n*2^(32-n):=Nat.mul_lt_mul_of_pos_right h3 (Nat.two_pow_pos _);rw[<-Nat.pow_add,show n+(32-n)=32 by omega]at this;omega
end
end Go.Proofs.YtningmnklfpfjaaGreat
namespace Go.Fw
section
section acd
variable {B V U W:Nat}
theorem X0{P F T:Nat}(hP:0<P)(hF:0<F)(hV:F*P<=V)(hU:U<(T+1)*P):U/V<=T/F:=by
 have X1:0<V:=Nat.lt_of_lt_of_le (Nat.mul_pos hF hP) hV;rw[Nat.le_div_iff_mul_le hF];rcases Nat.lt_or_ge T (U/V*F)with h|h
 ·exfalso;have h1:U/V*V<=U:=Nat.div_mul_le_self U V;have h2:U/V*(F*P)<=U/V*V:=Nat.mul_le_mul_left _ hV;have h3:(T+1)*P<=U/V*F*P:=Nat.mul_le_mul_right _ h;rw[Nat.mul_assoc]at h3;omega
 exact h
theorem SF{P F S T u g r:Nat}(hV:(F*B+S)*P<=V)(hU:U<(T*B+u+1)*P)(Ze:g*F+r=T)(h:r*B+u<g*S):U<g*V:=by
 have h1:g*((F*B+S)*P)<=g*V:=Nat.mul_le_mul_left _ hV;have h2:(T*B+u+1)*P<=g*(F*B+S)*P:=by
  apply Nat.mul_le_mul_right;rw[Nat.mul_add,<-Nat.mul_assoc,<-Ze,Nat.add_mul];omega
 rw[Nat.mul_assoc]at h2;omega
theorem X2{P V2 U2 g:Nat}(hV:V<(V2+1)*P)(hU:U2*P<=U)(hq:U/V<B)(hB:B<=V2)(X1:0<V)(h:g*V2<=U2):g<=U/V+1:=by
 rcases Nat.lt_or_ge (U/V+1) g with h'|h'
 ·exfalso;have h1:U<(U/V+1)*V:=by have:=Nat.lt_div_mul_add (a:=U) X1;rw[Nat.add_mul,Nat.one_mul];exact this
  have h2:(U/V+1)*V<=(U/V+1)*((V2+1)*P):=Nat.mul_le_mul_left _ (Nat.le_of_lt hV);have h3:g*V2*P<=U2*P:=Nat.mul_le_mul_right _ h;have h4:(U/V+2)*V2<=g*V2:=Nat.mul_le_mul_right _ h';have h5:(U/V+2)*V2*P<=g*V2*P:=Nat.mul_le_mul_right _ h4;have h6:(U/V+1)*((V2+1)*P)<=(U/V+2)*V2*P:=by
   rw[<-Nat.mul_assoc];apply Nat.mul_le_mul_right;rw[Nat.mul_add,Nat.add_mul (U/V) 2 V2,Nat.add_mul (U/V) 1 V2];omega
  omega
 exact h'
end acd
def mix(B o i X U A:Nat):Nat:=A%B^o+B^o*(X%B^i+B^i*(U/B^i))
theorem Lw(B o i X U A:Nat):mix B o i X U A%B^o=A%B^o:=by rw[mix,Nat.add_mul_mod_self_left,Nat.mod_mod]
section mix
variable {B:Nat}(hB:0<B)(o i X U A:Nat)
include hB
theorem yn:mix B o i X U A/B^o=X%B^i+B^i*(U/B^i):=by
 rw[mix,Nat.add_mul_div_left _ _ (Nat.pow_pos hB),Nat.div_eq_of_lt (Nat.mod_lt _ (Nat.pow_pos hB)),Nat.zero_add]
theorem yo:mix B o i X U A/B^(o+i)=U/B^i:=by
 rw[Nat.pow_add,<-Nat.div_div_eq_div_mul,yn hB,Nat.add_mul_div_left _ _ (Nat.pow_pos hB),Nat.div_eq_of_lt (Nat.mod_lt _ (Nat.pow_pos hB)),Nat.zero_add]
theorem SG:mix B o i X U A%B^(o+i)=A%B^o+B^o*(X%B^i):=by
 rw[Nat.pow_add,Nat.mod_mul,Lw,yn hB,Nat.add_mul_mod_self_left,Nat.mod_mod]
theorem FV{N:Nat}(h:o+i<N):(gj B N (mix B o i X U A)).set (o+i) (X/B^i%B)=gj B N (mix B o (i+1) X U A):=by
 apply uM hB h (Nat.mod_lt _ hB)
 ·rw[SG hB,Nat.pow_add,Nat.mod_mul,Lw,yn hB,Nat.pow_succ B i,Nat.mul_assoc,Nat.add_mul_mod_self_left,Nat.mod_mul,Nat.add_mul_mod_self_left,Nat.mod_mod]
 ·rw[Nat.pow_add,<-Nat.div_div_eq_div_mul,yn hB,Nat.pow_succ B i,Nat.mod_mul,Nat.mul_assoc,Nat.add_assoc,<-Nat.mul_add,Nat.add_mul_div_left _ _ (Nat.pow_pos hB),Nat.div_eq_of_lt (Nat.mod_lt _ (Nat.pow_pos hB)),Nat.zero_add,Nat.add_mul_mod_self_left,Nat.mod_mod]
 have h1:=yo hB o (i+1) X U A;have h2:=yo hB o i X U A;rw[show o+i+1=o+(i+1) by omega,h1,show o+(i+1)=(o+i)+1 by omega,Nat.pow_succ B (o+i),<-Nat.div_div_eq_div_mul,h2,Nat.pow_succ,<-Nat.div_div_eq_div_mul]
end mix
theorem Iy{B o m X U A:Nat}(hU:U<B^m):mix B o m X U A=A%B^o+B^o*(X%B^m):=by rw[mix,Nat.div_eq_of_lt hU];simp
theorem Iz{B:Nat}(o X A:Nat):mix B o 0 X (A/B^o) A=A:=by
 simp only[mix,Nat.pow_zero,Nat.mod_one,Nat.zero_add,Nat.one_mul,Nat.div_one];exact Nat.mod_add_div A (B^o)
theorem MM{B U U' T i:Nat}(h:U%B^i=U'%B^i):AH B U T i=AH B U' T i:=by rw[AH,AH,h]
theorem Qf{B:Nat}(hB:0<B){U T m i:Nat}(hi:i<m)(hT:T<=U+B^m):(U/B^i%B+(B-1-T/B^i%B)+AH B U T i)%B=(U+B^m-T)/B^i%B:=by
 have e:B^m=B^i*(B*B^(m-i-1)):=by rw[<-Nat.pow_succ',<-Nat.pow_add];congr 1;omega
 have h1:(U+B^m)%B^i=U%B^i:=by rw[e,Nat.add_mul_mod_self_left]
 have h2:(U+B^m)/B^i%B=U/B^i%B:=by rw[e,Nat.add_mul_div_left _ _ (Nat.pow_pos hB),Nat.add_mul_mod_self_left]
 rw[<-h2,MM (U':=U+B^m) h1.symm,Lm hB hT]
theorem SH{B m U T:Nat}(hB:0<B)(hU:U<B^m)(hT:T<B^m):AH B U T m=if U<T then 0 else 1:=by
 rw[AH,Nat.mod_eq_of_lt hU,Nat.mod_eq_of_lt hT];have hp:0<B^m:=Nat.pow_pos hB;split
 ·exact Nat.div_eq_of_lt (by omega)
 rw[show U+B^m-T=(U-T)+B^m by omega,Nat.add_div_right _ hp,Nat.div_eq_of_lt (by omega)]
end
end Go.Fw
namespace Go.Proofs.YtningmnklfpfjaaGreat
section
open Go.Fw
theorem nF{N A j:Nat}(h:j<N):(gj 4294967296 N A)[j]? =some (A/4294967296^j%4294967296):=yl N A j h
theorem two32:(2:Nat)^32=4294967296:=rfl
theorem ace:(2:Nat)^63=9223372036854775808:=rfl
theorem FW(A o j:Nat):A/4294967296^(o+j)=A/4294967296^o/4294967296^j:=by rw[Nat.pow_add,Nat.div_div_eq_div_mul]
theorem IA{N A o n:Nat}{v:List Nat}(hv:Gg v)(hn:v.length=n+2)(hN:N<=100000000001)(ho:o+(n+2)<N)
  (hU:A/4294967296^o<4294967296*vl v) (Qg:2147483648*4294967296^(n+1)<=vl v):
  ∃r,iy (gj 4294967296 N A) o (n+3) v=some r/\r.2=gj 4294967296 N A/\A/4294967296^o/vl v<=r.1/\r.1<=A/4294967296^o/vl v+1:=by
 obtain⟨hV,hlv⟩:=hv;obtain⟨U,Q2⟩:∃U,A/4294967296^o=U:=⟨_,Y⟩;obtain⟨V,Q3⟩:∃V,vl v=V:=⟨_,Y⟩;have AI:V<4294967296^(n+2):=by rw[<-Q3,<-hn];exact ju v hV
 have UX:0<4294967296^(n+1):=Nat.pow_pos (by decide);have hP:0<4294967296^n:=Nat.pow_pos (by decide);have X3:4294967296^(n+1)=4294967296^n*4294967296:=Nat.pow_succ ..;have IB:4294967296^(n+2)=4294967296^(n+1)*4294967296:=Nat.pow_succ ..;rw[Q2,Q3]at hU⊢;rw[Q3]at Qg;have acf:U<4294967296^(n+1)*4294967296*4294967296:=by
  have:4294967296*V<4294967296*4294967296^(n+2):=Nat.mul_lt_mul_of_pos_left AI (by decide);rw[IB]at this;omega
 obtain⟨F,hF⟩:∃F,V/4294967296^(n+1)=F:=⟨_,Y⟩;obtain⟨S,hS⟩:∃S,V/4294967296^n%4294967296=S:=⟨_,Y⟩;obtain⟨T,hT⟩:∃T,U/4294967296^(n+1)=T:=⟨_,Y⟩;obtain⟨u,hu⟩:∃u,U/4294967296^n%4294967296=u:=⟨_,Y⟩;have ai5:F<4294967296:=by rw[<-hF,Nat.div_lt_iff_lt_mul UX];rw[IB,Nat.mul_comm]at AI;exact AI
 have alW:2147483648<=F:=by rw[<-hF,Nat.le_div_iff_mul_le UX];exact Qg
 have alX:S<4294967296:=by rw[<-hS];exact Nat.mod_lt _ (by decide)
 have acg:u<4294967296:=by rw[<-hu];exact Nat.mod_lt _ (by decide)
 have ai6:T<4294967296*4294967296:=by rw[<-hT,Nat.div_lt_iff_lt_mul UX];rw[Nat.mul_comm,<-Nat.mul_assoc];exact acf
 have hV2:V/4294967296^n=F*4294967296+S:=by rw[<-hF,<-hS,X3,<-Nat.div_div_eq_div_mul,Nat.mul_comm,Nat.div_add_mod]
 have hU2:U/4294967296^n=T*4294967296+u:=by rw[<-hT,<-hu,X3,<-Nat.div_div_eq_div_mul,Nat.mul_comm,Nat.div_add_mod]
 have hq:U/V<4294967296:=by rw[Nat.div_lt_iff_lt_mul (by omega)];exact hU
 have ach:(F*4294967296+S)*4294967296^n<=V:=by rw[<-hV2];exact Nat.div_mul_le_self _ _
 have aci:V<(F*4294967296+S+1)*4294967296^n:=by rw[<-hV2,Nat.add_mul,Nat.one_mul];exact Nat.lt_div_mul_add hP
 have acj:(T*4294967296+u)*4294967296^n<=U:=by rw[<-hU2];exact Nat.div_mul_le_self _ _
 have ack:U<(T*4294967296+u+1)*4294967296^n:=by rw[<-hU2,Nat.add_mul,Nat.one_mul];exact Nat.lt_div_mul_add hP
 have UY:F*4294967296^(n+1)<=V:=by rw[<-hF];exact Nat.div_mul_le_self _ _
 have UZ:U<(T+1)*4294967296^(n+1):=by rw[<-hT,Nat.add_mul,Nat.one_mul];exact Nat.lt_div_mul_add UX
 have U0:V<(F+1)*4294967296^(n+1):=by rw[<-hF,Nat.add_mul,Nat.one_mul];exact Nat.lt_div_mul_add UX
 have hTF:T<4294967296*(F+1):=by
  rw[<-hT,Nat.div_lt_iff_lt_mul UX];have:4294967296*V<4294967296*((F+1)*4294967296^(n+1)):=Nat.mul_lt_mul_of_pos_left U0 (by decide);rw[Nat.mul_assoc];omega
 have g1:(gj 4294967296 N A)[o+(n+2)]? =some (U/4294967296^(n+2)%4294967296):=by rw[nF (by omega),FW,Q2]
 have g2:(gj 4294967296 N A)[o+(n+1)]? =some (U/4294967296^(n+1)%4294967296):=by rw[nF (by omega),FW,Q2]
 have g3:(gj 4294967296 N A)[o+n]? =some u:=by rw[nF (by omega),FW,Q2,hu]
 have g4:v[n+1]? =some F:=by rw[pU hV (by omega),show val 4294967296 v=V from Q3,hF,Nat.mod_eq_of_lt ai5]
 have g5:v[n]? =some S:=by rw[pU hV (by omega),show val 4294967296 v=V from Q3,hS]
 have hun:U/4294967296^(n+2)<4294967296:=by rw[IB,<-Nat.div_div_eq_div_mul,hT,Nat.div_lt_iff_lt_mul (by decide)];exact ai6
 have Ko:U/4294967296^(n+2)%4294967296*4294967296+U/4294967296^(n+1)%4294967296=T:=by
  rw[Nat.mod_eq_of_lt hun,IB,<-Nat.div_div_eq_div_mul,hT,Nat.mul_comm,Nat.div_add_mod]
 obtain⟨t1,ht1⟩:∃t,U/4294967296^(n+2)%4294967296=t:=⟨_,Y⟩;obtain⟨t2,ht2⟩:∃t,U/4294967296^(n+1)%4294967296=t:=⟨_,Y⟩;have l1:t1<4294967296:=by rw[<-ht1];exact Nat.mod_lt _ (by decide)
 have l2:t2<4294967296:=by rw[<-ht2];exact Nat.mod_lt _ (by decide)
 rw[ht1]at g1 Ko;rw[ht2]at g2 Ko;clear ht1 ht2 hU2 hV2;have c1:((n+2:Nat):Int)-1=((n+1:Nat):Int):=by omega
 have c2:((n+2:Nat):Int)-2=(n:Int):=by omega
 unfold iy;simp only[Option.bind_some,hn,c1,c2];rw[uK (by omega),uK (by omega),Bc (by omega),Bc (by omega),Bc (by omega)];simp only[Option.bind_some];rw[g1,g2,bK g4,bK g5];simp only[Option.bind_some,two32];rw[Nat.mod_eq_of_lt (a:=t1) (by omega),Nat.mod_eq_of_lt (a:=t2) (by omega),Nat.mod_eq_of_lt (a:=t1*4294967296) (by omega),Lu l2,Ko,Nat.mod_eq_of_lt (a:=T) (by omega),Nat.mod_eq_of_lt (a:=F) (by omega),Nat.mod_eq_of_lt (a:=S) (by omega),FL (by omega) (by omega),Bd (by omega)];simp only[Option.bind_some];have ajb:=X0 (V:=V) (U:=U) UX (show 0<F by omega) UY UZ;have hle:∀g,g*(F*4294967296+S)<=T*4294967296+u->g<=U/V+1:=λg h=>X2 (B:=4294967296) aci acj hq (by omega) (by omega) h;have ajc:∀g r,g*F+r=T->r*4294967296+u<g*S->U/V<g:=λg r i1 ht=>(Nat.div_lt_iff_lt_mul (by omega)).2 (SF ach ack i1 ht);have hg0:T/F<=4294967297:=by
  have:T/F<4294967298:=by
   rw[Nat.div_lt_iff_lt_mul (by omega)];omega
  omega
 generalize U/V=q at*;clear ach aci acj ack UY UZ U0 hTF acf Qg AI X3 IB hP UX hF hS hT hu Q2 Q3 hU;have hdm:=Nat.div_add_mod T F;have hml:=Nat.mod_lt T (show 0<F by omega);have ajd:T/F*F+T%F=T:=by rw[Nat.mul_comm];exact hdm
 clear hdm;refine l7 (λx=>x.1*F+x.2=T/\q<=x.1/\x.2<4294967296/\x.1<=4294967297) (λe=>q<=e/\e<=q+1) (λx=>x.1) ?_ ⟨ajd,ajb,by show T%F<_;omega,hg0⟩ ?_
 ·rintro⟨g,r⟩ ⟨i1,i2,i3,i4⟩;simp only at i1 i2 i3 i4;have down:q<g->(∃s',(bif decide ((r+F)%18446744073709551616/4294967296≠0)then some (.inr (oZ 18446744073709551616 g 1))else some (.inl (oZ 18446744073709551616 g 1,(r+F)%18446744073709551616)):Option ((Nat×Nat)⊕Nat))=some (.inl s')/\(s'.1*F+s'.2=T/\q<=s'.1/\s'.2<4294967296/\s'.1<=4294967297)/\s'.1<g)\/
    (∃e,(bif decide ((r+F)%18446744073709551616/4294967296≠0)then some (.inr (oZ 18446744073709551616 g 1))else some (.inl (oZ 18446744073709551616 g 1,(r+F)%18446744073709551616)):Option ((Nat×Nat)⊕Nat))=some (.inr e)/\q<=e/\e<=q+1):=by
   intro hlt;have e1:(g-1)*F+(r+F)=T:=by
    obtain⟨k,rfl⟩:∃k,g=k+1:=⟨g-1,by omega⟩;rw[Nat.add_sub_cancel];rw[Nat.add_mul]at i1;omega
   rw[rQ (by omega) (by omega),Nat.mod_eq_of_lt (a:=r+F) (by omega)];by_cases hb:r+F<4294967296
   ·left;refine⟨(g-1,r+F),by simp[Nat.div_eq_of_lt hb],⟨e1,by simp only;omega,hb,by simp only;omega⟩,by simp only;omega⟩
   right;have hne:(r+F)/4294967296≠0:=by omega
   refine⟨g-1,by simp[hne],by omega,?_⟩;refine hle _ ?_;have m1:(g-1)*S<=4294967296*4294967295:=Nat.mul_le_mul (by omega) (by omega);rw[Nat.mul_add,<-Nat.mul_assoc];have m2:((g-1)*F+(r+F))*4294967296=T*4294967296:=by rw[e1]
   rw[Nat.add_mul]at m2;omega
  simp only[cK,cC];by_cases hg:g<4294967296
  ·rw[show decide (g/4294967296≠0)=false by simp;omega];have hgS:g*S<=4294967295*4294967295:=Nat.mul_le_mul (by omega) (by omega);simp only[jF];rw[g3];simp only[cC];rw[Nat.mod_eq_of_lt (a:=g*S) (by omega),Nat.mod_eq_of_lt (a:=r*4294967296) (by omega),Nat.mod_eq_of_lt (a:=u) (by omega),Lu acg,Nat.mod_eq_of_lt (a:=r*4294967296+u) (by omega)];by_cases ht:r*4294967296+u<g*S
   ·rw[show decide (r*4294967296+u<g*S)=true by simpa using ht];simp only[cC,jt];exact down (ajc _ _ i1 ht)
   rw[show decide (r*4294967296+u<g*S)=false by simpa using ht];right;refine⟨g,by simp,i2,?_⟩;refine hle _ ?_;rw[Nat.mul_add,<-Nat.mul_assoc,<-i1,Nat.add_mul];omega
  rw[show decide (g/4294967296≠0)=true by simp;omega];simp only[cC,jt];exact down (by omega)
 rintro e ⟨h2,h3⟩;exact⟨(e,gj 4294967296 N A),by rw[qP Y,Option.bind_some],Y,h2,h3⟩
end
section
open Go.Fw
theorem uY{N A o n f:Nat}{v:List Nat}(hv:Gg v)(hn:v.length=n)(hN:N<=100000000001)(ho:o+n<N)(hf:f<=4294967296)
  (hU:A/4294967296^o<4294967296^(n+1)):
  dz (gj 4294967296 N A) o (n+1) v f=some (decide (A/4294967296^o<vl v*f),gj 4294967296 N (A%4294967296^o+4294967296^o*((A/4294967296^o+4294967296^(n+1)-vl v*f)%4294967296^(n+1)))):=by
 obtain⟨hV,hlv⟩:=hv;obtain⟨U,Q2⟩:∃U,A/4294967296^o=U:=⟨_,Y⟩;obtain⟨V,Q3⟩:∃V,vl v=V:=⟨_,Y⟩;have AI:V<4294967296^n:=by rw[<-Q3,<-hn];exact ju v hV
 have Nu:4294967296^(n+1)=4294967296^n*4294967296:=Nat.pow_succ ..;have hT:V*f<4294967296^(n+1):=by
  rw[Nu]
  calc V*f<=V*4294967296:=Nat.mul_le_mul_left _ hf
   _<4294967296^n*4294967296:=Nat.mul_lt_mul_of_pos_right AI (by decide)
 rw[Q2]at hU⊢;rw[Q3];obtain⟨X,hX⟩:∃X,U+4294967296^(n+1)-V*f=X:=⟨_,Y⟩;rw[hX];unfold dz;simp only[cC];have X4:∀i,AH 4294967296 U (V*f) i<=1:=λi=>P9 (by decide) _ _ _;refine bP (λi=>(1-AH 4294967296 U (V*f) i,(i:Int),sC 4294967296 V f 0 i,gj 4294967296 N (mix 4294967296 o i X U A))) (n+1) (1-AH 4294967296 U (V*f) (n+1),gj 4294967296 N (mix 4294967296 o (n+1) X U A)) ?_ (λi hi=>?_) ?_ ?_
 ·rw[Is,Lp,<-Q2,Iz];rfl
 ·
  obtain⟨t,ht⟩:∃t,V*f/4294967296^i%4294967296=t:=⟨_,Y⟩;obtain⟨c,hc⟩:∃c,sC 4294967296 V f 0 i=c:=⟨_,Y⟩;obtain⟨p,hp⟩:∃p,V/4294967296^i%4294967296*f=p:=⟨_,Y⟩;have al3:c<4294967296:=by
   rw[<-hc,sC,sT,Nat.add_zero,Nat.div_lt_iff_lt_mul (Nat.pow_pos (by decide))]
   calc V%4294967296^i*f<=V%4294967296^i*4294967296:=Nat.mul_le_mul_left _ hf
    _<4294967296*4294967296^i:=by rw[Nat.mul_comm];exact Nat.mul_lt_mul_of_pos_left (Nat.mod_lt _ (Nat.pow_pos (by decide))) (by decide)
  have al4:p<=4294967295*4294967296:=by
   rw[<-hp];exact Nat.mul_le_mul (by have:=Nat.mod_lt (V/4294967296^i) (show 0<4294967296 by decide);omega) hf
  have XT:(p+c)%4294967296=t:=by rw[<-hp,<-hc,Qa (B:=4294967296) (by decide),Nat.add_zero,ht]
  have hstep:(p+c)/4294967296=sC 4294967296 V f 0 (i+1):=by rw[<-hp,<-hc,Ls (B:=4294967296) (by decide)]
  have al5:t<4294967296:=by rw[<-ht];exact Nat.mod_lt _ (by decide)
  obtain⟨u,hu⟩:∃u,U/4294967296^i%4294967296=u:=⟨_,Y⟩;have acg:u<4294967296:=by rw[<-hu];exact Nat.mod_lt _ (by decide)
  have hg:(gj 4294967296 N (mix 4294967296 o i X U A))[o+i]? =some u:=by rw[nF (by omega),yo (by decide),hu]
  have hl:=X4 i;obtain⟨l,hle⟩:∃l,AH 4294967296 U (V*f) i=l:=⟨_,Y⟩;have hxd:(u+(4294967296-1-t)+l)%4294967296=X/4294967296^i%4294967296:=by rw[<-hu,<-ht,<-hle,Qf (B:=4294967296) (by decide) hi (by omega),hX]
  have hls:(u+(4294967296-1-t)+l)/4294967296=AH 4294967296 U (V*f) (i+1):=by rw[<-hu,<-ht,<-hle,It (B:=4294967296) (by decide)]
  rw[hle]at hl;have hput:=FV (B:=4294967296) (by decide) o i X U A (N:=N) (by omega);rw[hle,hc,<-hls];simp only[show decide ((i:Int)<((n+1:Nat):Int))=true by simp;omega,jt,cC,cK];rw[Bc (by omega)];simp only[cC,hg];have way:∀k:Nat->Option ((Nat×Int×Nat×List Nat)⊕(Nat×List Nat)),(bif decide ((i:Int)<(v.length:Int))then(cU v (i:Int)).bind λjE=>k (jE%18446744073709551616*f%18446744073709551616)else k 0)=k p:=by
   intro k;by_cases hin:i<v.length
   ·rw[show decide ((i:Int)<(v.length:Int))=true by simp;omega,jt];have Gb:v[i]? =some (V/4294967296^i%4294967296):=by rw[<-Q3];exact pU hV hin
    rw[bK Gb,cC,Nat.mod_eq_of_lt (a:=V/4294967296^i%4294967296) (b:=18446744073709551616) (by have:=Nat.mod_lt (V/4294967296^i) (show 0<4294967296 by decide);omega),hp,Nat.mod_eq_of_lt (a:=p) (by omega)]
   rw[show decide ((i:Int)<(v.length:Int))=false by simp;omega,jF];have:V/4294967296^i=0:=Nat.div_eq_of_lt (Nat.lt_of_lt_of_le AI (Nat.pow_le_pow_right (by decide) (by omega)));rw[<-hp,this];simp
  refine(way (λy=>(bY y c).bind _)).trans ?_;rw[hH _ _ (by omega)];simp only[cC];rw[XT,hstep,Nat.mod_eq_of_lt (a:=u) (by omega),Nat.mod_eq_of_lt (a:=t) (by omega)];rw[eD (by rw[bZ];omega),cC,bQ (by omega),ace];by_cases Vq:u<t+(1-l)
  ·have e1:oZ 18446744073709551616 (oZ 18446744073709551616 u t) (1-l)=18446744073709551616+u-t-(1-l):=by
    by_cases h1:u<t
    ·rw[Bb h1 (by omega),rQ (by omega) (by omega)]
    rw[rQ (a:=u) (b:=t) (by omega) (by omega),Bb (by omega) (by omega)];omega
   rw[e1];have e2:(18446744073709551616+u-t-(1-l))%4294967296=X/4294967296^i%4294967296:=by rw[<-hxd];omega
   have e3:(18446744073709551616+u-t-(1-l))/9223372036854775808=1-(u+(4294967296-1-t)+l)/4294967296:=by omega
   rw[e2,e3,hput]
  have e1:oZ 18446744073709551616 (oZ 18446744073709551616 u t) (1-l)=u-t-(1-l):=by
   rw[rQ (a:=u) (b:=t) (by omega) (by omega),rQ (by omega) (by omega)]
  rw[e1];have e2:(u-t-(1-l))%4294967296=X/4294967296^i%4294967296:=by rw[<-hxd];omega
  have e3:(u-t-(1-l))/9223372036854775808=1-(u+(4294967296-1-t)+l)/4294967296:=by omega
  rw[e2,e3,hput]
 ·simp
 simp only[cC];rw[qP (by rw[bZ,bZ]),cC,Iy hU,SH (by decide) hU hT];congr 2;by_cases h:U<V*f<;>simp[h]
end
section
open Go.Fw
theorem acm{B V:Nat}(hB:0<B)(hV:0<V)(A k:Nat):A%(V*B^(k+1))/B^k<B*V:=by
 rw[Nat.div_lt_iff_lt_mul (Nat.pow_pos hB)];have:V*B^(k+1)=B*V*B^k:=by rw[Nat.pow_succ,Nat.mul_comm (B^k),<-Nat.mul_assoc,Nat.mul_comm V]
 rw[<-this];exact Nat.mod_lt _ (Nat.mul_pos hV (Nat.pow_pos hB))
theorem X5{B V:Nat}(A k:Nat):A%(V*B^(k+1))%B^k+B^k*(A%(V*B^(k+1))/B^k%V)=A%(V*B^k):=by
 rw[<-Nat.mod_mul,Nat.mul_comm (B^k),Nat.mod_mod_of_dvd];rw[Nat.pow_succ,<-Nat.mul_assoc];exact Nat.dvd_mul_right _ _
theorem X6{B V:Nat}(A k:Nat):A%(V*B^(k+1))/B^k/V=A/V/B^k%B:=by
 rw[Nat.div_div_eq_div_mul,Nat.mul_comm (B^k),Nat.pow_succ,<-Nat.mul_assoc,Nat.mod_mul_right_div_self,Nat.div_div_eq_div_mul]
theorem Qh{B:Nat}(hB:0<B){N k:Nat}(h:k<N)(Q:Nat):(gj B N (Q/B^(k+1)*B^(k+1))).set k (Q/B^k%B)=gj B N (Q/B^k*B^k):=by
 have hP:0<B^k:=Nat.pow_pos hB;refine uM hB h (Nat.mod_lt _ hB) ?_ ?_ ?_
 ·rw[Nat.mul_mod_left,Nat.pow_succ,Nat.mul_comm (B^k),<-Nat.mul_assoc,Nat.mul_mod_left]
 ·rw[Nat.mul_div_cancel _ hP]
 rw[Nat.mul_div_cancel _ (Nat.pow_pos hB),Nat.pow_succ,<-Nat.div_div_eq_div_mul,Nat.mul_div_cancel _ hP,Nat.div_div_eq_div_mul]
theorem Lx{α:Type}{l:List α}{o n:Nat}(h:o<l.length)(h':o+n<=l.length):VA l (o:Int) ((o+n:Nat):Int)=some (o,n):=by
 unfold VA;rw[if_pos (by omega)];congr 2;omega
theorem SI{U V g M:Nat}(hV:0<V)(h1:U/V<=g)(h2:g<=U/V+1)(hM:U<M)(hVM:V<=M):
  (V*g<=U/\g=U/V/\(U+M-V*g)%M=U%V)\/(U<V*g/\g=U/V+1/\U+M-V*g<M/\(U+M-V*g+V)%M=U%V):=by
 have hd:=Nat.div_add_mod U V;have hm:=Nat.mod_lt U hV
 revert h1 h2 hd hm
 generalize U/V=q;generalize U%V=r;intro h1 h2 hd hm;rcases Nat.lt_or_ge q g with h|h
 ·obtain rfl:g=q+1:=by omega
  have e:V*(q+1)=V*q+V:=Nat.mul_succ ..;right;refine⟨by omega,Y,by omega,?_⟩;rw[show U+M-V*(q+1)+V=r+M by omega,Nat.add_mod_right,Nat.mod_eq_of_lt (by omega)]
 obtain rfl:g=q:=by omega
 left;refine⟨by omega,Y,?_⟩;rw[show U+M-V*g=r+M by omega,Nat.add_mod_right,Nat.mod_eq_of_lt (by omega)]
theorem SJ{R D e i:Nat}(hD:0<D)(he:4294967296=D*e):(R*D/4294967296^(i+1)%4294967296*4294967296+R*D/4294967296^i%4294967296)/D%4294967296=R/4294967296^i%4294967296:=by
 have h1:R*D/4294967296^(i+1)%4294967296*4294967296+R*D/4294967296^i%4294967296=R*D/4294967296^i%(4294967296*4294967296):=by
  rw[Nat.mod_mul,Nat.div_div_eq_div_mul,show 4294967296^i*4294967296=4294967296^(i+1)from(Nat.pow_succ ..).symm,Nat.add_comm,Nat.mul_comm 4294967296]
 have h2:(4294967296*4294967296:Nat)=D*(e*4294967296):=by
  rw[<-Nat.mul_assoc,<-he]
 rw[h1,h2,Nat.mod_mul_right_div_self,Nat.mod_mul_left_mod,Nat.div_div_eq_div_mul,Nat.mul_comm (4294967296^i) D,<-Nat.div_div_eq_div_mul,Nat.mul_div_cancel _ hD]
theorem X7{B:Nat}(hB:0<B){N i R:Nat}(h:i<N):(gj B N (R%B^i)).set i (R/B^i%B)=gj B N (R%B^(i+1)):=by
 refine uM hB h (Nat.mod_lt _ hB) ?_ ?_ ?_
 ·rw[Nat.mod_mod,Nat.mod_mod_of_dvd _ (Nat.pow_dvd_pow _ (Nat.le_succ i))]
 ·rw[Nat.pow_succ,Nat.mod_mul_right_div_self,Nat.mod_mod]
 rw[Nat.div_eq_of_lt (Nat.mod_lt _ (Nat.pow_pos hB)),Nat.div_eq_of_lt];exact Nat.lt_of_lt_of_le (Nat.mod_lt _ (Nat.pow_pos hB)) (Nat.pow_le_pow_right hB (Nat.le_succ i))
theorem Kp(a b:List Nat)(ha:Gg a)(hb:Gg b){n:Nat}(hn:b.length=n+2)(hl:b.length<=a.length)(Ko:b[n+1]? ≠some 0):
  jb a b=some (gj 4294967296 (a.length-b.length+1) (vl a/vl b),gj 4294967296 b.length (vl a%vl b)):=by
 obtain⟨hA,hla⟩:=ha;obtain⟨hB,hlb⟩:=hb;have hP:∀k,0<4294967296^k:=λk=>Nat.pow_pos (by decide);obtain⟨Va,hVa⟩:∃V,vl a=V:=⟨_,Y⟩;obtain⟨Vb,hVb⟩:∃V,vl b=V:=⟨_,Y⟩;have X8:Vb<4294967296^(n+2):=by rw[<-hVb,<-hn];exact ju b hB
 have halt:Va<4294967296^a.length:=by rw[<-hVa];exact ju a hA
 have IB:4294967296^(n+2)=4294967296^(n+1)*4294967296:=Nat.pow_succ ..;obtain⟨x,hx⟩:∃x,Vb/4294967296^(n+1)=x:=⟨_,Y⟩;have acn:x<4294967296:=by rw[<-hx,Nat.div_lt_iff_lt_mul (hP _)];rw[IB,Nat.mul_comm]at X8;exact X8
 have hgx:b[n+1]? =some x:=by rw[pU hB (by omega),show val 4294967296 b=Vb from hVb,hx,Nat.mod_eq_of_lt acn]
 have hx0:x≠0:=λe=>Ko (by rw[hgx,e]);obtain⟨s,YD,C7,hs3,hs4⟩:=ab9 x acn hx0;have SK:0<2^s:=Nat.two_pow_pos s;have aco:2^s<4294967296:=by
  have:2^s<2^32:=Nat.pow_lt_pow_right (by decide) C7;rw[two32]at this;exact this
 obtain⟨D,hD⟩:∃D,2^s=D:=⟨_,Y⟩;rw[hD]at hs3 hs4 SK aco;obtain⟨V,hV⟩:∃V,Vb*D=V:=⟨_,Y⟩;obtain⟨A,hAe⟩:∃A,Va*D=A:=⟨_,Y⟩;have AI:V<4294967296^(n+2):=by
  have h1:Vb<(x+1)*4294967296^(n+1):=by rw[<-hx,Nat.add_mul,Nat.one_mul];exact Nat.lt_div_mul_add (hP _)
  have h2:(x+1)*D<=4294967296:=by
   obtain⟨e,he⟩:∃e,4294967296=D*e:=⟨2^(32-s),by rw[<-hD,<-Nat.pow_add,show s+(32-s)=32 by omega,two32]⟩;have h3:x<e:=by
    apply Nat.lt_of_mul_lt_mul_left (a:=D);rw[<-he,Nat.mul_comm];exact hs4
   calc (x+1)*D<=e*D:=Nat.mul_le_mul_right _ h3
    _=4294967296:=by rw[Nat.mul_comm,<-he]
  rw[<-hV,IB]
  calc Vb*D<(x+1)*4294967296^(n+1)*D:=Nat.mul_lt_mul_of_pos_right h1 SK
   _=4294967296^(n+1)*((x+1)*D):=by rw[Nat.mul_comm (x+1),Nat.mul_assoc]
   _<=4294967296^(n+1)*4294967296:=Nat.mul_le_mul_left _ h2
 have Qi:2147483648*4294967296^(n+1)<=V:=by
  have h1:x*4294967296^(n+1)<=Vb:=by rw[<-hx];exact Nat.div_mul_le_self _ _
  rw[<-hV]
  calc 2147483648*4294967296^(n+1)<=x*D*4294967296^(n+1):=Nat.mul_le_mul_right _ hs3
   _=x*4294967296^(n+1)*D:=by rw[Nat.mul_assoc,Nat.mul_comm D,<-Nat.mul_assoc]
   _<=Vb*D:=Nat.mul_le_mul_right _ h1
 have X1:0<V:=Nat.lt_of_lt_of_le (Nat.mul_pos (by decide) (hP _)) Qi;have hb0:0<Vb:=by
  rcases Nat.eq_zero_or_pos Vb with h|h
  ·rw[<-hV,h,Nat.zero_mul]at X1;omega
  exact h
 have hAV:A/V=Va/Vb:=by rw[<-hAe,<-hV,Nat.mul_div_mul_right _ _ SK]
 have ajf:A%V=Va%Vb*D:=by rw[<-hAe,<-hV,Nat.mul_mod_mul_right]
 obtain⟨K,hK⟩:∃K,a.length=K+(n+2):=⟨a.length-(n+2),by omega⟩;have hA0:A<V*4294967296^(K+1):=by
  have h1:4294967296^(n+1)<=Vb:=by
   have:1*4294967296^(n+1)<=x*4294967296^(n+1):=Nat.mul_le_mul_right _ (by omega);have h2:x*4294967296^(n+1)<=Vb:=by rw[<-hx];exact Nat.div_mul_le_self _ _
   omega
  rw[<-hAe,<-hV]
  calc Va*D<4294967296^a.length*D:=Nat.mul_lt_mul_of_pos_right halt SK
   _=4294967296^(n+1)*4294967296^(K+1)*D:=by rw[hK,<-Nat.pow_add];congr 2;omega
   _<=Vb*4294967296^(K+1)*D:=Nat.mul_le_mul_right _ (Nat.mul_le_mul_right _ h1)
   _=Vb*D*4294967296^(K+1):=by rw[Nat.mul_assoc,Nat.mul_comm _ D,<-Nat.mul_assoc]
 obtain⟨v,hve⟩:∃v,gj 4294967296 (n+2) V=v:=⟨_,Y⟩;have hvl:v.length=n+2:=by rw[<-hve,bZ]
 have hvW:Gg v:=⟨λy hy=>by rw[<-hve]at hy;exact nO (by decide) _ _ _ hy,by omega⟩;have hvv:vl v=V:=by rw[<-hve];show val _ _=_;rw[l9,Nat.mod_eq_of_lt AI]
 have acr:List.take b.length (gj 4294967296 (b.length+1) (Vb*2^s))=v:=by
  rw[hD,hV,hn,oS,List.take_append_of_le_length (by rw[bZ];omega),List.take_of_length_le (by rw[bZ];omega),hve]
 unfold jb;simp only[cC];rw[show((b.length:Nat):Int)-1=((n+1:Nat):Int) by omega,uK (by omega),bK hgx,cC,YD,cC];rw[show((s:Int)%18446744073709551616).toNat=s by rw[Int.emod_eq_of_lt (by omega) (by omega)];simp];rw[DD,shiftLeft_eq a s ⟨hA,hla⟩ C7,cC,shiftLeft_eq b s ⟨hB,hlb⟩ C7,cC,zE (by rw[bZ];omega),cC];obtain⟨Q,hQ⟩:∃Q,A/V=Q:=⟨_,Y⟩;have ajh:Q<4294967296^(K+1):=by rw[<-hQ,Nat.div_lt_iff_lt_mul X1,Nat.mul_comm];exact hA0
 rw[hVa,hVb,<-hAV,hQ,acr,hD,hAe,hn];rw[show a.length-(n+2)+1=K+1 by omega];rw[cQ (x:=(a.length:Int)-((n+2:Nat):Int)) (by omega) (by omega),cQ (x:=(a.length:Int)-((n+2:Nat):Int)+1) (by omega) (by omega),show(a.length:Int)-((n+2:Nat):Int)+1=((K+1:Nat):Int) by omega,oR (by decide) (by omega),cC,show(a.length:Int)-((n+2:Nat):Int)=(K:Int) by omega];refine bP (λj=>((K:Int)-(j:Int),gj 4294967296 (K+1) (Q/4294967296^(K+1-j)*4294967296^(K+1-j)),gj 4294967296 (a.length+1) (A%(V*4294967296^(K+1-j))))) (K+1) (gj 4294967296 (K+1) Q,gj 4294967296 (a.length+1) (A%V)) ?_ (λj hj=>?_) ?_ ?_
 ·rw[show K+1-0=K+1 by omega,Nat.mod_eq_of_lt hA0,Nat.div_eq_of_lt ajh,Nat.zero_mul,uc];simp
 ·
  obtain⟨k,hk⟩:∃k,K=k+j:=⟨K-j,by omega⟩;rw[show K+1-j=k+1 by omega,show K+1-(j+1)=k by omega,show(K:Int)-(j:Int)=(k:Int) by omega,show(K:Int)-((j+1:Nat):Int)=(k:Int)-1 by omega];have hU:=acm (B:=4294967296) (by decide) X1 A k;have SL:=X5 (B:=4294967296) (V:=V) A k;have X9:=X6 (B:=4294967296) (V:=V) A k;obtain⟨N,hN⟩:∃N,a.length+1=N:=⟨_,Y⟩;obtain⟨A1,hA1⟩:∃A1,A%(V*4294967296^(k+1))=A1:=⟨_,Y⟩;rw[hN];rw[hA1]at hU SL X9⊢;rw[hQ]at X9;obtain⟨⟨g,lg⟩,hge,hgl,hg1,M7⟩:=IA (N:=N) (A:=A1) (o:=k) (n:=n) (v:=v) hvW hvl (by omega) (by omega) (by rw[hvv];exact hU) (by rw[hvv];exact Qi);simp only at hgl hg1 M7;rw[hvv]at hg1 M7;subst hgl;have hsub:=uY (N:=N) (A:=A1) (o:=k) (n:=n+2) (v:=v) (f:=g) hvW hvl (by omega) (by omega) ?_ ?_
  ·rw[hvv]at hsub;obtain⟨U,Q2⟩:∃U,A1/4294967296^k=U:=⟨_,Y⟩;rw[Q2]at hU SL X9 hg1 M7 hsub;have SM:4294967296^(n+2+1)=4294967296^(n+2)*4294967296:=Nat.pow_succ ..;have hUM:U<4294967296^(n+2+1):=by
    have:4294967296*V<4294967296*4294967296^(n+2):=Nat.mul_lt_mul_of_pos_left AI (by decide);rw[SM];omega
   have Qj:=SI (M:=4294967296^(n+2+1)) X1 hg1 M7 hUM (by rw[SM];omega);have hql:U/V<4294967296:=by rw[X9];exact Nat.mod_lt _ (by decide)
   rw[show decide ((0:Int)<=(k:Int))=true by simp,jt];rw[uL (by omega),bQ (by omega),show k+(n+2)+1=k+(n+3) by omega,Lx (by rw[bZ];omega) (by rw[bZ];omega),cC,hge,cC,qP Y,cC,Lx (by rw[bZ];omega) (by rw[bZ];omega),cC];show(Option.bind (dz _ k (n+2+1) v g) _)=_;rw[hsub,cC,qP (by rw[bZ,bZ]),cC];simp only[cK];rcases Qj with⟨hc1,Gr,hc3⟩|⟨hc1,Gr,hc3,hc4⟩
   ·rw[show decide (U<V*g)=false by simp;omega,jF,hc3,SL,Gr,Nat.mod_eq_of_lt hql,X9,bR (by rw[bZ];omega),cC,eD (by rw[bZ];omega),cC,Qh (by decide) (by omega),cQ (by omega) (by omega)]
   rw[show decide (U<V*g)=true by simp;omega,jt,rQ (by omega) (by omega),show g-1=U/V by omega,Nat.mod_eq_of_lt hql,X9];rw[Nat.mod_eq_of_lt hc3];obtain⟨aa,hY⟩:∃aa,U+4294967296^(n+2+1)-V*g=aa:=⟨_,Y⟩;rw[hY]at hc3 hc4⊢;obtain⟨A2,hA2⟩:∃A2,A1%4294967296^k+4294967296^k*aa=A2:=⟨_,Y⟩;rw[hA2];have hw2:A2/4294967296^k=aa:=by rw[<-hA2,Nat.add_mul_div_left _ _ (hP k),Nat.div_eq_of_lt (Nat.mod_lt _ (hP k)),Nat.zero_add]
   have MX:A2%4294967296^k=A1%4294967296^k:=by rw[<-hA2,Nat.add_mul_mod_self_left,Nat.mod_mod]
   have hcr:∀i,Gf 4294967296 aa V i<=1:=λi=>Km (by decide) _ _ _;refine bP (λi=>((i:Int),Gf 4294967296 aa V i,gj 4294967296 N (mix 4294967296 k i (aa+V) aa A2))) (n+2) (Gf 4294967296 aa V (n+2),gj 4294967296 N (mix 4294967296 k (n+2) (aa+V) aa A2)) ?_ (λi hi=>?_) ?_ ?_
   ·rw[Ir,<-hw2,Iz];rfl
   ·have Gb:v[i]? =some (V/4294967296^i%4294967296):=by rw[<-hvv];exact pU hvW.1 (by omega)
    have hgu:(gj 4294967296 N (mix 4294967296 k i (aa+V) aa A2))[k+i]? =some (aa/4294967296^i%4294967296):=by rw[nF (by omega),yo (by decide)]
    have YD:=Iq (B:=4294967296) (by decide) aa V i;have C7:=FP (B:=4294967296) (by decide) aa V i;have hput:=FV (B:=4294967296) (by decide) k i (aa+V) aa A2 (N:=N) (by omega);have hci:=hcr i;have hv1:=Nat.mod_lt (V/4294967296^i) (show 0<4294967296 by decide);have Y3:=Nat.mod_lt (aa/4294967296^i) (show 0<4294967296 by decide);simp only[show decide ((i:Int)<(v.length:Int))=true by simp;omega,jt];rw[bK Gb,cC,uL (by omega),bR (by rw[bZ];omega),cC,hgu,cC,Nat.mod_eq_of_lt (a:=aa/4294967296^i%4294967296) (b:=18446744073709551616) (by omega),Nat.mod_eq_of_lt (a:=V/4294967296^i%4294967296) (b:=18446744073709551616) (by omega),Nat.mod_eq_of_lt (b:=18446744073709551616) (by omega),hH _ _ (by omega),cC,cC,eD (by rw[bZ];omega),cC,bQ (by omega)];rw[YD,C7,hput]
   ·simp[hvl]
   have hgu:(gj 4294967296 N (mix 4294967296 k (n+2) (aa+V) aa A2))[k+(n+2)]? =some (aa/4294967296^(n+2)%4294967296):=by rw[nF (by omega),yo (by decide)]
   have C7:=FP (B:=4294967296) (by decide) aa V (n+2);have hput:=FV (B:=4294967296) (by decide) k (n+2) (aa+V) aa A2 (N:=N) (by omega);have hci:=hcr (n+2);have Y3:=Nat.mod_lt (aa/4294967296^(n+2)) (show 0<4294967296 by decide);rw[Nat.div_eq_of_lt AI,Nat.zero_mod,Nat.add_zero]at C7;simp only[];rw[bR (by rw[bZ];omega),cC,hgu,cC,Nat.mod_eq_of_lt (a:=aa/4294967296^(n+2)%4294967296) (b:=18446744073709551616) (by omega),hH _ _ (by omega),cC,cC,eD (by rw[bZ];omega),cC,C7,hput,Iy hc3,MX,hc4,SL,bR (by rw[bZ];omega),cC,eD (by rw[bZ];omega),cC,Qh (by decide) (by omega),cQ (by omega) (by omega)]
  ·
   have hql:A1/4294967296^k/V<4294967296:=by rw[X9];exact Nat.mod_lt _ (by decide)
   omega
  have SM:4294967296^(n+2+1)=4294967296^(n+2)*4294967296:=Nat.pow_succ ..;have:4294967296*V<4294967296*4294967296^(n+2):=Nat.mul_lt_mul_of_pos_left AI (by decide);rw[SM];omega
 ·rw[show K+1-(K+1)=0 by omega,Nat.pow_zero,Nat.mul_one,Nat.mul_one,Nat.div_one,show decide (0<=(K:Int)-((K+1:Nat):Int))=false by simp;omega,jF]
 obtain⟨R,hR⟩:∃R,Va%Vb=R:=⟨_,Y⟩;rw[ajf,hR];have ajm:R<4294967296^(n+2):=by rw[<-hR];exact Nat.lt_trans (Nat.mod_lt _ hb0) X8
 rw[oR (by decide) (by omega),cC];refine bP (λi=>((i:Int),gj 4294967296 (n+2) (R%4294967296^i))) (n+2) (gj 4294967296 (n+2) R) ?_ (λi hi=>?_) ?_ Y
 ·rw[Nat.pow_zero,Nat.mod_one,uc];rfl
 ·obtain⟨e,he⟩:∃e,4294967296=D*e:=⟨2^(32-s),by rw[<-hD,<-Nat.pow_add,show s+(32-s)=32 by omega,two32]⟩;have acu:=SJ (R:=R) (i:=i) SK he;obtain⟨u,hu⟩:∃u,R*D/4294967296^i%4294967296=u:=⟨_,Y⟩;obtain⟨w,hw⟩:∃w,R*D/4294967296^(i+1)%4294967296=w:=⟨_,Y⟩;have Yv:u<4294967296:=by rw[<-hu];exact Nat.mod_lt _ (by decide)
  have hw1:w<4294967296:=by rw[<-hw];exact Nat.mod_lt _ (by decide)
  rw[hu,hw]at acu;simp only[show decide ((i:Int)<((n+2:Nat):Int))=true by simp;omega,jt];rw[bR (by rw[bZ];omega),cC,nF (by omega),cC,hu,bQ (by omega),bR (by rw[bZ];omega),cC,nF (by omega),cC,hw,Nat.mod_eq_of_lt (a:=u) (by omega),Nat.mod_eq_of_lt (a:=w) (by omega),two32,Nat.mod_eq_of_lt (a:=w*4294967296) (by omega),Nat.or_comm,Lu Yv,Nat.mod_eq_of_lt (a:=w*4294967296+u) (by omega),show min s 64=s by omega,hD,acu,bR (by rw[bZ];omega),cC,eD (by rw[bZ];omega),cC];rw[X7 (by decide) hi]
 rw[Nat.mod_eq_of_lt ajm];simp
end
section
open Go.Fw
def sv(n:Bool)(v:Nat):Int:=bif n then-(v:Int)else v
def zi(z:Zr):Int:=sv z.neg (vl z.w)
def zn(i:Int):Zr:=⟨decide (i<0),can 4294967296 i.natAbs⟩
def Wl(z:Zr):Prop:=(∀x∈z.w,x<4294967296)/\z.w.length<=10000000000
def Fit(L:Nat)(i:Int):Prop:=i.natAbs<4294967296^L
theorem Qk(n:Bool)(v:Nat):(sv n v).natAbs=v:=by cases n<;>simp[sv]
theorem FX(z:Zr):(zi z).natAbs=vl z.w:=Qk _ _
theorem Ya(n:Bool)(v:Nat):decide (sv n v<0)=(n&&v != 0):=by
 cases n
 ·have:¬((v:Int)<0):=by omega
  simp[sv,this]
 rcases v with _|v
 ·simp[sv]
 simp[sv]
theorem pV(n:Bool)(v:Nat):zc n v=zn (sv n v):=by rw[zc,zn,Ya,Qk]
theorem SN(i:Int):sv (decide (i<0)) i.natAbs=i:=by
 by_cases h:i<0
 ·rw[show decide (i<0)=true by simp[h]];simp[sv];omega
 rw[show decide (i<0)=false by simp[h]];simp[sv];omega
theorem gy(i:Int):zi (zn i)=i:=by
 show sv (decide (i<0)) (vl (can 4294967296 i.natAbs))=i;rw[show vl (can 4294967296 i.natAbs)=i.natAbs from rU (by decide) _,SN]
theorem FY(n:Bool)(v:Nat):sv (!n) v=-sv n v:=by cases n<;>simp[sv]
theorem oT(v:Nat):sv false v=v:=rfl
theorem Fit.mono{L M:Nat}{i:Int}(h:Fit L i)(hl:L<=M):Fit M i:=Nat.lt_of_lt_of_le h (Nat.pow_le_pow_right (by decide) hl)
theorem Fit.neg{L:Nat}{i:Int}(h:Fit L i):Fit L (-i):=by unfold Fit at*;rw[Int.natAbs_neg];exact h
theorem Fit.add{L:Nat}{i j:Int}(h:Fit L i)(h':Fit L j):Fit (L+1) (i+j):=by
 unfold Fit at*;have:=Int.natAbs_add_le i j;rw[Nat.pow_succ];omega
theorem Fit.sub{L:Nat}{i j:Int}(h:Fit L i)(h':Fit L j):Fit (L+1) (i-j):=by
 rw[Int.sub_eq_add_neg];exact h.add h'.neg
theorem Fit.mul{L M:Nat}{i j:Int}(h:Fit L i)(h':Fit M j):Fit (L+M) (i*j):=by
 unfold Fit at*;rw[Int.natAbs_mul,Nat.pow_add];exact Nat.mul_lt_mul'' h h'
theorem Fit.i64{i:Int}(h: -9223372036854775808<=i)(h':i<=9223372036854775807):Fit 2 i:=by
 unfold Fit;rw[show(4294967296:Nat)^2=18446744073709551616 by decide];omega
theorem Fit.le{L:Nat}{i j:Int}(h:Fit L i)(h':j.natAbs<=i.natAbs):Fit L j:=Nat.lt_of_le_of_lt h' h
theorem kH{L:Nat}{i:Int}(h:Fit L i)(hL:L<=10000000000):Wl (zn i):=
 ⟨λ_ hx=>mc (by decide) hx,Nat.le_trans ((fL (by decide)).2 h) hL⟩
theorem Wl.fit{z:Zr}(h:Wl z):Fit z.w.length (zi z):=by
 unfold Fit;rw[FX];exact ju z.w h.1
theorem Wl.lt{z:Zr}(h:Wl z):vl z.w<4294967296^z.w.length:=ju z.w h.1
theorem Wl.cl{z:Zr}(h:Wl z):(can 4294967296 (vl z.w)).length<=10000000000:=
 Nat.le_trans ((fL (by decide)).2 (Wl.lt h)) h.2
theorem Wl.trim{z:Zr}(h:Wl z):bz z.w=some (can 4294967296 (vl z.w)):=by
 rw[Bg _ (by have:=h.2;omega),qQ (by decide) h.1]
theorem gS{v:Nat}(h:(can 4294967296 v).length<=10000000001):Gg (can 4294967296 v):=⟨λ_ hx=>mc (by decide) hx,by omega⟩
theorem fo(v:Nat):vl (can 4294967296 v)=v:=rU (by decide) v
theorem gD{v:Nat}:((can 4294967296 v).length:Int)<=2↔v<18446744073709551616:=by
 have:=fL (B:=4294967296) (by decide) (v:=v) (n:=2);rw[show(4294967296:Nat)^2=18446744073709551616 by decide]at this;omega
theorem me{v:Nat}:((can 4294967296 v).length:Int)<=1↔v<4294967296:=by
 have:=fL (B:=4294967296) (by decide) (v:=v) (n:=1);rw[show(4294967296:Nat)^1=4294967296 by decide]at this;omega
theorem qT{v:Nat}:(can 4294967296 v).length=0↔v=0:=by
 constructor
 ·intro h;exact FN (by decide) (List.length_eq_zero_iff.1 h)
 intro h;rw[h,ue];rfl
theorem yp(l:List Nat)(h:l.length<=1000000000000):eJ l=some l:=by
 unfold eJ;rw[ai0 (by decide) (by simp;omega)];simp
end
section
open Go.Fw
theorem IC(a b:Nat):decide (DC a b<0)=decide (a<b):=by
 rcases Nat.lt_trichotomy a b with h|h|h
 ·rw[ym h];simp[h]
 ·rw[h,FU];simp
 rw[Bf h];simp;omega
theorem Ai(a b:Nat)(ha:(can 4294967296 a).length<=10000000000)(hb:(can 4294967296 b).length<=10000000000)(h0:b≠0):
  ∃q r,gA (can 4294967296 a) (can 4294967296 b)=some (q,r)/\Gg q/\vl q=a/b/\Gg r/\vl r=a%b/\q.length<=10000000001/\r.length<=10000000001:=by
 unfold gA;rw[kM a b (by omega) (by omega)];simp only[cC];by_cases hlt:a<b
 ·rw[ym hlt];simp only[show decide ((-1:Int)<0)=true by decide,jt];rw[yp _ (by omega)];refine⟨_,_,Y,⟨by simp,by simp⟩,?_,gS (by omega),?_,by simp,by omega⟩
  ·rw[Nat.div_eq_of_lt hlt];rfl
  rw[fo,Nat.mod_eq_of_lt hlt]
 rw[IC,show decide (a<b)=false by simp[hlt]];simp only[jF];by_cases h2:a<18446744073709551616
 ·rw[show decide (((can 4294967296 a).length:Int)<=2)=true by rw[decide_eq_true_eq];exact gD.2 h2];have AO:b<18446744073709551616:=by omega
  simp only[jt];have l1:=low_eq (can 4294967296 a) (λ_ hx=>mc (by decide) hx) (by have:=gD.2 h2;omega);have l2:=low_eq (can 4294967296 b) (λ_ hx=>mc (by decide) hx) (by have:=gD.2 AO;omega);rw[fo]at l1 l2;rw[l1,cC,l2,cC,FL h0 h2,cC,qS _ _ (Nat.lt_of_le_of_lt (Nat.div_le_self _ _) h2),cC,Bd h0,cC,qS _ _ (Nat.lt_of_le_of_lt (Nat.mod_le _ _) h2),cC];have hq:a/b<18446744073709551616:=Nat.lt_of_le_of_lt (Nat.div_le_self _ _) h2;have hr:a%b<18446744073709551616:=Nat.lt_of_le_of_lt (Nat.mod_le _ _) h2;have c1:=gD.2 hq;have c2:=gD.2 hr;exact⟨_,_,Y,gS (by omega),fo _,gS (by omega),fo _,by show(can _ _).length<=_;omega,by show(can _ _).length<=_;omega⟩
 rw[show decide (((can 4294967296 a).length:Int)<=2)=false by rw[decide_eq_false_iff_not];exact λh=>h2 (gD.1 h)];simp only[jF];have zU:(can 4294967296 b).length≠0:=λh=>h0 (qT.1 h);by_cases h1:b<4294967296
 ·have h1':=me.2 h1;rw[show decide (((can 4294967296 b).length:Int)=1)=true by simp;omega,jt];have hg:(can 4294967296 b)[0]? =some b:=by rw[FO (by decide) (by omega)];simp;exact h1
  rw[yp _ (by omega),cC,zD hg,cC,Nat.mod_eq_of_lt (b:=18446744073709551616) (by omega),Iw _ _ (gS (by omega)) (by omega) (by omega),cC,fo];simp only[];rw[qP (by rw[bZ]),cC];have hm:a%b<b:=Nat.mod_lt _ (by omega);rw[Nat.mod_eq_of_lt (a:=a%b) (by omega)];refine⟨_,_,Y,⟨λx hx=>nO (by decide) _ _ _ hx,by rw[bZ];omega⟩,?_,⟨?_,by simp⟩,?_,by rw[bZ];omega,by simp⟩
  ·show val _ _=_;rw[l9,Nat.mod_eq_of_lt (Nat.lt_of_le_of_lt (Nat.div_le_self _ _) (ew (by decide) a))]
  ·intro x hx;simp at hx;omega
  simp[vl,val]
 have h1':¬(((can 4294967296 b).length:Int)<=1):=λh=>h1 (me.1 h);rw[show decide (((can 4294967296 b).length:Int)=1)=false by simp;omega,jF];obtain⟨n,hn⟩:∃n,(can 4294967296 b).length=n+2:=⟨(can 4294967296 b).length-2,by omega⟩;have hl:(can 4294967296 b).length<=(can 4294967296 a).length:=(fL (by decide)).2 (Nat.lt_of_le_of_lt (by omega) (ew (by decide) a));obtain⟨l,x,hx,he⟩:=Ip (B:=4294967296) (by decide) h0;have Ko:(can 4294967296 b)[n+1]? ≠some 0:=by
  have:l.length=n+1:=by rw[he]at hn;simp at hn;omega
  rw[he,<-this];simp;exact hx
 rw[Kp _ _ (gS (by omega)) (gS (by omega)) hn hl Ko,cC,fo,fo];have hbp:0<b:=by omega
 have e1:a<4294967296^(can 4294967296 a).length:=ew (by decide) a;have e2:b<4294967296^(can 4294967296 b).length:=ew (by decide) b;have e3:4294967296^(n+1)<=b:=vS (by decide) (by omega);refine⟨_,_,Y,⟨λx hx=>nO (by decide) _ _ _ hx,by rw[bZ];omega⟩,?_,⟨λx hx=>nO (by decide) _ _ _ hx,by rw[bZ];omega⟩,?_,by rw[bZ];omega,by rw[bZ];omega⟩
 ·show val _ _=_;rw[l9,Nat.mod_eq_of_lt];rw[Nat.div_lt_iff_lt_mul hbp];have:4294967296^((can 4294967296 a).length-(can 4294967296 b).length+1)*4294967296^(n+1)=4294967296^(can 4294967296 a).length:=by rw[<-Nat.pow_add];congr 1;omega
  calc a<4294967296^((can 4294967296 a).length-(can 4294967296 b).length+1)*4294967296^(n+1):=by rw[this];exact e1
   _<=_:=Nat.mul_le_mul_left _ e3
 show val _ _=_;rw[l9,Nat.mod_eq_of_lt (Nat.lt_trans (Nat.mod_lt _ hbp) e2)]
end
section
open Go.Fw
theorem mQ{x:Int}(h1: -9223372036854775808<=x)(h2:x<=9223372036854775807):cm x=some (zn x):=by
 unfold cm;simp only[cC,cK];by_cases hx:x<0
 ·have e:(x%18446744073709551616).toNat=18446744073709551616-x.natAbs:=by omega
  rw[show decide (x<0)=true by simp[hx],jt,e,Bb (by omega) (by omega),show 18446744073709551616+0-(18446744073709551616-x.natAbs)=x.natAbs by omega,qS _ _ (by omega),cC,pV,show sv true x.natAbs=x by simp[sv];omega]
 have e:(x%18446744073709551616).toNat=x.natAbs:=by omega
 rw[show decide (x<0)=false by simp[hx],jF,e,qS _ _ (by omega),cC,pV,show sv false x.natAbs=x by simp[sv];omega]
def fT(i:Int):Prop:=-9223372036854775808<=i/\i<=9223372036854775807
instance(i:Int):Decidable (fT i):=by unfold fT;infer_instance
def uf(i:Int):Int×Bool:=if fT i then(i,true)else(0,false)
theorem oU{z:Zr}(h:Wl z):dR z=some (uf (zi z)):=by
 obtain⟨n,w⟩:=z;unfold dR;have ht:=h.trim;have ajn:vl w<18446744073709551616->dU (can 4294967296 (vl w))=some (vl w):=λh2=>by
  rw[low_eq _ (λ_ hx=>mc (by decide) hx) (by have:=gD.2 h2;omega),fo]
 show(bz w).bind _=some (uf (sv n (vl w)));rw[show bz w=some (can 4294967296 (vl w))from ht];simp only[cC];generalize vl w=v at*;by_cases h2:v<18446744073709551616
 ·have:=gD.2 h2;rw[show decide ((2:Int)<((can 4294967296 v).length:Int))=false by simp;omega,jF,ajn h2,cC];cases n
  ·rw[jF,oT];by_cases h3:v<9223372036854775808
   ·rw[show decide (9223372036854775808<=v)=false by simp;omega,jF,uK (by omega),uf,if_pos (by unfold fT;omega)]
   rw[show decide (9223372036854775808<=v)=true by simp;omega,jt,uf,if_neg (by unfold fT;omega)]
  rw[jt,show sv true v=-(v:Int)from rfl];by_cases h3:9223372036854775808<v
  ·rw[show decide (9223372036854775808<v)=true by simp;omega,jt,uf,if_neg (by unfold fT;omega)]
  rw[show decide (9223372036854775808<v)=false by simp;omega,jF,uf,if_pos (by unfold fT;omega)];by_cases h0:v=0
  ·subst h0;rfl
  rw[Bb (by omega) (by omega)];rw[show IntKind.i64.wrap ((18446744073709551616+0-v:Nat):Int)=-(v:Int) by
   rw[IntKind.wrap];simp[IntKind.signed,IntKind.bits];omega]
 have:¬(((can 4294967296 v).length:Int)<=2):=λh=>h2 (gD.1 h);rw[show decide ((2:Int)<((can 4294967296 v).length:Int))=true by simp;omega,jt,uf,if_neg (by unfold fT;cases n<;>simp[sv]<;>omega)]
theorem sign_eq{z:Zr}(h:Wl z):di z=some (zi z).sign:=by
 obtain⟨n,w⟩:=z;unfold di;show(bz w).bind _=some (sv n (vl w)).sign;rw[show bz w=some (can 4294967296 (vl w))from h.trim];simp only[cC];generalize vl w=v;by_cases h0:v=0
 ·subst h0;cases n<;>rfl
 have:(can 4294967296 v).length≠0:=λh=>h0 (qT.1 h);rw[show decide (((can 4294967296 v).length:Int)=0)=false by simp;intro e;rw[e]at this;exact this Y,jF];cases n
 ·rw[jF,oT,Int.sign_eq_one_of_pos (by omega)]
 rw[jt,show sv true v=-(v:Int)from Y,Int.sign_eq_neg_one_of_neg (by omega)]
def qV(i j:Int):Int:=if i<j then-1 else if i=j then 0 else 1
theorem nf{i j:Int}(h:i<j):qV i j=-1:=by simp[qV,h]
theorem nh{i j:Int}(h:j<i):qV i j=1:=by
 have h1:¬i<j:=by omega
 have h2:¬i=j:=by omega
 simp[qV,h1,h2]
theorem uN(i:Int):qV i i=0:=by simp[qV]
theorem ID(v w:Nat):DC v w=qV (v:Int) (w:Int):=by
 rcases Nat.lt_trichotomy v w with h|h|h
 ·rw[ym h,nf (by omega)]
 ·rw[h,FU,uN]
 rw[Bf h,nh (by omega)]
theorem Ql(i j:Int):qV (-i) (-j)=qV j i:=by
 rcases Int.lt_trichotomy i j with h|h|h
 ·rw[nh h,nh (by omega)]
 ·rw[h,uN,uN]
 rw[nf h,nf (by omega)]
theorem Yb{x y:Zr}(hx:Wl x)(hy:Wl y):nv x y=some (qV (zi x) (zi y)):=by
 obtain⟨n,w⟩:=x;obtain⟨m,u⟩:=y;unfold nv;show(di ⟨n,w⟩).bind _=_;rw[sign_eq hx,cC];show(di ⟨m,u⟩).bind _=_;rw[sign_eq hy,cC,show bz w=some (can 4294967296 (vl w))from hx.trim,show bz u=some (can 4294967296 (vl u))from hy.trim];simp only[cC];rw[kM _ _ (Nat.le_trans hx.cl (by decide)) (Nat.le_trans hy.cl (by decide)),kM _ _ (Nat.le_trans hy.cl (by decide)) (Nat.le_trans hx.cl (by decide))];simp only[cC];rw[show zi ⟨n,w⟩=sv n (vl w)from Y,show zi ⟨m,u⟩=sv m (vl u)from rfl];generalize vl w=a;generalize vl u=b;rw[ID,ID];obtain⟨i,hi⟩:∃i,sv n a=i:=⟨_,Y⟩;obtain⟨j,hj⟩:∃j,sv m b=j:=⟨_,Y⟩;have Q6:(i<0->i=-(a:Int))/\(0<=i->i=a):=by rw[<-hi];cases n<;>simp[sv]<;>omega
 have hjb:(j<0->j=-(b:Int))/\(0<=j->j=b):=by rw[<-hj];cases m<;>simp[sv]<;>omega
 rw[hi,hj];rcases Int.lt_trichotomy i 0 with h1|h1|h1<;>rcases Int.lt_trichotomy j 0 with h2|h2|h2
 ·rw[Int.sign_eq_neg_one_of_neg h1,Int.sign_eq_neg_one_of_neg h2,Q6.1 h1,hjb.1 h2,Ql];rfl
 ·rw[Int.sign_eq_neg_one_of_neg h1,show Int.sign j=0 by rw[h2];rfl,show qV i j=-1 from nf (by omega)];rfl
 ·rw[Int.sign_eq_neg_one_of_neg h1,Int.sign_eq_one_of_pos h2,show qV i j=-1 from nf (by omega)];rfl
 ·rw[show Int.sign i=0 by rw[h1];rfl,Int.sign_eq_neg_one_of_neg h2,show qV i j=1 from nh (by omega)];rfl
 ·rw[show Int.sign i=0 by rw[h1];rfl,show Int.sign j=0 by rw[h2];rfl,<-Q6.2 (by omega),<-hjb.2 (by omega)];rfl
 ·rw[show Int.sign i=0 by rw[h1];rfl,Int.sign_eq_one_of_pos h2,show qV i j=-1 from nf (by omega)];rfl
 ·rw[Int.sign_eq_one_of_pos h1,Int.sign_eq_neg_one_of_neg h2,show qV i j=1 from nh (by omega)];rfl
 ·rw[Int.sign_eq_one_of_pos h1,show Int.sign j=0 by rw[h2];rfl,show qV i j=1 from nh (by omega)];rfl
 rw[Int.sign_eq_one_of_pos h1,Int.sign_eq_one_of_pos h2,<-Q6.2 (by omega),<-hjb.2 (by omega)];rfl
theorem neg_eq{x:Zr}(hx:Wl x):gw x=some (zn (-zi x)):=by
 obtain⟨n,w⟩:=x;unfold gw;have hc:(can 4294967296 (vl w)).length<=10000000000:=hx.cl;simp only[cC];rw[show bz w=some (can 4294967296 (vl w))from hx.trim,cC,yp _ (by omega),cC,kG _ _ (gS (by omega)),cC,fo,pV,FY];rfl
end
section
open Go.Fw
theorem yq(n m:Bool)(a b:Nat)(ha:(can 4294967296 a).length<=10000000000)(hb:(can 4294967296 b).length<=10000000000):
  dG n (can 4294967296 a) m (can 4294967296 b)=some (zn (sv n a+sv m b)):=by
 have la:=ew (B:=4294967296) (by decide) a;have lb:=ew (B:=4294967296) (by decide) b;unfold dG;simp only[cC];by_cases hnm:n=m
 ·subst hnm;rw[show(n==n)=true by simp,jt,Ag _ _ (gS (by omega)) (gS (by omega)),cC,fo,fo,kG _ _ ⟨λx hx=>nO (by decide) _ _ _ hx,by rw[bZ];omega⟩,cC];have hv:vl (gj 4294967296 (max (can 4294967296 a).length (can 4294967296 b).length+1) (a+b))=a+b:=by
   show val _ _=_;rw[l9,Nat.mod_eq_of_lt];have h1:a<4294967296^(max (can 4294967296 a).length (can 4294967296 b).length):=Nat.lt_of_lt_of_le la (Nat.pow_le_pow_right (by decide) (by omega));have h2:b<4294967296^(max (can 4294967296 a).length (can 4294967296 b).length):=Nat.lt_of_lt_of_le lb (Nat.pow_le_pow_right (by decide) (by omega));rw[Nat.pow_succ];omega
  rw[hv,pV,show sv n (a+b)=sv n a+sv n b by cases n<;>simp[sv];omega]
 rw[show(n==m)=false by simp[hnm],jF,kM _ _ (by omega) (by omega),cC,IC];have hm:m= !n:=by cases n<;>cases m<;>simp_all
 subst hm;have hv:∀c d,d<=c->(can 4294967296 c).length<=10000000000->dy (can 4294967296 c) (can 4294967296 d)=some (gj 4294967296 (can 4294967296 c).length (c-d))/\vl (gj 4294967296 (can 4294967296 c).length (c-d))=c-d:=by
  intro c d hdc ry;have lc:=ew (B:=4294967296) (by decide) c;have hdl:(can 4294967296 d).length<=(can 4294967296 c).length:=(fL (by decide)).2 (by omega);constructor
  ·rw[Ah _ _ (gS (by omega)) (gS (by omega)) hdl (by rw[fo,fo];exact hdc),fo,fo]
  show val _ _=_;rw[l9,Nat.mod_eq_of_lt (by omega)]
 by_cases hlt:a<b
 ·obtain⟨h1,h2⟩:=hv b a (by omega) hb;rw[show decide (a<b)=true by simp[hlt],jt,h1,cC,kG _ _ ⟨λx hx=>nO (by decide) _ _ _ hx,by rw[bZ];omega⟩,cC,h2,pV,show sv (!n) (b-a)=sv n a+sv (!n) b by cases n<;>simp[sv]<;>omega]
 obtain⟨h1,h2⟩:=hv a b (by omega) ha;rw[show decide (a<b)=false by simp[hlt],jF,h1,cC,kG _ _ ⟨λx hx=>nO (by decide) _ _ _ hx,by rw[bZ];omega⟩,cC,h2,pV,show sv n (a-b)=sv n a+sv (!n) b by cases n<;>simp[sv]<;>omega]
theorem Ly(v:BitVec 64):IntKind.i64.wrap (v.toNat:Int)=v.toInt:=by
 rw[BitVec.toInt_eq_toNat_cond];have:=v.isLt;rw[show(2:Nat)^64=18446744073709551616 by decide]at this⊢;split
 ·rw[uK (by omega)]
 rw[IntKind.wrap];simp[IntKind.signed,IntKind.bits];omega
theorem Lz(v:BitVec 64):BitVec.ofInt 64 (IntKind.i64.wrap (v.toNat:Int))=v:=by rw[Ly,BitVec.ofInt_toInt]
theorem zG{x:Int}(h:fT x):(BitVec.ofInt 64 x).msb=decide (x<0):=by
 rw[BitVec.msb_eq_toInt,BitVec.toInt_ofInt];unfold fT at h;have:x.bmod (2^64)=x:=by
  rw[Int.bmod_def];simp only[show((2^64:Nat):Int)=18446744073709551616 by decide];split<;>omega
 rw[this]
theorem Ef(v:BitVec 64):decide ((0:Int)<=IntKind.i64.wrap (v.toNat:Int))= !v.msb:=by
 rw[Ly,BitVec.msb_eq_toInt];by_cases h:v.toInt<0
 ·simp[h]
 simp[h];omega
theorem qW(x:Int):fT (IntKind.i64.wrap x):=by
 unfold fT;rw[IntKind.wrap];simp[IntKind.signed,IntKind.bits];split<;>omega
theorem CL{α:Type}(b:Bool)(x:α):(bif b then x else x)=x:=by cases b<;>rfl
theorem je{i:Int}(h:fT i):uf i=(i,true):=if_pos h
theorem oV{i:Int}(h:¬fT i):uf i=(0,false):=if_neg h
theorem add_eq{x y:Zr}(hx:Wl x)(hy:Wl y):nq x y=some (zn (zi x+zi y)):=by
 obtain⟨n,w⟩:=x;obtain⟨m,u⟩:=y;unfold nq;simp only[oU hx,oU hy,cC,cK];have hK:((bz w).bind λwj=>(bz u).bind λxj=>(dG n wj m xj).bind λx=>some x)=some (zn (zi ⟨n,w⟩+zi ⟨m,u⟩)):=by
  rw[show bz w=some (can 4294967296 (vl w))from hx.trim,show bz u=some (can 4294967296 (vl u))from hy.trim,cC,cC,yq _ _ _ _ hx.cl hy.cl,cC];rfl
 have hK':((bz w).bind λwj=>(bz u).bind λxj=>(dG n wj m xj).bind λx=>some ⟨x.neg,x.w⟩)=some (zn (zi ⟨n,w⟩+zi ⟨m,u⟩)):=hK;rw[hK'];generalize zi ⟨n,w⟩=i;generalize zi ⟨m,u⟩=j;by_cases h1:fT i
 ·by_cases h2:fT j
  ·rw[je h1,je h2,jt,cC,jt,Lz,Lz,Ef,BitVec.msb_and,BitVec.msb_xor,BitVec.msb_xor,zG h1,zG h2,zG (qW _),mQ (qW _).1 (qW _).2,cC];by_cases hr:fT (i+j)
   ·rw[cQ hr.1 hr.2];exact CL _ _
   have:(!((decide (i<0)^^decide (IntKind.i64.wrap (i+j)<0))&&(decide (j<0)^^decide (IntKind.i64.wrap (i+j)<0))))=false:=by
    unfold fT at*;by_cases hs:i<0
    ·have e:IntKind.i64.wrap (i+j)=i+j+18446744073709551616:=by rw[IntKind.wrap];simp[IntKind.signed,IntKind.bits];omega
     rw[e,show decide (i<0)=true by simp[hs],show decide (j<0)=true by simp;omega,show decide (i+j+18446744073709551616<0)=false by simp;omega];rfl
    have e:IntKind.i64.wrap (i+j)=i+j-18446744073709551616:=by rw[IntKind.wrap];simp[IntKind.signed,IntKind.bits];omega
    rw[e,show decide (i<0)=false by simp[hs],show decide (j<0)=false by simp;omega,show decide (i+j-18446744073709551616<0)=true by simp;omega];rfl
   rw[this,jF]
  rw[je h1,oV h2,jt,cC,jF]
 rw[oV h1,jF,cC,jF]
theorem sub_eq{x y:Zr}(hx:Wl x)(hy:Wl y):nu x y=some (zn (zi x-zi y)):=by
 obtain⟨n,w⟩:=x;obtain⟨m,u⟩:=y;unfold nu;simp only[oU hx,oU hy,cC,cK];have hK':((bz w).bind λwj=>(bz u).bind λxj=>(dG n wj (!m) xj).bind λx=>some ⟨x.neg,x.w⟩)=some (zn (zi ⟨n,w⟩-zi ⟨m,u⟩)):=by
  rw[show bz w=some (can 4294967296 (vl w))from hx.trim,show bz u=some (can 4294967296 (vl u))from hy.trim,cC,cC,yq _ _ _ _ hx.cl hy.cl,cC,FY,<-Int.sub_eq_add_neg];rfl
 rw[hK'];generalize zi ⟨n,w⟩=i;generalize zi ⟨m,u⟩=j;by_cases h1:fT i
 ·by_cases h2:fT j
  ·rw[je h1,je h2,jt,cC,jt,Lz,Lz,Ef,BitVec.msb_and,BitVec.msb_xor,BitVec.msb_xor,zG h1,zG h2,zG (qW _),mQ (qW _).1 (qW _).2,cC];by_cases hr:fT (i-j)
   ·rw[cQ hr.1 hr.2];exact CL _ _
   have:(!((decide (i<0)^^decide (j<0))&&(decide (i<0)^^decide (IntKind.i64.wrap (i-j)<0))))=false:=by
    unfold fT at*;by_cases hs:i<0
    ·have e:IntKind.i64.wrap (i-j)=i-j+18446744073709551616:=by rw[IntKind.wrap];simp[IntKind.signed,IntKind.bits];omega
     rw[e,show decide (i<0)=true by simp[hs],show decide (j<0)=false by simp;omega,show decide (i-j+18446744073709551616<0)=false by simp;omega];rfl
    have e:IntKind.i64.wrap (i-j)=i-j-18446744073709551616:=by rw[IntKind.wrap];simp[IntKind.signed,IntKind.bits];omega
    rw[e,show decide (i<0)=false by simp[hs],show decide (j<0)=true by simp;omega,show decide (i-j-18446744073709551616<0)=true by simp;omega];rfl
   rw[this,jF]
  rw[je h1,oV h2,jt,cC,jF]
 rw[oV h1,jF,cC,jF]
theorem Qm(n m:Bool)(a b:Nat):sv (!(n==m)) (a*b)=sv n a*sv m b:=by
 cases n<;>cases m<;>simp[sv,Int.neg_mul,Int.mul_neg]
theorem mul_eq{x y:Zr}(hx:Wl x)(hy:Wl y):c9 x y=some (zn (zi x*zi y)):=by
 obtain⟨n,w⟩:=x;obtain⟨m,u⟩:=y;unfold c9;have hcx:(can 4294967296 (vl w)).length<=10000000000:=hx.cl;have hcy:(can 4294967296 (vl u)).length<=10000000000:=hy.cl;simp only[];rw[show bz w=some (can 4294967296 (vl w))from hx.trim,show bz u=some (can 4294967296 (vl u))from hy.trim,cC,cC,show zi ⟨n,w⟩=sv n (vl w)from Y,show zi ⟨m,u⟩=sv m (vl u)from rfl];simp only[cC,cK];generalize vl w=a at*;generalize vl u=b at*;have la:=ew (B:=4294967296) (by decide) a;have lb:=ew (B:=4294967296) (by decide) b;have hK:((gz (can 4294967296 a) (can 4294967296 b)).bind λvm=>(cE (!(n==m)) vm).bind λx=>some ⟨x.neg,x.w⟩)=some (zn (sv n a*sv m b)):=by
  rw[Iv _ _ (gS (by omega)) (gS (by omega)),cC,fo,fo,kG _ _ ⟨λx hx=>nO (by decide) _ _ _ hx,by rw[bZ];omega⟩,cC,pV];have hv:vl (gj 4294967296 ((can 4294967296 a).length+(can 4294967296 b).length) (a*b))=a*b:=by
   show val _ _=_;rw[l9,Nat.mod_eq_of_lt];rw[Nat.pow_add];exact Nat.mul_lt_mul'' la lb
  rw[hv,Qm]
 rw[hK];by_cases h1:a<4294967296
 ·by_cases h2:b<4294967296
  ·have l1:=low_eq (can 4294967296 a) (λ_ hx=>mc (by decide) hx) (by have:=me.2 h1;omega);have l2:=low_eq (can 4294967296 b) (λ_ hx=>mc (by decide) hx) (by have:=me.2 h2;omega);rw[fo]at l1 l2;have hlt:a*b<18446744073709551616:=Nat.mul_lt_mul'' h1 h2;rw[show decide (((can 4294967296 a).length:Int)<=1)=true by rw[decide_eq_true_eq];exact me.2 h1,jt,cC,show decide (((can 4294967296 b).length:Int)<=1)=true by rw[decide_eq_true_eq];exact me.2 h2,jt,l1,l2,cC,cC,Nat.mod_eq_of_lt hlt,qS _ _ hlt,cC,pV,Qm]
  rw[show decide (((can 4294967296 a).length:Int)<=1)=true by rw[decide_eq_true_eq];exact me.2 h1,jt,cC,show decide (((can 4294967296 b).length:Int)<=1)=false by rw[decide_eq_false_iff_not];exact λh=>h2 (me.1 h),jF]
 rw[show decide (((can 4294967296 a).length:Int)<=1)=false by rw[decide_eq_false_iff_not];exact λh=>h1 (me.1 h),jF,cC,jF]
end
section
open Go.Fw
theorem Yc(n m:Bool){a b:Nat}(hb:0<b):
  sv n a/sv m b=(if n=true/\0<a%b then sv (!(n==m)) (a/b+1)else sv (!(n==m)) (a/b))/\
  sv n a%sv m b=(if n=true/\0<a%b then((b-a%b:Nat):Int)else((a%b:Nat):Int)):=by
 have hd:=Nat.div_add_mod a b;have hm:=Nat.mod_lt a hb
 revert hd hm
 generalize a/b=q;generalize a%b=r;intro hd hm;have hd':(b:Int)*q+r=a:=by exact_mod_cast hd
 have pos:∀n,sv n a/(b:Int)=(if n=true/\0<r then sv n (q+1)else sv n q)/\sv n a%(b:Int)=(if n=true/\0<r then((b-r:Nat):Int)else(r:Int)):=by
  intro n;apply(Int.ediv_emod_unique (by omega)).2;cases n
  ·simp[sv];omega
  by_cases hr:0<r
  ·simp only[hr,and_self,if_true,sv,cond_true];have:(b:Int)* -((q+1:Nat):Int)=-((b:Int)*q)-b:=by
    rw[Int.mul_neg,Int.natCast_add,Int.mul_add];simp;omega
   rw[this];omega
  have:r=0:=by omega
  subst this;simp[sv,Int.mul_neg];omega
 cases m
 ·have:=pos n;rw[oT,show(!(n==false))=n by cases n<;>rfl];exact this
 have:=pos n;rw[show sv true b=-(b:Int)from rfl,Int.ediv_neg,Int.emod_neg,this.1,this.2,show(!(n==true))= !n by cases n<;>rfl,FY,FY];refine⟨?_,Y⟩;split<;>rfl
theorem Yd{a b:Nat}(hba:b<=a)(ry:(can 4294967296 a).length<=10000000000):dy (can 4294967296 a) (can 4294967296 b)=some (gj 4294967296 (can 4294967296 a).length (a-b))/\vl (gj 4294967296 (can 4294967296 a).length (a-b))=a-b:=by
 have lc:=ew (B:=4294967296) (by decide) a;have hdl:(can 4294967296 b).length<=(can 4294967296 a).length:=(fL (by decide)).2 (by omega);constructor
 ·rw[Ah _ _ (gS (by omega)) (gS (by omega)) hdl (by rw[fo,fo];exact hba),fo,fo]
 show val _ _=_;rw[l9,Nat.mod_eq_of_lt (by omega)]
def SO(i j:Int):Zr×Zr×Int:=if j=0 then(⟨false,[]⟩,⟨false,[]⟩,7)else(zn (i/j),zn (i%j),0)
theorem divMod_eq{x y:Zr}(hx:Wl x)(hy:Wl y):fI x y=some (SO (zi x) (zi y)):=by
 obtain⟨n,w⟩:=x;obtain⟨m,u⟩:=y;unfold fI;have hcx:(can 4294967296 (vl w)).length<=10000000000:=hx.cl;have hcy:(can 4294967296 (vl u)).length<=10000000000:=hy.cl;simp only[];rw[show bz w=some (can 4294967296 (vl w))from hx.trim,show bz u=some (can 4294967296 (vl u))from hy.trim,cC,cC,show zi ⟨n,w⟩=sv n (vl w)from Y,show zi ⟨m,u⟩=sv m (vl u)from rfl];simp only[cC,cK];generalize vl w=a at*;generalize vl u=b at*;by_cases h0:b=0
 ·subst h0;rw[show sv m 0=0 by cases m<;>rfl];rfl
 have zU:(can 4294967296 b).length≠0:=λh=>h0 (qT.1 h);rw[show decide (((can 4294967296 b).length:Int)=0)=false by simp;intro e;rw[e]at zU;exact zU Y,jF];obtain⟨q,r,hqr,hq1,hq2,WJ,hr2,hq3,hr3⟩:=Ai a b hcx hcy h0;have hm:a%b<b:=Nat.mod_lt _ (by omega);obtain⟨e1,e2⟩:=Yc n m (a:=a) (show 0<b by omega);have hj:sv m b≠0:=by cases m<;>simp[sv]<;>omega
 rw[hqr,cC];simp only[];rw[Bg r (by have:=WJ.2;omega),qQ (by decide) WJ.1,show val 4294967296 r=a%b from hr2,cC,SO,if_neg hj,e1,e2];have Kq:(can 4294967296 (a%b)).length<=(can 4294967296 b).length:=(fL (by decide)).2 (Nat.lt_trans hm (ew (by decide) b));have hK:∀c:Bool,(decide (n=true/\0<a%b)=c)->(bif c then(fk q [1]).bind λvm=>(dy (can 4294967296 b) (can 4294967296 (a%b))).bind λqm=>(cE (!(n==m)) vm).bind λx=>(cE false qm).bind λx_1=>some ((⟨x.neg,x.w⟩:Zr),(⟨x_1.neg,x_1.w⟩:Zr),(0:Int))
   else(cE (!(n==m)) q).bind λx=>(cE false (can 4294967296 (a%b))).bind λx_1=>some ((⟨x.neg,x.w⟩:Zr),(⟨x_1.neg,x_1.w⟩:Zr),(0:Int)))=
   some (zn (if n=true/\0<a%b then sv (!(n==m)) (a/b+1)else sv (!(n==m)) (a/b)),zn (if n=true/\0<a%b then((b-a%b:Nat):Int)else((a%b:Nat):Int)),0):=by
  intro c hc;cases c
  ·have hc':=of_decide_eq_false hc;rw[jF,if_neg hc',if_neg hc',kG _ _ hq1,cC,kG _ _ (gS (by omega)),cC,fo,hq2,pV,pV,oT]
  have hc':=of_decide_eq_true hc;obtain⟨s1,s2⟩:=Yd (a:=b) (b:=a%b) (by omega) hcy;have w1:Gg [1]:=⟨by simp,by simp⟩;rw[jt,if_pos hc',if_pos hc',Ag _ _ hq1 w1,cC,s1,cC,kG _ _ ⟨λx hx=>nO (by decide) _ _ _ hx,by rw[bZ];simp;omega⟩,cC,kG _ _ ⟨λx hx=>nO (by decide) _ _ _ hx,by rw[bZ];omega⟩,cC,s2,pV,pV,oT];have:vl (gj 4294967296 (max q.length [1].length+1) (vl q+vl [1]))=a/b+1:=by
   show val _ _=_;rw[l9,show vl [1]=1 by decide,hq2,Nat.mod_eq_of_lt];have h1:vl q<4294967296^q.length:=ju q hq1.1;rw[hq2]at h1;have h2:4294967296^q.length<=4294967296^(max q.length [1].length):=Nat.pow_le_pow_right (by decide) (by omega);have h3:0<4294967296^(max q.length [1].length):=Nat.pow_pos (by decide);rw[Nat.pow_succ];omega
  rw[this]
 have hz:(0<(can 4294967296 (a%b)).length)↔0<a%b:=by
  have:=qT (v:=a%b);omega
 cases n
 ·rw[jF,cC];exact hK false (by simp)
 rw[jt,cC];refine hK _ ?_;simp only[true_and];by_cases h:0<a%b
 ·simp[h,hz.2 h]
 have h':¬0<(can 4294967296 (a%b)).length:=λe=>h (hz.1 e);have h'':¬((0:Int)<((can 4294967296 (a%b)).length:Int)):=by omega
 simp only[h,h'',decide_false]
theorem Ye{x y:Zr}(hx:Wl x)(hy:Wl y):lf x y=some (zn (Int.gcd (zi x) (zi y):Int)):=by
 obtain⟨n,w⟩:=x;obtain⟨m,u⟩:=y;unfold lf;have hcx:(can 4294967296 (vl w)).length<=10000000000:=hx.cl;have hcy:(can 4294967296 (vl u)).length<=10000000000:=hy.cl;simp only[];rw[show bz w=some (can 4294967296 (vl w))from hx.trim,show bz u=some (can 4294967296 (vl u))from hy.trim,cC,cC,Int.gcd,FX,FX];show _=some (zn ((Nat.gcd (vl w) (vl u):Nat):Int));generalize vl w=a at*;generalize vl u=b at*;refine mP (λs=>∃c d,s=(can 4294967296 c,can 4294967296 d)/\Nat.gcd c d=Nat.gcd a b/\(can 4294967296 c).length<=10000000000/\(can 4294967296 d).length<=10000000000)
  (λs=>∃c d,s=(can 4294967296 c,can 4294967296 d)/\Nat.gcd c d=Nat.gcd a b/\(can 4294967296 c).length<=10000000000/\(d=0\/(c<18446744073709551616/\d<18446744073709551616))) (λs=>vl s.2) ?_ ⟨a,b,Y,Y,hcx,hcy⟩ ?_
 ·rintro _ ⟨c,d,rfl,hg,hc,hd⟩;simp only[cC,cK];by_cases h0:d=0
  ·right;subst h0;exact⟨_,Y,c,0,Y,hg,hc,.inl Y⟩
  have zU:(can 4294967296 d).length≠0:=λh=>h0 (qT.1 h);rw[show decide ((0:Int)<((can 4294967296 d).length:Int))=true by simp;omega,jt];by_cases h2:c<18446744073709551616/\d<18446744073709551616
  ·right;have c1:=gD.2 h2.1;have c2:=gD.2 h2.2;rw[show decide ((2:Int)<((can 4294967296 c).length:Int))=false by simp;omega,jF,show decide ((2:Int)<((can 4294967296 d).length:Int))=false by simp;omega];exact⟨_,Y,c,d,Y,hg,hc,.inr h2⟩
  left;have hm:c%d<d:=Nat.mod_lt _ (by omega);obtain⟨q,r,hqr,hq1,hq2,WJ,hr2,-,-⟩:=Ai c d hc hd h0;have Nt:((bif decide ((2:Int)<((can 4294967296 c).length:Int))then some true else some (decide ((2:Int)<((can 4294967296 d).length:Int)))):Option Bool)=some true:=by
   by_cases Gr:c<18446744073709551616
   ·have hd2:¬d<18446744073709551616:=λh=>h2 ⟨Gr,h⟩;have:¬(((can 4294967296 d).length:Int)<=2):=λh=>hd2 (gD.1 h);rw[show decide ((2:Int)<((can 4294967296 d).length:Int))=true by simp;omega];exact CL _ _
   have:¬(((can 4294967296 c).length:Int)<=2):=λh=>Gr (gD.1 h);rw[show decide ((2:Int)<((can 4294967296 c).length:Int))=true by simp;omega,jt]
  rw[Nt,cC,cC,jt,hqr,cC];simp only[];rw[Bg r (by have:=WJ.2;omega),qQ (by decide) WJ.1,show val 4294967296 r=c%d from hr2,cC];refine⟨_,Y,⟨d,c%d,Y,?_,hd,?_⟩,?_⟩
  ·rw[<-hg,Nat.gcd_comm d,<-Nat.gcd_rec,Nat.gcd_comm]
  ·exact Nat.le_trans ((fL (by decide)).2 (Nat.lt_trans hm (ew (by decide) d))) hd
  simp only[fo];exact hm
 rintro _ ⟨c,d,rfl,hg,hc,Qj⟩;simp only[cC];by_cases h0:d=0
 ·subst h0;rw[show decide (((can 4294967296 0).length:Int)=0)=true by simp[ue],jt,yp _ (by omega),cC,kG _ _ (gS (by omega)),cC,fo,pV,oT,<-hg,Nat.gcd_zero_right]
 have h2:=Qj.resolve_left h0;have zU:(can 4294967296 d).length≠0:=λh=>h0 (qT.1 h);have c1:=gD.2 h2.1;have c2:=gD.2 h2.2;rw[show decide (((can 4294967296 d).length:Int)=0)=false by simp;intro e;rw[e]at zU;exact zU Y,jF,low_eq _ (λ_ hx=>mc (by decide) hx) (by omega),cC,low_eq _ (λ_ hx=>mc (by decide) hx) (by omega),cC,fo,fo];refine mP (λs=>Nat.gcd s.1 s.2=Nat.gcd a b/\s.1<18446744073709551616/\s.2<18446744073709551616) (λe=>e=Nat.gcd a b/\e<18446744073709551616) (λs=>s.2) ?_ ⟨hg,h2.1,h2.2⟩ ?_
 ·rintro⟨s,t⟩ ⟨i1,i2,i3⟩;simp only at i1 i2 i3⊢;by_cases ht:0<t
  ·left;rw[show decide (0<t)=true by simp[ht],jt,Bd (by omega),cC];refine⟨_,Y,⟨?_,i3,?_⟩,Nat.mod_lt _ ht⟩
   ·rw[<-i1,Nat.gcd_comm t,<-Nat.gcd_rec,Nat.gcd_comm]
   exact Nat.lt_trans (Nat.mod_lt _ ht) i3
  right;rw[show decide (0<t)=false by simp[ht],jF];refine⟨_,Y,?_,i2⟩;rw[<-i1,show t=0 by omega,Nat.gcd_zero_right]
 rintro e ⟨rfl,he⟩;rw[qS _ _ he,cC,pV,oT]
end
section
open Go.Fw
def zl(l:List Nat):List Int:=l.map (λ(n:Nat)=>(n:Int))
abbrev YS(l:List Nat):Nat:=val 65536 l
end
section
open Go.Fw
theorem p9(k:Nat):10^(9*(k+1))=10^(9*k)*1000000000:=by
 rw[show 9*(k+1)=9*k+9 by omega,Nat.pow_add]
end
section
open Go.Fw
def body(s:QS):QS:=if s.head?=some 45 then s.tail else s
def dv(s:QS):Nat:=s.foldl (λa c=>a*10+(c.toNat-48)) 0
def z0:Zr:=⟨false,[]⟩
end
section
open Go.Fw
theorem zeta'(z:Zr):(⟨z.neg,z.w⟩:Zr)=z:=by cases z;rfl
theorem MN{i:Int}(h:fT i):Fit 2 i:=Fit.i64 h.1 h.2
end
section
open Go.Fw
theorem SP(l:List Zr)(hl:l.length<=100):∃b,lU l=some b/\(b=false->∀z∈l,z.w.length<=12):=by
 unfold lU;simp only[cC];refine l7 (λy=>∃i:Nat,y=(i:Int)/\i<=l.length/\∀z∈l.take i,z.w.length<=12) (λe=>(∃c,e=.inl c/\∀z∈l,z.w.length<=12)\/e=.inr true) (λy=>l.length-y.toNat) ?_ ⟨0,Y,by omega,by simp⟩ ?_
 ·rintro _ ⟨i,rfl,hi,ht⟩;by_cases hlt:i<l.length
  ·have g:l[i]? =some l[i]:=by simp
   rw[show decide ((i:Int)<(l.length:Int))=true by simp[hlt],jt,bK g,cC];by_cases iz:l[i].w.length<=12
   ·left;rw[show decide ((12:Int)<(l[i].w.length:Int))=false by rw[decide_eq_false_iff_not];omega,jF,bQ (by omega)];refine⟨_,Y,⟨i+1,Y,hlt,?_⟩,by omega⟩;rw[List.take_add_one,g];intro z hz;rcases List.mem_append.1 hz with h|h
    ·exact ht z h
    simp at h;rw[h];exact iz
   right;rw[show decide ((12:Int)<(l[i].w.length:Int))=true by rw[decide_eq_true_eq];omega,jt];exact⟨_,Y,.inr Y⟩
  right;rw[show decide ((i:Int)<(l.length:Int))=false by simp;omega,jF];rw[List.take_of_length_le (by omega)]at ht;exact⟨_,Y,.inl ⟨_,Y,ht⟩⟩
 rintro e (⟨c,rfl,he⟩|rfl)
 ·exact⟨false,Y,λ_=>he⟩
 exact⟨true,rfl,λh=>by cases h⟩
theorem Qn(i j:Int):(i-j).sign=qV i j:=by
 rcases Int.lt_trichotomy i j with h|h|h
 ·rw[nf h,Int.sign_eq_neg_one_of_neg (by omega)]
 ·rw[h,uN,Int.sub_self];rfl
 rw[nh h,Int.sign_eq_one_of_pos (by omega)]
abbrev OkZ(z:Zr):Prop:=True/\(z.w.length<=9223372036854775807/\∀x∈z.w,x<4294967296)
end
section
open Go.Fw
def qd(q:Qr):Int:=if zi q.den=0 then 1 else zi q.den
def qv(q:Qr):Rat:=Rat.divInt (zi q.num) (qd q)
def qn(r:Rat):Qr:=⟨zn r.num,if r.den=1 then⟨false,[]⟩else zn (r.den:Int)⟩
def FQ(L:Nat)(r:Rat):Prop:=Fit L r.num/\Fit L (r.den:Int)
structure nG (L:Nat) (q:Qr) (r:Rat):Prop where
 n:∀x∈q.num.w,x<4294967296
 d:∀x∈q.den.w,x<4294967296
 ln:q.num.w.length<=L
 ld:q.den.w.length<=L
 l1:1<=L
 v:qv q=r
theorem acy(q:Qr):qd q≠0:=by
 unfold qd;by_cases h:zi q.den=0
 ·rw[if_pos h];decide
 rw[if_neg h];exact h
theorem acz(r:Rat):qv (qn r)=r:=by
 unfold qv qd qn;by_cases h:r.den=1
 ·rw[if_pos h];show Rat.divInt (zi (zn r.num)) (if zi ⟨false,[]⟩=0 then 1 else zi ⟨false,[]⟩)=r;rw[if_pos (show zi ⟨false,[]⟩=0 from rfl),gy];have:=Rat.num_divInt_den r;rw[h]at this;exact this
 rw[if_neg h];show Rat.divInt (zi (zn r.num)) (if zi (zn (r.den:Int))=0 then 1 else zi (zn (r.den:Int)))=r;have:=r.den_nz;rw[gy,gy,if_neg (by omega),Rat.num_divInt_den]
theorem LA{w:List Nat}{n:Bool}{L:Nat}(h:∀x∈w,x<4294967296)(hl:w.length<=L):Fit L (zi ⟨n,w⟩):=by
 unfold Fit;rw[FX];exact Nat.lt_of_lt_of_le (ju w h) (Nat.pow_le_pow_right (by decide) hl)
theorem Bi{L:Nat}(h:1<=L):Fit L 1:=by
 unfold Fit;exact Nat.lt_of_lt_of_le (show(1:Int).natAbs<4294967296^1 by decide) (Nat.pow_le_pow_right (by decide) h)
theorem FQ.rep{L:Nat}{r:Rat}(h:FQ L r)(h1:1<=L):nG L (qn r) r:=by
 refine⟨λx hx=>mc (by decide) hx,?_,(fL (by decide)).2 h.1,?_,h1,acz r⟩
 ·unfold qn;by_cases e:r.den=1
  ·rw[if_pos e];simp
  rw[if_neg e];exact λx hx=>mc (by decide) hx
 unfold qn;by_cases e:r.den=1
 ·rw[if_pos e];simp
 rw[if_neg e];exact(fL (by decide)).2 h.2
theorem nG.wn{L:Nat}{q:Qr}{r:Rat}(h:nG L q r)(hL:L<=10000000000):Wl q.num:=⟨h.n,Nat.le_trans h.ln hL⟩
theorem nG.wd{L:Nat}{q:Qr}{r:Rat}(h:nG L q r)(hL:L<=10000000000):Wl q.den:=⟨h.d,Nat.le_trans h.ld hL⟩
theorem nG.fn{L:Nat}{q:Qr}{r:Rat}(h:nG L q r):Fit L (zi q.num):=LA (n:=q.num.neg) h.n h.ln
theorem nG.fd{L:Nat}{q:Qr}{r:Rat}(h:nG L q r):Fit L (zi q.den):=LA (n:=q.den.neg) h.d h.ld
theorem nG.fqd{L:Nat}{q:Qr}{r:Rat}(h:nG L q r):Fit L (qd q):=by
 unfold qd;by_cases e:zi q.den=0
 ·rw[if_pos e];exact Bi h.l1
 rw[if_neg e];exact h.fd
theorem FQ.mono{L M:Nat}{r:Rat}(h:FQ L r)(hl:L<=M):FQ M r:=⟨h.1.mono hl,h.2.mono hl⟩
theorem qX{L:Nat}{a d:Int}(h0:d≠0)(ha:Fit L a)(hd:Fit L d):FQ L (Rat.divInt a d):=by
 generalize hr:Rat.divInt a d=r;obtain⟨n',d',z',c⟩:=r;obtain⟨m,hm,h1,h2⟩:=Rat.divInt_num_den h0 hr;have hm':0<m.natAbs:=Int.natAbs_pos.2 hm;refine⟨ha.le ?_,hd.le ?_⟩
 ·rw[h1,Int.natAbs_mul];exact Nat.le_mul_of_pos_right _ hm'
 rw[h2,Int.natAbs_mul];exact Nat.le_mul_of_pos_right _ hm'
theorem nG.fq{L:Nat}{q:Qr}{r:Rat}(h:nG L q r):FQ L r:=by rw[<-h.v];exact qX (acy q) h.fn h.fqd
theorem uO(r:Rat):r=Rat.divInt r.num (r.den:Int):=(Rat.num_divInt_den r).symm
theorem qj(r:Rat):(r.den:Int)≠0:=by have:=r.den_nz;omega
theorem FQ.add{L M:Nat}{x y:Rat}(hx:FQ L x)(hy:FQ M y):FQ (L+M+1) (x+y):=by
 have e:x+y=Rat.divInt (x.num*y.den+y.num*x.den) (x.den*y.den):=by
  conv=>lhs;rw[uO x,uO y,Rat.divInt_add_divInt _ _ (qj x) (qj y)]
 rw[e];refine qX (Int.mul_ne_zero (qj x) (qj y)) ?_ ?_
 ·exact(hx.1.mul hy.2).add (by rw[Nat.add_comm L M];exact hy.1.mul hx.2)
 exact(hx.2.mul hy.2).mono (by omega)
theorem FQ.sub{L M:Nat}{x y:Rat}(hx:FQ L x)(hy:FQ M y):FQ (L+M+1) (x-y):=by
 have e:x-y=Rat.divInt (x.num*y.den-y.num*x.den) (x.den*y.den):=by
  conv=>lhs;rw[uO x,uO y,Rat.divInt_sub_divInt _ _ (qj x) (qj y)]
 rw[e];refine qX (Int.mul_ne_zero (qj x) (qj y)) ?_ ?_
 ·exact(hx.1.mul hy.2).sub (by rw[Nat.add_comm L M];exact hy.1.mul hx.2)
 exact(hx.2.mul hy.2).mono (by omega)
theorem FQ.mul{L M:Nat}{x y:Rat}(hx:FQ L x)(hy:FQ M y):FQ (L+M) (x*y):=by
 have e:x*y=Rat.divInt (x.num*y.num) (x.den*y.den):=by
  conv=>lhs;rw[uO x,uO y,Rat.divInt_mul_divInt]
 rw[e];exact qX (Int.mul_ne_zero (qj x) (qj y)) (hx.1.mul hy.1) (hx.2.mul hy.2)
theorem FQ.neg{L:Nat}{x:Rat}(hx:FQ L x):FQ L (-x):=⟨hx.1.neg,hx.2⟩
theorem FQ.inv{L:Nat}{x:Rat}(hx:FQ L x)(h:x≠0):FQ L x⁻¹:=by
 have hn:x.num≠0:=λe=>h (Rat.num_eq_zero.1 e);rw[Rat.inv_def];exact qX hn hx.2 hx.1
theorem FQ.div{L M:Nat}{x y:Rat}(hx:FQ L x)(hy:FQ M y)(h:y≠0):FQ (L+M) (x/y):=by rw[Rat.div_def];exact hx.mul (hy.inv h)
theorem FQ.int{L:Nat}{i:Int}(h:Fit L i)(h1:1<=L):FQ L (i:Rat):=⟨h,Bi h1⟩
def pz(x y:Rat):Int:=if x<y then-1 else if x=y then 0 else 1
theorem MO(x:Rat):pz x x=0:=by unfold pz;rw[if_neg Rat.lt_irrefl,if_pos rfl]
theorem MP{a b c d:Int}(hb:0<b)(hd:0<d):Rat.divInt a b<Rat.divInt c d↔a*d<c*b:=by
 have hb':(0:Rat)<(b:Rat):=Rat.intCast_pos.2 hb;have hd':(0:Rat)<(d:Rat):=Rat.intCast_pos.2 hd;rw[Rat.divInt_eq_div,Rat.divInt_eq_div,Rat.div_lt_iff hb',Rat.div_def,Rat.mul_assoc,Rat.mul_comm (d:Rat)⁻¹,<-Rat.mul_assoc,<-Rat.div_def,Rat.lt_div_iff hd',<-Rat.intCast_mul,<-Rat.intCast_mul,Rat.intCast_lt_intCast]
theorem IE{a b c d:Int}(hb:0<b)(hd:0<d):pz (Rat.divInt a b) (Rat.divInt c d)=qV (a*d) (c*b):=by
 unfold pz qV;have e1:=MP (a:=a) (c:=c) hb hd;have e2:=Rat.divInt_eq_divInt_iff (n₁:=a) (d₁:=b) (n₂:=c) (d₂:=d) (by omega) (by omega);by_cases h1:a*d<c*b
 ·rw[if_pos (e1.2 h1),if_pos h1]
 rw[if_neg (λh=>h1 (e1.1 h)),if_neg h1];by_cases h2:a*d=c*b
 ·rw[if_pos (e2.2 h2),if_pos h2]
 rw[if_neg (λh=>h2 (e2.1 h)),if_neg h2]
theorem ug{a b:Int}(hb:0<b):a.sign=pz (Rat.divInt a b) 0:=by
 have:(0:Rat)=Rat.divInt 0 1:=rfl;rw[this,IE hb (by decide),Int.mul_one,Int.zero_mul,<-Qn,Int.sub_zero]
theorem Eg{a d:Int}(hd:0<d):qn (Rat.divInt a d)=⟨zn (a/(Int.gcd a d:Int)),if d/(Int.gcd a d:Int)=1 then⟨false,[]⟩else zn (d/(Int.gcd a d:Int))⟩:=by
 have h1:(Rat.divInt a d).num=a/(Int.gcd a d:Int):=by rw[Rat.num_divInt,Int.sign_eq_one_of_pos hd,Int.one_mul,Int.gcd_comm]
 have h2:((Rat.divInt a d).den:Int)=d/(Int.gcd a d:Int):=by
  rw[Rat.den_divInt,if_neg (by omega),Int.gcd_comm];have:(d.natAbs:Int)=d:=by omega
  rw[Int.natCast_ediv,this]
 unfold qn;rw[h1,h2];by_cases e:(Rat.divInt a d).den=1
 ·rw[if_pos e,if_pos (by omega)]
 rw[if_neg e,if_neg (by omega)]
theorem SQ(k:Int):((bif(uf k).2 then some (decide ((uf k).1=1))else some false):Option Bool)=some (decide (k=1)):=by
 by_cases h:fT k
 ·rw[je h];rfl
 rw[oV h];have:¬k=1:=by rintro rfl;exact h (by decide)
 rw[decide_eq_false this];rfl
theorem CM{n d:Zr}(hn:Wl n)(hd:Wl d)(h:0<zi d):((lf n d).bind λg=>(fI n g).bind λa=>(fI d g).bind λb=>(dR b.1).bind λc=>
  (bif c.2 then some (decide (c.1=1))else some false).bind λe=>bif e then some (⟨a.1,⟨false,[]⟩⟩:Qr)else some ⟨a.1,b.1⟩)=some (qn (Rat.divInt (zi n) (zi d))):=by
 have g0:(Int.gcd (zi n) (zi d):Int)≠0:=by
  have:0<Int.gcd (zi n) (zi d):=Int.gcd_pos_of_ne_zero_right _ (by omega);omega
 have wg:Wl (zn (Int.gcd (zi n) (zi d):Int)):=kH ((Wl.fit hd).le (by
  have:=Nat.le_of_dvd (Int.natAbs_pos.2 (show zi d≠0 by omega)) (Int.gcd_dvd_natAbs_right (zi n) (zi d));simpa using this)) hd.2
 have wq:Wl (zn (zi d/(Int.gcd (zi n) (zi d):Int))):=kH ((Wl.fit hd).le (Int.natAbs_ediv_le_natAbs _ _)) hd.2;rw[Ye hn hd,cC,divMod_eq hn wg,cC,divMod_eq hd wg,cC,gy,SO,if_neg g0,SO,if_neg g0];simp only[];rw[oU wq,cC,gy,SQ,cC,Eg h];by_cases e:zi d/(Int.gcd (zi n) (zi d):Int)=1
 ·rw[decide_eq_true e,jt,if_pos e]
 rw[decide_eq_false e,jF,if_neg e]
theorem reduce_eq{x y:Zr}(hx:Wl x)(hy:Wl y)(h0:zi y≠0):fB x y=some (qn (Rat.divInt (zi x) (zi y))):=by
 unfold fB;simp only[cK,cC,zeta',sign_eq hy];by_cases h:zi y<0
 ·rw[show decide ((zi y).sign<0)=true by rw[Int.sign_eq_neg_one_of_neg h];rfl,jt,neg_eq hx,cC,neg_eq hy,cC];have hp:=CM (kH (Wl.fit hx).neg hx.2) (kH (Wl.fit hy).neg hy.2) (by rw[gy];omega);rw[gy,gy,Rat.neg_divInt_neg]at hp;exact hp
 rw[show decide ((zi y).sign<0)=false by rw[Int.sign_eq_one_of_pos (by omega)];rfl,jF];exact CM hx hy (by omega)
end
section
open Go.Fw
theorem uh(q:Qr):(⟨⟨q.num.neg,q.num.w⟩,⟨q.den.neg,q.den.w⟩⟩:Qr)=q:=by cases q;rfl
theorem uj(q:Qr):(⟨q.num,q.den⟩:Qr)=q:=by cases q;rfl
theorem parts_eq{L:Nat}{q:Qr}{r:Rat}(h:nG L q r)(hL:L<=10000000000):∃n d:Zr,dj q=some (n,d)/\Wl n/\Wl d/\0<zi d/\Rat.divInt (zi n) (zi d)=r/\Fit L (zi n)/\Fit L (zi d):=by
 have wn:=h.wn hL;have wd:=h.wd hL;have hv:=h.v;unfold dj;simp only[zeta',cC,sign_eq wd,mQ (x:=1) (by decide) (by decide),neg_eq wn,neg_eq wd];unfold qv qd at hv;rcases Int.lt_trichotomy (zi q.den) 0 with h1|h1|h1
 ·refine⟨_,_,?_,kH h.fn.neg hL,kH h.fd.neg hL,by rw[gy];omega,?_,by rw[gy];exact h.fn.neg,by rw[gy];exact h.fd.neg⟩
  ·rw[Int.sign_eq_neg_one_of_neg h1];rfl
  rw[gy,gy,Rat.neg_divInt_neg,<-hv,if_neg (by omega)]
 ·refine⟨_,_,?_,wn,kH (Bi h.l1) hL,by rw[gy];decide,?_,h.fn,by rw[gy];exact Bi h.l1⟩
  ·rw[h1];rfl
  rw[gy,<-hv,if_pos h1]
 refine⟨_,_,?_,wn,wd,h1,?_,h.fn,h.fd⟩
 ·rw[Int.sign_eq_one_of_pos h1];rfl
 rw[<-hv,if_neg (by omega)]
def Sm(a:Int):Prop:=-2147483648<a/\a<2147483648
theorem Sm.ok{a:Int}(h:Sm a):fT a:=by unfold Sm at h;unfold fT;omega
theorem mg{L:Nat}{q:Qr}{r:Rat}(h:nG L q r)(hL:L<=10000000000):∃a b c,dS q=some (a,b,c)/\(c=true->Sm a/\0<b/\Sm b/\Rat.divInt a b=r):=by
 have wn:=h.wn hL;have wd:=h.wd hL;have hv:=h.v;unfold dS;simp only[zeta',cC,cK,oU wn,oU wd];unfold qv qd at hv;generalize zi q.num=n at*;generalize zi q.den=d at*;by_cases hs:Sm n/\Sm d
 ·obtain⟨h1,h2⟩:=hs;rw[je h1.ok,je h2.ok];unfold Sm at h1 h2;simp only[];rw[decide_eq_false (show ¬n<=-2147483648 by omega),decide_eq_false (show ¬2147483648<=n by omega),decide_eq_false (show ¬d<=-2147483648 by omega),decide_eq_false (show ¬2147483648<=d by omega)];simp only[Bool.not_true,jF,cC];by_cases h0:d=0
  ·rw[decide_eq_true h0,jt];refine⟨_,_,_,Y,λ_=>⟨h1,by decide,⟨by decide,by decide⟩,?_⟩⟩;rw[<-hv,if_pos h0]
  rw[decide_eq_false h0,jF];rw[if_neg h0]at hv;by_cases hneg:d<0
  ·rw[decide_eq_true hneg,jt,cQ (by omega) (by omega),cQ (by omega) (by omega)];refine⟨_,_,_,Y,λ_=>⟨⟨by omega,by omega⟩,by omega,⟨by omega,by omega⟩,?_⟩⟩;rw[Int.zero_sub,Int.zero_sub,Rat.neg_divInt_neg,hv]
  rw[decide_eq_false hneg,jF];exact⟨_,_,_,Y,λ_=>⟨h1,by omega,h2,hv⟩⟩
 refine⟨0,0,false,?_,λe=>by cases e⟩;by_cases o1:fT n
 ·by_cases o2:fT d
  ·rw[je o1,je o2];simp only[Bool.not_true,jF,cC];unfold Sm at hs;by_cases c1:n<=-2147483648
   ·rw[decide_eq_true c1];simp only[cC,jt]
   rw[decide_eq_false c1];simp only[cC,jF];by_cases c2:2147483648<=n
   ·rw[decide_eq_true c2];simp only[cC,jt]
   rw[decide_eq_false c2];simp only[cC,jF];by_cases c3:d<=-2147483648
   ·rw[decide_eq_true c3];simp only[cC,jt]
   rw[decide_eq_false c3];simp only[cC,jF];rw[decide_eq_true (show 2147483648<=d by omega)];simp only[jt]
  rw[je o1,oV o2];simp only[Bool.not_true,Bool.not_false,jF,cC,jt]
 rw[oV o1];simp only[Bool.not_false,cC,jt]
theorem IF{a g:Int}(hg:0<g)(h:g∣a):Int.tdiv a g=a/g:=by
 obtain⟨k,rfl⟩:=h;rw[Int.mul_tdiv_cancel_left _ (by omega),Int.mul_ediv_cancel_left _ (by omega)]
theorem qY{n d:Int}(hd:0<d)(hd':d<=9223372036854775807)(hn: -9223372036854775807<=n)(hn':n<=9223372036854775807):fC n d=some (qn (Rat.divInt n d)):=by
 unfold fC;simp only[cC,cK];refine mP (λs=>Int.gcd s.1 s.2=Int.gcd n d/\s.1.natAbs<=9223372036854775807/\s.2.natAbs<=9223372036854775807) (λe=>e.natAbs=Int.gcd n d/\e.natAbs<=9223372036854775807) (λs=>s.2.natAbs) ?_ ⟨Y,by simp only[];omega,by simp only[];omega⟩ ?_
 ·rintro⟨a,b⟩ ⟨i1,i2,i3⟩;simp only at i1 i2 i3⊢;by_cases hb:b=0
  ·right;subst hb;refine⟨a,by simp,?_,i2⟩;rw[<-i1];simp[Int.gcd]
  left;rw[decide_eq_true hb,jt,L0,if_neg hb,cC];have hm:(Int.tmod a b).natAbs=a.natAbs%b.natAbs:=Int.natAbs_tmod a b;have hlt:=Nat.mod_lt a.natAbs (Int.natAbs_pos.2 hb);refine⟨_,Y,⟨?_,i3,by simp only[];omega⟩,by simp only[];omega⟩;simp only[];rw[<-i1,Int.gcd,Int.gcd,hm,Nat.gcd_comm b.natAbs,<-Nat.gcd_rec,Nat.gcd_comm]
 rintro e ⟨he,hle⟩;obtain⟨g,hg⟩:∃g:Int,(Int.gcd n d:Int)=g:=⟨_,Y⟩;have hgp:0<g:=by have:=Int.gcd_pos_of_ne_zero_right n (show d≠0 by omega);omega
 have hgn:g∣n:=hg▸Int.gcd_dvd_left ..;have hgd:g∣d:=hg▸Int.gcd_dvd_right ..;have hK:∀m:Int,m=g->(bif decide (m=d)then(xz n m).bind λjE=>(cm jE).bind λx=>some (⟨⟨x.neg,x.w⟩,⟨false,[]⟩⟩:Qr)else(xz n m).bind λjq=>(cm jq).bind λx=>(xz d m).bind λuG=>(cm uG).bind λy=>some ⟨⟨x.neg,x.w⟩,⟨y.neg,y.w⟩⟩)=some (qn (Rat.divInt n d)):=by
  rintro m rfl;have b1:(n/m).natAbs<=n.natAbs:=Int.natAbs_ediv_le_natAbs _ _;have b2:(d/m).natAbs<=d.natAbs:=Int.natAbs_ediv_le_natAbs _ _;have q1:xz n m=some (n/m):=by
   rw[xz,if_neg (by omega),IF hgp hgn,cQ (by omega) (by omega)]
  have q2:xz d m=some (d/m):=by
   rw[xz,if_neg (by omega),IF hgp hgd,cQ (by omega) (by omega)]
  rw[Eg hd,hg,q1,q2];simp only[cC,mQ (x:=n/m) (by omega) (by omega),mQ (x:=d/m) (by omega) (by omega),zeta'];by_cases e1:m=d
  ·rw[decide_eq_true e1,jt,if_pos (by rw[e1];exact Int.ediv_self (by omega))]
  rw[decide_eq_false e1,jF,if_neg];intro e2;have:=Int.ediv_mul_cancel hgd;rw[e2]at this;omega
 by_cases hneg:e<0
 ·rw[decide_eq_true hneg,jt,cQ (by omega) (by omega)];exact hK _ (by omega)
 rw[decide_eq_false hneg,jF];exact hK _ (by omega)
theorem jn{a b:Int}(ha:Sm a)(hb:Sm b): -4611686018427387904<a*b/\a*b<4611686018427387904:=by
 unfold Sm at ha hb;have h1:(a*b).natAbs=a.natAbs*b.natAbs:=Int.natAbs_mul a b;have h2:a.natAbs*b.natAbs<=2147483647*2147483647:=Nat.mul_le_mul (by omega) (by omega);omega
theorem pW{a b:Int}(ha:0<a)(hb:0<b):0<a*b:=Int.mul_pos ha hb
section ops
variable {L M:Nat}{a b:Qr}{x y:Rat}
theorem nG.add(ha:nG L a x)(hb:nG M b y)(h:L+M<=4000000000):oE a b=some (qn (x+y))/\nG (L+M+1) (qn (x+y)) (x+y):=by
 refine⟨?_,(ha.fq.add hb.fq).rep (by omega)⟩;obtain⟨n1,d1,c1,e1,k1⟩:=mg ha (by omega);obtain⟨n2,d2,c2,e2,k2⟩:=mg hb (by omega);obtain⟨p1,q1,f1,w1,w2,g1,v1,t1,t2⟩:=parts_eq ha (by omega);obtain⟨p2,q2,f2,w3,w4,g2,v2,t3,t4⟩:=parts_eq hb (by omega);have CN:jN a b=some (qn (x+y)):=by
  unfold jN ig;have u1:=kH (t1.mul t4) (by omega);have u2:=kH (t3.mul t2) (by omega);have u3:=kH (t2.mul t4) (by omega);have u4:=kH ((t1.mul t4).add ((t3.mul t2).mono (by omega))) (by omega);simp only[zeta',uh,uj,f1,f2,cC,mul_eq w1 w4,mul_eq w3 w2,add_eq u1 u2,mul_eq w2 w4,gy];rw[reduce_eq u4 u3 (by rw[gy];have:=pW g1 g2;omega),cC,gy,gy,<-v1,<-v2,Rat.divInt_add_divInt _ _ (by omega) (by omega)]
 unfold oE;simp only[zeta',uh,uj,e1,e2,cC,cK,CN];cases c1
 ·rw[jF,cC,jF]
 cases c2
 ·rw[jt,cC,jF]
 obtain⟨s1,s2,s3,s4⟩:=k1 Y;obtain⟨s5,s6,s7,s8⟩:=k2 Y;have m1:=jn s1 s7;have m2:=jn s5 s3;have m3:=jn s3 s7;have m4:=pW s2 s6;rw[jt,cC,jt,cQ (x:=n1*d2) (by omega) (by omega),cQ (x:=n2*d1) (by omega) (by omega),cQ (x:=d1*d2) (by omega) (by omega),cQ (by omega) (by omega),qY m4 (by omega) (by omega) (by omega),cC,<-s4,<-s8,Rat.divInt_add_divInt _ _ (by omega) (by omega)]
theorem nG.sub(ha:nG L a x)(hb:nG M b y)(h:L+M<=4000000000):oF a b=some (qn (x-y))/\nG (L+M+1) (qn (x-y)) (x-y):=by
 refine⟨?_,(ha.fq.sub hb.fq).rep (by omega)⟩;obtain⟨n1,d1,c1,e1,k1⟩:=mg ha (by omega);obtain⟨n2,d2,c2,e2,k2⟩:=mg hb (by omega);obtain⟨p1,q1,f1,w1,w2,g1,v1,t1,t2⟩:=parts_eq ha (by omega);obtain⟨p2,q2,f2,w3,w4,g2,v2,t3,t4⟩:=parts_eq hb (by omega);have CN:jO a b=some (qn (x-y)):=by
  unfold jO ij;have u1:=kH (t1.mul t4) (by omega);have u2:=kH (t3.mul t2) (by omega);have u3:=kH (t2.mul t4) (by omega);have u4:=kH ((t1.mul t4).sub ((t3.mul t2).mono (by omega))) (by omega);simp only[zeta',uh,uj,f1,f2,cC,mul_eq w1 w4,mul_eq w3 w2,sub_eq u1 u2,mul_eq w2 w4,gy];rw[reduce_eq u4 u3 (by rw[gy];have:=pW g1 g2;omega),cC,gy,gy,<-v1,<-v2,Rat.divInt_sub_divInt _ _ (by omega) (by omega)]
 unfold oF;simp only[zeta',uh,uj,e1,e2,cC,cK,CN];cases c1
 ·rw[jF,cC,jF]
 cases c2
 ·rw[jt,cC,jF]
 obtain⟨s1,s2,s3,s4⟩:=k1 Y;obtain⟨s5,s6,s7,s8⟩:=k2 Y;have m1:=jn s1 s7;have m2:=jn s5 s3;have m3:=jn s3 s7;have m4:=pW s2 s6;rw[jt,cC,jt,cQ (x:=n1*d2) (by omega) (by omega),cQ (x:=n2*d1) (by omega) (by omega),cQ (x:=d1*d2) (by omega) (by omega),cQ (by omega) (by omega),qY m4 (by omega) (by omega) (by omega),cC,<-s4,<-s8,Rat.divInt_sub_divInt _ _ (by omega) (by omega)]
theorem nG.mul(ha:nG L a x)(hb:nG M b y)(h:L+M<=4000000000):mI a b=some (qn (x*y))/\nG (L+M) (qn (x*y)) (x*y):=by
 have l1:=ha.l1;refine⟨?_,(ha.fq.mul hb.fq).rep (by omega)⟩;obtain⟨n1,d1,c1,e1,k1⟩:=mg ha (by omega);obtain⟨n2,d2,c2,e2,k2⟩:=mg hb (by omega);obtain⟨p1,q1,f1,w1,w2,g1,v1,t1,t2⟩:=parts_eq ha (by omega);obtain⟨p2,q2,f2,w3,w4,g2,v2,t3,t4⟩:=parts_eq hb (by omega);have CN:jP a b=some (qn (x*y)):=by
  unfold jP ik;have u1:=kH (t1.mul t3) (by omega);have u3:=kH (t2.mul t4) (by omega);simp only[zeta',uh,uj,f1,f2,cC,mul_eq w1 w3,mul_eq w2 w4];rw[reduce_eq u1 u3 (by rw[gy];have:=pW g1 g2;omega),cC,gy,gy,<-v1,<-v2,Rat.divInt_mul_divInt]
 unfold mI;simp only[zeta',uh,uj,e1,e2,cC,cK,CN];cases c1
 ·rw[jF,cC,jF]
 cases c2
 ·rw[jt,cC,jF]
 obtain⟨s1,s2,s3,s4⟩:=k1 Y;obtain⟨s5,s6,s7,s8⟩:=k2 Y;have m1:=jn s1 s5;have m3:=jn s3 s7;have m4:=pW s2 s6;rw[jt,cC,jt,cQ (by omega) (by omega),cQ (x:=d1*d2) (by omega) (by omega),qY m4 (by omega) (by omega) (by omega),cC,<-s4,<-s8,Rat.divInt_mul_divInt]
theorem nG.sign(ha:nG L a x)(h:L<=10000000000):eV a=some (pz x 0):=by
 unfold eV;have wn:=ha.wn h;have wd:=ha.wd h;have hv:=ha.v;simp only[zeta',cC,sign_eq wn,sign_eq wd];unfold qv qd at hv;rcases Int.lt_trichotomy (zi a.den) 0 with h1|h1|h1
 ·rw[Int.sign_eq_neg_one_of_neg h1];rw[if_neg (by omega),<-Rat.neg_divInt_neg]at hv;rw[<-hv,<-ug (by omega),Int.sign_neg];show some (IntKind.i64.wrap (0-(zi a.num).sign))=_;have:(zi a.num).sign=-1\/(zi a.num).sign=0\/(zi a.num).sign=1:=by
   rcases Int.lt_trichotomy (zi a.num) 0 with e|e|e
   ·left;exact Int.sign_eq_neg_one_of_neg e
   ·right;left;rw[e];rfl
   right;right;exact Int.sign_eq_one_of_pos e
  rw[cQ (by omega) (by omega),Int.zero_sub]
 ·rw[if_pos h1]at hv;rw[<-hv,<-ug (by omega),h1];rfl
 rw[if_neg (by omega)]at hv;rw[Int.sign_eq_one_of_pos h1,<-hv,<-ug h1];rfl
theorem lq{x:Rat}:pz x 0=0↔x=0:=by
 unfold pz;by_cases h:x<0
 ·rw[if_pos h];refine⟨λe=>absurd e (by decide),λe=>?_⟩;rw[e]at h;exact absurd h Rat.lt_irrefl
 rw[if_neg h];by_cases h2:x=0
 ·rw[if_pos h2];simp[h2]
 rw[if_neg h2];simp[h2]
theorem nG.div(ha:nG L a x)(hb:nG M b y)(h:L+M<=4000000000)(h0:y≠0):oG a b=some (qn (x/y),0)/\nG (L+M) (qn (x/y)) (x/y):=by
 have l1:=ha.l1;refine⟨?_,(ha.fq.div hb.fq h0).rep (by omega)⟩;obtain⟨n1,d1,c1,e1,k1⟩:=mg ha (by omega);obtain⟨n2,d2,c2,e2,k2⟩:=mg hb (by omega);obtain⟨p1,q1,f1,w1,w2,g1,v1,t1,t2⟩:=parts_eq ha (by omega);obtain⟨p2,q2,f2,w3,w4,g2,v2,t3,t4⟩:=parts_eq hb (by omega);have hdiv:∀a b c d:Int,Rat.divInt a b/Rat.divInt c d=Rat.divInt (a*d) (b*c):=λa b c d=>by rw[Rat.div_def,Rat.inv_divInt,Rat.divInt_mul_divInt]
 have hnz:∀a b:Int,Rat.divInt a b=y->a≠0:=λa b e e'=>h0 (by rw[<-e,e',Rat.zero_divInt]);have CN:iB a b=some (qn (x/y)):=by
  unfold iB iq;have u1:=kH (t1.mul t4) (by omega);have u3:=kH (t2.mul t3) (by omega);simp only[zeta',uh,uj,f1,f2,cC,mul_eq w1 w4,mul_eq w2 w3];rw[reduce_eq u1 u3 (by rw[gy];exact Int.mul_ne_zero (by omega) (hnz _ _ v2)),cC,gy,gy,<-v1,<-v2,hdiv]
 unfold oG;simp only[zeta',uh,uj,hb.sign (by omega),e1,e2,cC,cK,CN];rw[decide_eq_false (λe=>h0 (lq.1 e)),jF];cases c1
 ·rw[jF,cC,jF]
 cases c2
 ·rw[jt,cC,jF]
 obtain⟨s1,s2,s3,s4⟩:=k1 Y;obtain⟨s5,s6,s7,s8⟩:=k2 Y;have hn2:=hnz _ _ s8;have m1:=jn s1 s7;have m3:=jn s3 s5;rw[jt,cC,jt];unfold Sm at s1 s3 s5 s7;by_cases hneg:n2<0
 ·have m4:=pW s2 (show 0< -n2 by omega);have m5:(-n1)*d2=-(n1*d2):=Int.neg_mul _ _;have m6:d1*(-n2)=-(d1*n2):=Int.mul_neg _ _;rw[decide_eq_true hneg,jt,cQ (x:=0-n1) (by omega) (by omega),cQ (x:=0-n2) (by omega) (by omega),Int.zero_sub,Int.zero_sub,cQ (by omega) (by omega),cQ (by omega) (by omega),qY m4 (by omega) (by omega) (by omega),cC,m5,m6,Rat.neg_divInt_neg,<-s4,<-s8,hdiv]
 have m4:=pW s2 (show 0<n2 by omega);rw[decide_eq_false hneg,jF,cQ (by omega) (by omega),cQ (by omega) (by omega),qY m4 (by omega) (by omega) (by omega),cC,<-s4,<-s8,hdiv]
theorem nG.canon(ha:nG L a x)(h:L<=10000000000):cZ a=some (qn x)/\nG L (qn x) x:=by
 refine⟨?_,ha.fq.rep ha.l1⟩;obtain⟨n1,d1,c1,e1,k1⟩:=mg ha (by omega);obtain⟨p1,q1,f1,w1,w2,g1,v1,t1,t2⟩:=parts_eq ha (by omega);unfold cZ;simp only[zeta',uh,uj,e1,cC,f1];cases c1
 ·rw[jF,reduce_eq w1 w2 (by omega),cC,v1]
 obtain⟨s1,s2,s3,s4⟩:=k1 Y;unfold Sm at s1 s3;rw[jt,qY s2 (by omega) (by omega) (by omega),cC,s4]
end ops
end
section
open Go.Fw
theorem Eh{p q u v:Int}(hq:0<q)(hv:0<v)(h:p.sign≠u.sign\/p.sign=0):pM (IntKind.i64.wrap (p.sign-u.sign))=some (qV (p*v) (u*q)):=by
 have pv:0<p->0<p*v:=λh=>Int.mul_pos h hv;have pv':p<0->p*v<0:=λh=>Int.mul_neg_of_neg_of_pos h hv;have uq:0<u->0<u*q:=λh=>Int.mul_pos h hq;have uq':u<0->u*q<0:=λh=>Int.mul_neg_of_neg_of_pos h hq;rcases Int.lt_trichotomy p 0 with e1|e1|e1<;>rcases Int.lt_trichotomy u 0 with e2|e2|e2
 ·rw[Int.sign_eq_neg_one_of_neg e1,Int.sign_eq_neg_one_of_neg e2]at h;simp at h
 ·have:=pv' e1;rw[Int.sign_eq_neg_one_of_neg e1,e2,Int.zero_mul,nf this];rfl
 ·have:=pv' e1;have:=uq e2;rw[Int.sign_eq_neg_one_of_neg e1,Int.sign_eq_one_of_pos e2,nf (by omega)];rfl
 ·have:=uq' e2;rw[Int.sign_eq_neg_one_of_neg e2,e1,Int.zero_mul,nh this];rfl
 ·rw[e1,e2,Int.zero_mul,Int.zero_mul];rfl
 ·have:=uq e2;rw[Int.sign_eq_one_of_pos e2,e1,Int.zero_mul,nf this];rfl
 ·have:=pv e1;have:=uq' e2;rw[Int.sign_eq_one_of_pos e1,Int.sign_eq_neg_one_of_neg e2,nh (by omega)];rfl
 ·have:=pv e1;rw[Int.sign_eq_one_of_pos e1,e2,Int.zero_mul,nh this];rfl
 rw[Int.sign_eq_one_of_pos e1,Int.sign_eq_one_of_pos e2]at h;simp at h
theorem Qo{x y:Rat}:pz x y=0↔x=y:=by
 unfold pz;by_cases h:x<y
 ·rw[if_pos h];refine⟨λe=>absurd e (by decide),λe=>?_⟩;rw[e]at h;exact absurd h Rat.lt_irrefl
 rw[if_neg h];by_cases h2:x=y
 ·rw[if_pos h2];simp[h2]
 rw[if_neg h2];simp[h2]
theorem IG{x y:Rat}:pz x y<0↔x<y:=by
 unfold pz;by_cases h:x<y
 ·rw[if_pos h];simp[h]
 rw[if_neg h];by_cases h2:x=y
 ·rw[if_pos h2];simp[h2,Rat.lt_irrefl]
 rw[if_neg h2];simp[h]
theorem Yf(i:Int):qn (i:Rat)=⟨zn i,⟨false,[]⟩⟩:=by
 unfold qn;rw[Rat.den_intCast,if_pos Y,Rat.num_intCast]
section ops
variable {L M:Nat}{a b:Qr}{x y:Rat}
theorem nG.neg(ha:nG L a x)(h:L<=10000000000):mJ a=some (qn (-x))/\nG L (qn (-x)) (-x):=by
 refine⟨?_,ha.fq.neg.rep ha.l1⟩;unfold mJ;have r:=(ha.canon h).2;simp only[zeta',uh,uj,(ha.canon h).1,cC,neg_eq (r.wn h)];show some (⟨zn (-zi (zn x.num)),_⟩:Qr)=some (qn (-x));rw[gy];rfl
theorem nG.cmp(ha:nG L a x)(hb:nG M b y)(h:L+M<=4000000000):oH a b=some (pz x y):=by
 obtain⟨p1,q1,f1,w1,w2,g1,v1,t1,t2⟩:=parts_eq ha (by omega);obtain⟨p2,q2,f2,w3,w4,g2,v2,t3,t4⟩:=parts_eq hb (by omega);unfold oH;have u1:=kH (t1.mul t4) (by omega);have u2:=kH (t3.mul t2) (by omega);simp only[zeta',uh,uj,f1,f2,cC,cK,sign_eq w1,sign_eq w3,mul_eq w1 w4,mul_eq w3 w2,Yb u1 u2,gy];rw[<-v1,<-v2,IE g1 g2];by_cases e1:(zi p1).sign=(zi p2).sign
 ·rw[show decide ((zi p1).sign≠(zi p2).sign)=false by simp[e1],jF,cC];by_cases e2:(zi p1).sign=0
  ·rw[decide_eq_true e2,jt,Eh g1 g2 (.inr e2),cC]
  rw[decide_eq_false e2,jF]
 rw[show decide ((zi p1).sign≠(zi p2).sign)=true by simp[e1],jt,cC,jt,Eh g1 g2 (.inl e1),cC]
theorem oe{n:Int}(hn:fT n):cY n=some (qn (n:Rat))/\nG 2 (qn (n:Rat)) (n:Rat):=by
 refine⟨?_,(FQ.int (MN hn) (by decide)).rep (by decide)⟩;unfold cY;simp only[zeta',cC,mQ hn.1 hn.2];rw[Yf]
end ops
end
section
open Go.Fw
def vq(n:Nat)(h:Nat->Rat):List Qr:=(List.range n).map λi=>qn (h i)
structure fM (L:Nat) (v:List Qr) (f:Nat->Rat):Prop where
 e:∀i (h:i<v.length),nG L v[i] (f i)
 z:∀i,v.length<=i->f i=0
 l1:1<=L
theorem cM(n:Nat)(h:Nat->Rat):(vq n h).length=n:=by simp[vq]
theorem k7{n i:Nat}{h:Nat->Rat}(hi:i<n):(vq n h)[i]? =some (qn (h i)):=by simp[vq,hi]
theorem SR{n i:Nat}{h:Nat->Rat}(hi:i<(vq n h).length):(vq n h)[i]=qn (h i):=by simp[vq]
theorem Bj(n:Nat)(h:Nat->Rat):vq (n+1) h=vq n h++[qn (h n)]:=by simp[vq,List.range_succ]
theorem gU{n:Nat}{h k:Nat->Rat}(e:∀i,i<n->h i=k i):vq n h=vq n k:=by
 unfold vq;apply List.map_congr_left;intro i hi;rw[e i (List.mem_range.1 hi)]
theorem oW{L n:Nat}{h:Nat->Rat}(hf:∀i,i<n->FQ L (h i))(hz:∀i,n<=i->h i=0)(h1:1<=L):fM L (vq n h) h:=by
 refine⟨λi hi=>?_,λi hi=>hz i (by rwa[cM]at hi),h1⟩;rw[SR hi];exact(hf i (by rwa[cM]at hi)).rep h1
def qz:Qr:=⟨⟨false,[]⟩,⟨false,[]⟩⟩
theorem SS:qn 0=qz:=rfl
theorem II{L:Nat}(h:1<=L):nG L qz 0:=⟨by simp[qz],by simp[qz],by simp[qz],by simp[qz],h,by decide⟩
theorem uP{L:Nat}(h:1<=L):FQ L 0:=(II h).fq
def Y1(v:List Qr)(i:Nat):Qr:=v.getD i qz
theorem fM.at{L:Nat}{v:List Qr}{f:Nat->Rat}(h:fM L v f)(i:Nat):nG L (Y1 v i) (f i):=by
 unfold Y1;by_cases hi:i<v.length
 ·rw[List.getD_eq_getElem?_getD,List.getElem?_eq_getElem hi];exact h.e i hi
 rw[List.getD_eq_getElem?_getD,List.getElem?_eq_none (by omega),h.z i (by omega)];exact II h.l1
theorem fM.fq{L:Nat}{v:List Qr}{f:Nat->Rat}(h:fM L v f)(i:Nat):FQ L (f i):=(h.at i).fq
theorem fM.nil{L:Nat}(h:1<=L):fM L [] (λ_=>0):=⟨λi hi=>by simp at hi,λ_ _=>Y,h⟩
theorem fM.get{L:Nat}{v:List Qr}{f:Nat->Rat}(h:fM L v f){i:Nat}(hi:i<v.length):∃q,v[i]? =some q/\nG L q (f i):=⟨v[i],by simp,h.e i hi⟩
theorem fM.congr{L:Nat}{v:List Qr}{f g:Nat->Rat}(h:fM L v f)(e:∀i,f i=g i):fM L v g:=by
 have:f=g:=funext e;rw[<-this];exact h
def FZ(v:List Qr)(i:Nat):Rat:=qv (Y1 v i)
theorem LB{L:Nat}{v:List Qr}(h:∀q∈v,nG L q (qv q))(h1:1<=L):fM L v (FZ v):=by
 refine⟨λi hi=>?_,λi hi=>?_,h1⟩
 ·have e:Y1 v i=v[i]:=by unfold Y1;rw[List.getD_eq_getElem?_getD,List.getElem?_eq_getElem hi];rfl
  unfold FZ;rw[e];exact h _ (List.getElem_mem hi)
 unfold FZ Y1;rw[List.getD_eq_getElem?_getD,List.getElem?_eq_none hi];decide
def dJ(h:Nat->Rat):Nat->Rat
 |0=>0
 |n+1=>dJ h n+h n
theorem eM{h k:Nat->Rat}:∀{n:Nat},(∀i,i<n->h i=k i)->dJ h n=dJ k n
 |0,_=>rfl
 |n+1,e=>by rw[dJ,dJ,eM (λi hi=>e i (by omega)),e n (by omega)]
theorem CO(h k:Nat->Rat):∀n,dJ (λi=>h i+k i) n=dJ h n+dJ k n
 |0=>by simp only[dJ];grind
 |n+1=>by rw[dJ,dJ,dJ,CO h k n];grind
theorem CP(h k:Nat->Rat):∀n,dJ (λi=>h i-k i) n=dJ h n-dJ k n
 |0=>by simp only[dJ];grind
 |n+1=>by rw[dJ,dJ,dJ,CP h k n];grind
theorem um(c:Rat)(h:Nat->Rat):∀n,dJ (λi=>c*h i) n=c*dJ h n
 |0=>by simp[dJ]
 |n+1=>by rw[dJ,dJ,um c h n];grind
theorem mR:∀n,dJ (λ_=>0) n=0
 |0=>rfl
 |n+1=>by rw[dJ,mR n];grind
theorem lu{h:Nat->Rat}{n k:Nat}(hk:k<n)(hz:∀i,i<n->i≠k->h i=0):dJ h n=h k:=by
 induction n with
 |zero=>omega
 |succ n ih=>
  rw[dJ];rcases Nat.lt_or_ge k n with q|q
  ·rw[ih q (λi h1 h2=>hz i (by omega) h2),hz n (by omega) (by omega)];grind
  obtain rfl:k=n:=by omega
  rw[eM (k:=λ_=>0) (λi hi=>hz i (by omega) (by omega)),mR];grind
end
section
open Go.Fw
theorem LC{α β:Type}(a:List α)(b:List β):max (a.length:Int) (b.length:Int)=((max a.length b.length:Nat):Int):=by omega
theorem SU{α β:Type}(a:List α)(b:List β):min (a.length:Int) (b.length:Int)=((min a.length b.length:Nat):Int):=by omega
theorem fM.gd{L:Nat}{v:List Qr}{f:Nat->Rat}(h:fM L v f)(k:Nat):nG L (v.getD k (⟨⟨false,[]⟩,⟨false,[]⟩⟩:Qr)) (f k):=h.at k
theorem F1{n k:Nat}{h:Nat->Rat}(hk:k<n):(vq k h++List.replicate (n-k) qz).set k (qn (h k))=vq (k+1) h++List.replicate (n-(k+1)) qz:=by
 rw[show n-k=(n-(k+1))+1 by omega,List.replicate_succ,List.set_append_right _ _ (by rw[cM];exact Nat.le_refl _),cM,Nat.sub_self,Bj,List.append_assoc];rfl
theorem Yg{n c:Nat}{h:Nat->Rat}(hc:c<=n)(hz:∀i,c<=i->i<n->h i=0):vq c h++List.replicate (n-c) qz=vq n h:=by
 induction n with
 |zero=>rw[show c=0 by omega];rfl
 |succ n ih=>
  rcases Nat.lt_or_ge n c with q|q
  ·rw[show c=n+1 by omega,Nat.sub_self];simp
  rw[show n+1-c=(n-c)+1 by omega,List.replicate_succ',<-List.append_assoc,ih q (λi h1 h2=>hz i h1 (by omega)),Bj,hz n q (by omega),SS]
theorem rV{n k:Nat}{h:Nat->Rat}(hk:k<=n):(vq k h++List.replicate (n-k) qz).length=n:=by rw[List.length_append,cM,List.length_replicate];omega
section ops
variable {K L M:Nat}{c:Qr}{a b:List Qr}{k:Rat}{f g:Nat->Rat}
theorem ajs(ha:fM L a f)(hb:fM M b g)(h:L+M<=4000000000)(la:a.length<=1000000)(lb:b.length<=1000000):qK a b=some (vq (max a.length b.length) λi=>f i-g i)/\fM (L+M+1) (vq (max a.length b.length) λi=>f i-g i) (λi=>f i-g i):=by
 refine⟨?_,oW (λi _=>(ha.fq i).sub (hb.fq i)) (λi hi=>?_) (by omega)⟩
 ·unfold qK mY;refine aA (a:=vq (max a.length b.length) (λi=>f i-g i)) ?_ Y;refine aA Y<|aA Y<|aA (congrArg some (LC a b))<|aA (CH (by omega) (by omega)) ?_;refine rR (λk=>vq k (λi=>f i-g i)) Y (λk hk=>?_) Y;have e3:=((ha.gd k).sub (hb.gd k) h).1;generalize a.getD k (⟨⟨false,[]⟩,⟨false,[]⟩⟩:Qr)=q1 at e3⊢;generalize b.getD k (⟨⟨false,[]⟩,⟨false,[]⟩⟩:Qr)=q2 at e3⊢;obtain⟨⟨_,_⟩,⟨_,_⟩⟩:=q1;obtain⟨⟨_,_⟩,⟨_,_⟩⟩:=q2;obtain⟨q3,h3⟩:∃q,qn (f k-g k)=q:=⟨_,Y⟩;rw[Bj,h3];rw[h3]at e3;obtain⟨⟨_,_⟩,⟨_,_⟩⟩:=q3;refine aA Y<|aA Y<|aA e3<|aA (CG (by omega) (by rw[cM];omega)) Y
 rw[ha.z i (by omega),hb.z i (by omega)];grind
theorem U1(hc:nG K c k)(ha:fM L a f)(hb:fM M b g)(h:K+L+M<=4000000000)(la:a.length<=1000000)(lb:b.length<=1000000):fV c a b=some (vq (max a.length b.length) λi=>k*f i+g i)/\fM (K+L+M+1) (vq (max a.length b.length) λi=>k*f i+g i) (λi=>k*f i+g i):=by
 refine⟨?_,oW (λi _=>(hc.fq.mul (ha.fq i)).add (hb.fq i)) (λi hi=>?_) (by omega)⟩
 ·unfold fV jY;obtain⟨⟨_,_⟩,⟨_,_⟩⟩:=c;refine aA (a:=vq (max a.length b.length) (λi=>k*f i+g i)) ?_ Y;refine aA Y<|aA Y<|aA (congrArg some (LC a b))<|aA (CH (by omega) (by omega)) ?_;refine rR (λj=>vq j (λi=>k*f i+g i)) Y (λj hj=>?_) Y;have e1:=hc.mul (ha.gd j) (by omega);have e3:=(e1.2.add (hb.gd j) (by omega)).1;replace e1:=e1.1;generalize a.getD j (⟨⟨false,[]⟩,⟨false,[]⟩⟩:Qr)=q1 at e1⊢;generalize b.getD j (⟨⟨false,[]⟩,⟨false,[]⟩⟩:Qr)=q2 at e3⊢;obtain⟨⟨_,_⟩,⟨_,_⟩⟩:=q1;obtain⟨⟨_,_⟩,⟨_,_⟩⟩:=q2;generalize qn (k*f j)=q4 at e1 e3;obtain⟨⟨_,_⟩,⟨_,_⟩⟩:=q4;obtain⟨q3,h3⟩:∃q,qn (k*f j+g j)=q:=⟨_,Y⟩;rw[Bj,h3];rw[h3]at e3;obtain⟨⟨_,_⟩,⟨_,_⟩⟩:=q3;refine aA Y<|aA Y<|aA (aA e1<|aA e3 Y)<|aA (CG (by omega) (by rw[cM];omega)) Y
 rw[ha.z i (by omega),hb.z i (by omega)];grind
theorem Yh(hc:nG K c k)(ha:fM L a f)(h:K+L<=4000000000)(la:a.length<=1000000):lj c a=some (vq a.length λi=>k*f i)/\fM (K+L) (vq a.length λi=>k*f i) (λi=>k*f i):=by
 have Vg:=ha.l1;refine⟨?_,oW (λi _=>hc.fq.mul (ha.fq i)) (λi hi=>?_) (by omega)⟩
 ·unfold lj;obtain⟨⟨_,_⟩,⟨_,_⟩⟩:=c;refine aA Y<|aA (oR (by omega) (by omega))<|aA Y ?_;refine bP (λj=>((j:Int),vq j (λi=>k*f i)++List.replicate (a.length-j) qz)) a.length (vq a.length λi=>k*f i) Y (λj hj=>?_) ?_ Y
  ·obtain⟨q,hq,rq⟩:=ha.get hj;have e3:=(hc.mul rq h).1;obtain⟨q3,h3⟩:∃q,qn (k*f j)=q:=⟨_,Y⟩;have h4:=F1 (h:=λi=>k*f i) hj;rw[h3]at e3 h4;obtain⟨⟨_,_⟩,⟨_,_⟩⟩:=q;obtain⟨⟨_,_⟩,⟨_,_⟩⟩:=q3;refine aA Y<|bN (decide_eq_true (by omega))<|aA (bK hq)<|aA e3<|aA (bR (by rw[rV (by omega)];exact hj))<|aA (eD (by rw[rV (by omega)];exact hj))<|aA Y ?_;rw[bQ (by omega),h4]
  refine aA Y<|bt (decide_eq_false (by omega)) ?_;simp
 rw[ha.z i hi];grind
end ops
end
section
open Go.Fw
def oX(f g:Nat->Rat):Nat->Int
 |0=>0
 |n+1=>if oX f g n≠0 then oX f g n else pz (f n) (g n)
theorem CQ{f g:Nat->Rat}:∀{n:Nat},oX f g n=0↔∀i,i<n->f i=g i
 |0=>by simp[oX]
 |n+1=>by
  rw[oX];by_cases h:oX f g n=0
  ·rw[if_neg (by simpa using h),Qo];have:=CQ.1 h;refine⟨λe i hi=>?_,λe=>e n (by omega)⟩;rcases Nat.lt_or_ge i n with q|q
   ·exact this i q
   obtain rfl:i=n:=by omega
   exact e
  rw[if_pos h];refine⟨λe=>absurd e h,λe=>absurd (CQ.2 (λi hi=>e i (by omega))) h⟩
section ops
variable {K L M:Nat}{c:Qr}{a b:List Qr}{k:Rat}{f g:Nat->Rat}
theorem yB(q:Qr):(⟨⟨(q.num.neg,q.num.w,q.den.neg,q.den.w).1,(q.num.neg,q.num.w,q.den.neg,q.den.w).2.1⟩,⟨(q.num.neg,q.num.w,q.den.neg,q.den.w).2.2.1,(q.num.neg,q.num.w,q.den.neg,q.den.w).2.2.2⟩⟩:Qr)=q:=by cases q;rfl
theorem acA(ha:fM L a f)(hb:fM M b g)(h:L+M<=4000000000):ji a b=some (oX f g (max a.length b.length)):=by
 unfold ji;generalize max a.length b.length=n;refine aA (a:=if oX f g n≠0 then .inr (oX f g n)else .inl ()) ?_ ?_
 ·induction n with
  |zero=>rfl
  |succ n ih=>
   rw[nK];refine aA ih ?_;by_cases h0:oX f g n=0
   ·have hl:oX f g (n+1)=pz (f n) (g n):=by rw[oX,if_neg (by simpa using h0)]
    rw[hl,if_neg (show ¬oX f g n≠0 by simpa using h0)];have e1:=(ha.gd n).cmp (hb.gd n) h;generalize a.getD n (⟨⟨false,[]⟩,⟨false,[]⟩⟩:Qr)=q1 at e1⊢;generalize b.getD n (⟨⟨false,[]⟩,⟨false,[]⟩⟩:Qr)=q2 at e1⊢;obtain⟨⟨_,_⟩,⟨_,_⟩⟩:=q1;obtain⟨⟨_,_⟩,⟨_,_⟩⟩:=q2;refine aA Y<|aA Y<|aA e1<|aA Y ?_;by_cases h1:pz (f n) (g n)=0
    ·rw[if_neg (by simpa using h1)];exact bt (decide_eq_false (by simpa using h1)) Y
    rw[if_pos h1];exact bN (decide_eq_true h1) Y
   have hl:oX f g (n+1)=oX f g n:=by rw[oX,if_pos h0]
   rw[hl,if_pos h0]
 by_cases h0:oX f g n=0
 ·rw[if_neg (by simpa using h0),h0]
 rw[if_pos h0]
theorem acB(ha:fM L a f)(h:L+1<=4000000000):oI a=some (oX f (λ_=>0) a.length):=by
 unfold oI;refine aA (acA ha (fM.nil (L:=1) (by omega)) h) ?_;simp
theorem veq(ha:fM L a f)(hb:fM M b g)(h:L+M<=4000000000):dA a b=some (decide (∀i,i<max a.length b.length->f i=g i)):=by
 unfold dA;refine aA (acA ha hb h)<|aA Y ?_;congr 1;rw[decide_eq_decide];exact CQ
theorem acC(ha:fM L a f)(hb:fM M b g)(h:L+M<=4000000000)(e:∀i,f i=g i):dA a b=some true:=by
 rw[veq ha hb h,decide_eq_true (λi _=>e i)]
end ops
end
section
open Go.Fw
theorem tm{a:Nat}:Int.tmod (a:Int) 65536=((a%65536:Nat):Int):=by
 rw[Int.tmod_eq_emod_of_nonneg (by omega)];omega
end
section
open Go.Fw
theorem bO{J R:Type}{f:J->Option R}{g:(J->Option R)->Option R}{r:Option R}(h:g f=r):cK f g=r:=h
section ops
variable {K L M:Nat}{c:Qr}{a b:List Qr}{k:Rat}{f g:Nat->Rat}
theorem IJ(ha:fM L a f)(h:L<=10000000000)(m:Nat)(hm:m<=65536){body:Int×List Qr->Option ((Int×List Qr)⊕List Qr)}
  (hb:∀s,body s=(some (decide (s.1<((min a.length m:Nat):Int)))).bind λgX=>(bif gX then(cU a s.1).bind λq=>(cZ q).bind λw=>(ko s.2 s.1).bind λnn=>(stM s.2 nn w).bind λAq=>(some (IntKind.i64.wrap (s.1+1))).bind λoY=>some (.inl (oY,Aq))else some (.inr s.2))):
  (cy body (0,List.replicate m qz)).bind (λr=>some r)=some (vq m f):=by
 refine bP (λj=>((j:Int),vq j f++List.replicate (m-j) qz)) (min a.length m) (vq m f) Y (λj hj=>?_) ?_ Y
 ·obtain⟨q,hq,rq⟩:=ha.get (show j<a.length by omega);rw[hb];refine aA Y<|bN (decide_eq_true (by show(j:Int)<_;omega))<|aA (bK hq)<|aA (rq.canon h).1<|aA (bR (by rw[rV (by omega)];omega))<|aA (eD (by rw[rV (by omega)];omega))<|aA Y ?_;rw[F1 (by omega),bQ (by omega)]
 rw[hb];refine aA Y<|bt (decide_eq_false (by show ¬((min a.length m:Nat):Int)<_;omega)) ?_;rw[Yg (by omega) (λi h1 h2=>ha.z i (by omega))]
theorem F2(ha:fM L a f)(h:L<=10000000000)(la:a.length<=1000000)(n:Int):gP a n=some (vq (min n 65536).toNat f):=by
 unfold gP;refine aA Y ?_;by_cases hn:n<1
 ·refine bN (decide_eq_true hn) ?_;rw[show(min n 65536).toNat=0 by omega];rfl
 refine bt (decide_eq_false hn) ?_;obtain⟨m,hm⟩:∃m:Nat,min n 65536=(m:Int):=⟨(min n 65536).toNat,by omega⟩;rw[hm];refine aA Y<|aA (oR (by omega) (by omega))<|aA Y<|aA Y<|aA (congrArg some (SU a _)) ?_;rw[List.length_replicate];refine IJ ha h m (by omega) (λs=>?_);obtain⟨i,l⟩:=s;rfl
theorem yt{l:List Int}(hl:∀x∈l,fT x)(h:l.length<=1000000):c6 l=some (vq l.length λi=>((l.getD i 0:Int):Rat))/\fM 2 (vq l.length λi=>((l.getD i 0:Int):Rat)) (λi=>((l.getD i 0:Int):Rat)):=by
 have hx:∀i,fT (l.getD i 0):=λi=>by
  by_cases hi:i<l.length
  ·rw[List.getD_eq_getElem?_getD,List.getElem?_eq_getElem hi];exact hl _ (List.getElem_mem hi)
  rw[List.getD_eq_getElem?_getD,List.getElem?_eq_none (by omega)];decide
 refine⟨?_,oW (λi _=>(oe (hx i)).2.fq) (λi hi=>?_) (by decide)⟩
 ·unfold c6;refine aA Y<|aA (oR (by omega) (by omega))<|aA Y ?_;refine bP (λj=>((j:Int),vq j (λi=>((l.getD i 0:Int):Rat))++List.replicate (l.length-j) qz)) l.length (vq l.length λi=>((l.getD i 0:Int):Rat)) Y (λj hj=>?_) ?_ Y
  ·have e3:=(oe (hx j)).1;have h4:=F1 (h:=λi=>((l.getD i 0:Int):Rat)) hj;obtain⟨q3,h3⟩:∃q,qn ((l.getD j 0:Int):Rat)=q:=⟨_,Y⟩;rw[h3]at e3 h4;obtain⟨⟨_,_⟩,⟨_,_⟩⟩:=q3;refine aA Y<|bN (decide_eq_true (by omega))<|aA (bK (jh hj))<|aA e3<|aA (bR (by rw[rV (by omega)];exact hj))<|aA (eD (by rw[rV (by omega)];exact hj))<|aA Y ?_;rw[bQ (by omega),h4]
  refine aA Y<|bt (decide_eq_false (by omega)) ?_;simp
 show((l.getD i 0:Int):Rat)=0;rw[iH hi];rfl
end ops
end
section
open Go.Fw
theorem Qp(l:List Qr)(hl:l.length<=1000000):∃b,lW l=some b/\(b=false->∀q∈l,q.num.w.length<=6/\q.den.w.length<=6):=by
 unfold lW;simp only[cC];refine l7 (λy=>∃i:Nat,y=(i:Int)/\i<=l.length/\∀z∈l.take i,z.num.w.length<=6/\z.den.w.length<=6) (λe=>(∃c,e=.inl c/\∀z∈l,z.num.w.length<=6/\z.den.w.length<=6)\/e=.inr true) (λy=>l.length-y.toNat) ?_ ⟨0,Y,by omega,by simp⟩ ?_
 ·rintro _ ⟨i,rfl,hi,ht⟩;by_cases hlt:i<l.length
  ·have g:l[i]? =some l[i]:=by simp
   obtain⟨q,hq⟩:∃q,l[i]=q:=⟨_,Y⟩;rw[hq]at g;obtain⟨z,w⟩:=q;obtain⟨b,hb,-⟩:=SP [z,w] (by simp);rw[show decide ((i:Int)<(l.length:Int))=true by simp[hlt],jt];simp only[bK g,cC,zeta',cK,hb];cases b
   ·rw[jF,cC];by_cases h1:6<z.w.length
    ·right;rw[decide_eq_true (by omega),jt,cC,jt];exact⟨_,Y,.inr Y⟩
    rw[decide_eq_false (by omega),jF,cC];by_cases h2:6<w.w.length
    ·right;rw[decide_eq_true (by omega),jt];exact⟨_,Y,.inr Y⟩
    left;rw[decide_eq_false (by omega),jF,bQ (by omega)];refine⟨_,Y,⟨i+1,Y,hlt,?_⟩,by omega⟩;rw[List.take_add_one,g];intro u hu;rcases List.mem_append.1 hu with h|h
    ·exact ht u h
    simp at h;rw[h];exact⟨by simp only[];omega,by simp only[];omega⟩
   right;exact⟨_,Y,.inr Y⟩
  right;rw[show decide ((i:Int)<(l.length:Int))=false by simp;omega,jF];rw[List.take_of_length_le (by omega)]at ht;exact⟨_,Y,.inl ⟨_,Y,ht⟩⟩
 rintro e (⟨c,rfl,he⟩|rfl)
 ·exact⟨false,Y,λ_=>he⟩
 exact⟨true,rfl,λh=>by cases h⟩
abbrev OkQ(q:Qr):Prop:=OkZ q.num/\OkZ q.den
theorem Qq{q:Qr}{L:Nat}(h:OkQ q)(h1:q.num.w.length<=L)(h2:q.den.w.length<=L)(hL:1<=L):nG L q (qv q):=⟨h.1.2.2,h.2.2.2,h1,h2,hL,Y⟩
end
section
open Go.Fw
theorem dT{p:Prop}[Decidable p](h:p):(some (decide p):Option Bool)=some true:=congrArg some (decide_eq_true h)
theorem dF{p:Prop}[Decidable p](h:¬p):(some (decide p):Option Bool)=some false:=congrArg some (decide_eq_false h)
theorem Qs{β:Type}{x:Option Bool}{f:Bool->Option β}{r:Option β}{y:Option Bool}(h:x=some true)(hf:f true=r):(bif true then x else y).bind f=r:=by rw[jt,h];exact hf
theorem CY{β:Type}{b c:Bool}{x:Option Bool}{f:Bool->Option β}{r:Option β}(h:b=false->x=some c)(hf:f (b||c)=r):(bif b then some true else x).bind f=r:=by
 cases b
 ·rw[jF,h rfl];exact hf
 rw[jt];exact hf
theorem Qt{β:Type}{b c:Bool}{x:Option Bool}{f:Bool->Option β}{r:Option β}(h:b=true->x=some c)(hf:f (b&&c)=r):(bif b then x else some false).bind f=r:=by
 cases b
 ·rw[jF];exact hf
 rw[jt,h rfl];exact hf
section ops
variable {K L M:Nat}{a b c:Qr}{x y z:Rat}
end ops
theorem fM.val{L:Nat}{v:List Qr}{f:Nat->Rat}(h:fM L v f)(i:Nat):f i=FZ v i:=(h.at i).v.symm
abbrev OkV(v:List Qr):Prop:=v.length<=9223372036854775807/\∀q∈v,OkQ q
end
section
open Go.Fw
def uo{α:Type}(f:Nat->α)(n k:Nat)(z:α):List α:=(List.range k).map f++List.replicate (n-k) z
theorem MQ{α:Type}{f:Nat->α}{n k:Nat}{z:α}(hk:k<=n):(uo f n k z).length=n:=by simp[uo];omega
theorem Kr{α:Type}{f:Nat->α}{n:Nat}{z:α}:uo f n 0 z=List.replicate n z:=by simp[uo]
theorem MR{α:Type}{f:Nat->α}{n:Nat}{z:α}:uo f n n z=(List.range n).map f:=by simp[uo]
theorem MS{α:Type}{f:Nat->α}{n k:Nat}{z:α}(hk:k<n):(uo f n k z).set k (f k)=uo f n (k+1) z:=by
 unfold uo;rw[show n-k=(n-(k+1))+1 by omega,List.replicate_succ,List.set_append_right _ _ (by simp),List.length_map,List.length_range,Nat.sub_self,List.range_succ,List.map_append,List.append_assoc];rfl
def mq(n:Nat)(ln:Nat->Nat)(F:Nat->Nat->Rat):List (List Qr):=(List.range n).map λi=>vq (ln i) (F i)
theorem dI(n:Nat)(ln:Nat->Nat)(F:Nat->Nat->Rat):(mq n ln F).length=n:=by simp[mq]
theorem ia{n i:Nat}{ln:Nat->Nat}{F:Nat->Nat->Rat}(hi:i<n):(mq n ln F)[i]? =some (vq (ln i) (F i)):=by simp[mq,hi]
theorem mh{n:Nat}{ln ln':Nat->Nat}{F G:Nat->Nat->Rat}(h:∀i,i<n->ln i=ln' i/\∀k,k<ln i->F i k=G i k):mq n ln F=mq n ln' G:=by
 unfold mq;apply List.map_congr_left;intro i hi;obtain⟨h1,h2⟩:=h i (List.mem_range.1 hi);rw[gU h2,h1]
structure qZ (L:Nat) (m:List (List Qr)) (F:Nat->Nat->Rat):Prop where
 e:∀i v,m[i]? =some v->fM L v (F i)
 z:∀i,m.length<=i->∀k,F i k=0
 l1:1<=L
theorem qZ.row{L:Nat}{m:List (List Qr)}{F:Nat->Nat->Rat}(h:qZ L m F)(i:Nat):fM L (m.getD i []) (F i):=by
 by_cases hi:i<m.length
 ·rw[List.getD_eq_getElem?_getD,List.getElem?_eq_getElem hi];exact h.e i _ (List.getElem?_eq_getElem hi)
 rw[List.getD_eq_getElem?_getD,List.getElem?_eq_none (by omega)];exact(fM.nil h.l1).congr (λk=>(h.z i (by omega) k).symm)
theorem Qu{L n:Nat}{ln:Nat->Nat}{F:Nat->Nat->Rat}(hf:∀i,i<n->∀k,k<ln i->FQ L (F i k))(hz:∀i,i<n->∀k,ln i<=k->F i k=0)(YC:∀i,n<=i->∀k,F i k=0)(h1:1<=L):qZ L (mq n ln F) F:=by
 refine⟨λi v e=>?_,λi hi=>YC i (by rwa[dI]at hi),h1⟩;have hi:i<n:=by have:=(List.getElem?_eq_some_iff.1 e).1;rwa[dI]at this
 rw[ia hi]at e;cases e;exact oW (hf i hi) (hz i hi) h1
def Ks(m:List (List Qr))(i:Nat):Nat->Rat:=FZ (m.getD i [])
theorem SW{L:Nat}{m:List (List Qr)}(h:∀v∈m,fM L v (FZ v))(h1:1<=L):qZ L m (Ks m):=by
 refine⟨λi v e=>?_,λi hi k=>?_,h1⟩
 ·have:Ks m i=FZ v:=by unfold Ks;rw[List.getD_eq_getElem?_getD,e];rfl
  rw[this];exact h v (List.mem_of_getElem? e)
 unfold Ks;rw[List.getD_eq_getElem?_getD,List.getElem?_eq_none hi];exact(fM.nil (L:=1) (by decide)).val k |>.symm
theorem mkm{n:Nat}(h:n<=1000000):CV 24 ((n:Nat):Int) ([]:List Qr)=some (List.replicate n []):=oR (by decide) (by omega)
theorem Qv(n:Nat)(h:n<=1000000):CV 64 ((n:Nat):Int) (⟨⟨false,[]⟩,⟨false,[]⟩⟩:Qr)=some (List.replicate n ⟨⟨false,[]⟩,⟨false,[]⟩⟩):=oR (by omega) (by omega)
theorem CR{E:Type}{body:Nat->Unit->Option (Unit⊕E)}{n:Nat}{p:Nat->Prop}[DecidablePred p]{e:E}(h:∀k,k<n->body k ()=some (if p k then .inl ()else .inr e)):nK body n ()=some (if ∀k,k<n->p k then .inl ()else .inr e):=by
 induction n with
 |zero=>rw[nK,if_pos (λk hk=>by omega)]
 |succ n ih=>
  rw[nK,ih (λk hk=>h k (by omega))];by_cases h1:∀k,k<n->p k
  ·rw[if_pos h1];show body n ()=_;rw[h n (by omega)];by_cases h2:p n
   ·rw[if_pos h2,if_pos];intro k hk;rcases Nat.lt_or_ge k n with q|q
    ·exact h1 k q
    obtain rfl:k=n:=by omega
    exact h2
   rw[if_neg h2,if_neg (λq=>h2 (q n (by omega)))]
  rw[if_neg h1,if_neg (λq=>h1 (λk hk=>q k (by omega)))];rfl
section ops
variable {K L M:Nat}{c:Qr}{k:Rat}{a b:List (List Qr)}{F G:Nat->Nat->Rat}{x:List Qr}{f:Nat->Rat}
theorem SX(a:List (List Qr))(i:Nat):mL a (i:Int)=some (a.getD i []):=by
 unfold mL;refine bO<|aA (dF (by omega)) ?_;by_cases h:i<a.length
 ·exact aA (a:=false) (bt Y<|aA Y<|aA (dF (by omega)) Y)<|bt Y<|aA (bK (jh h)) Y
 rw[iH (by omega)];exact aA (a:=true) (bt Y<|aA Y<|aA (dT (by omega)) Y)<|bN Y Y
def q9(m:List (List Qr)):Nat:=m.foldl (λn v=>max n v.length) 0
theorem rf{m:List (List Qr)}{n:Nat}:q9 m<=n↔∀v∈m,v.length<=n:=by
 have key:∀(l:List (List Qr)) (s:Nat),l.foldl (λn v=>max n v.length) s<=n↔s<=n/\∀v∈l,v.length<=n:=by
  intro l
  induction l with
  |nil=>intro s;simp
  |cons v l ih=>
   intro s;rw[List.foldl_cons,ih];simp only[List.mem_cons,forall_eq_or_imp];constructor
   ·rintro⟨h1,h2⟩;exact⟨by omega,by omega,h2⟩
   rintro⟨h1,h2,h3⟩;exact⟨by omega,h3⟩
 unfold q9;rw[key];simp
theorem LD(m:List (List Qr))(h:m.length<=9223372036854775806):mM m=some (q9 m:Int):=by
 unfold mM;refine aA Y ?_;refine bP (λj=>(((m.take j).foldl (λn v=>max n v.length) 0:Nat),(j:Int))) m.length ((q9 m:Nat):Int) (by simp) (λj hj=>?_) ?_ Y
 ·refine aA (dT (by omega))<|bN Y<|aA (bK (List.getElem?_eq_getElem hj))<|aA Y<|aA Y<|aA (congrArg some (bQ (by omega))) ?_;rw[List.take_add_one,List.getElem?_eq_getElem hj,List.foldl_append];simp only[Option.toList_some,List.foldl_cons,List.foldl_nil];congr 3;omega
 refine aA (dF (by omega))<|bt Y ?_;rw[List.take_length];rfl
theorem Yi(h:qZ L a F)(hL:L<=10000000000)(i j:Nat):tJ a (i:Int) (j:Int)=some (qn (F i j)):=by
 unfold tJ;refine aA (SX a i)<|bO<|aA (dF (by omega)) ?_;have hr:=h.row i;generalize a.getD i []=v at hr;by_cases hj:j<v.length
 ·obtain⟨q,e1,r1⟩:=hr.get hj;have e2:=(r1.canon hL).1;exact aA (a:=false) (bt Y<|aA Y<|aA (dF (by omega)) Y)<|bt Y<|aA (bK e1)<|aA e2 Y
 rw[hr.z j (by omega)];exact aA (a:=true) (bt Y<|aA Y<|aA (dT (by omega)) Y)<|bN Y Y
theorem Yj(ha:qZ L a F)(hb:qZ M b G)(h:L+M<=4000000000):eW a b=some (decide (∀i,i<max a.length b.length->∀j,j<max (a.getD i []).length (b.getD i []).length->F i j=G i j)):=by
 unfold eW;refine aA (CR (p:=λi=>∀j,j<max (a.getD i []).length (b.getD i []).length->F i j=G i j) (e:=false) (λi hi=>?_)) ?_
 ·have e1:=veq (ha.row i) (hb.row i) h;refine aA Y<|aA Y<|aA e1<|aA Y ?_;by_cases q:∀j,j<max (a.getD i []).length (b.getD i []).length->F i j=G i j
  ·rw[if_pos q];exact bt (by rw[decide_eq_true q];rfl) Y
  rw[if_neg q];exact bN (by rw[decide_eq_false q];rfl) Y
 by_cases q:∀i,i<max a.length b.length->∀j,j<max (a.getD i []).length (b.getD i []).length->F i j=G i j
 ·rw[if_pos q,decide_eq_true q]
 rw[if_neg q,decide_eq_false q]
theorem SY(ha:qZ L a F)(hb:qZ M b G)(h:L+M<=4000000000)(e:∀i j,F i j=G i j):eW a b=some true:=by
 rw[Yj ha hb h,decide_eq_true (λi _ j _=>e i j)]
theorem U3{l:List (List Int)}(hl:∀v∈l,v.length<=1000/\∀y∈v,fT y)(hn:l.length<=1000):iC l=some (mq l.length (λi=>(l.getD i []).length) (λi j=>(((l.getD i []).getD j 0:Int):Rat)))/\qZ 2 (mq l.length (λi=>(l.getD i []).length) (λi j=>(((l.getD i []).getD j 0:Int):Rat))) (λi j=>(((l.getD i []).getD j 0:Int):Rat)):=by
 have hw:∀i,(l.getD i []).length<=1000/\∀y∈l.getD i [],fT y:=λi=>by
  by_cases hi:i<l.length
  ·exact hl _ (List.mem_of_getElem? (jh (d:=[]) hi))
  rw[iH (by omega)];simp
 constructor
 ·unfold iC;refine aA Y<|aA (mkm (by omega))<|aA Y ?_;refine bP (λj=>((j:Int),uo (λi=>vq (l.getD i []).length (λj=>(((l.getD i []).getD j 0:Int):Rat))) l.length j [])) l.length (mq l.length (λi=>(l.getD i []).length) (λi j=>(((l.getD i []).getD j 0:Int):Rat))) (by rw[Kr];rfl) (λj hj=>?_) ?_ Y
  ·have e1:=(yt (hw j).2 (by have:=(hw j).1;omega)).1;have hl:(uo (λi=>vq (l.getD i []).length (λj=>(((l.getD i []).getD j 0:Int):Rat))) l.length j []).length=l.length:=MQ (by omega);refine aA (dT (by omega))<|bN Y<|aA (bK (jh (d:=[]) hj))<|aA e1<|aA (bR (show j<_ by rw[hl];exact hj))<|aA (eD (show j<_ by rw[hl];exact hj))<|aA (congrArg some (bQ (by omega))) ?_;rw[<-MS hj]
  refine aA (dF (by omega))<|bt Y ?_;rw[MR];rfl
 refine Qu (λi hi j hj=>(yt (hw i).2 (by have:=(hw i).1;omega)).2.fq j) (λi hi j hj=>by rw[iH hj];rfl) (λi hi j=>by rw[iH hi];rfl) (by decide)
end ops
end
section
open Go.Fw
theorem CS{α:Type}{b:Bool}{x y r:α}(ht:b=true->x=r)(hf:b=false->y=r):(bif b then x else y)=r:=by
 cases b
 ·rw[jF];exact hf Y
 rw[jt];exact ht Y
theorem uQ{E:Type}{body:Int->Option (Int⊕(Unit⊕E))}{n:Nat}{p:Nat->Prop}[DecidablePred p]{e:E}(h:∀k:Nat,k<n->body (k:Int)=some (if p k then .inl ((k+1:Nat):Int)else .inr (.inr e)))(hn:body (n:Int)=some (.inr (.inl ()))):
  cy body 0=some (if ∀k,k<n->p k then .inl ()else .inr e):=by
 obtain⟨r,h1,h2⟩:=qC (body:=body) (s:=0) (λs=>∃k:Nat,s=(k:Int)/\k<=n/\∀i,i<k->p i) (λr=>(r=.inl ()/\∀k,k<n->p k)\/(r=.inr e/\¬∀k,k<n->p k)) (λs=>n-s.toNat) (by
  rintro _ ⟨k,rfl,hk,hp⟩;by_cases hlt:k<n
  ·by_cases hpk:p k
   ·refine .inl ⟨_,by rw[h k hlt,if_pos hpk],⟨k+1,Y,hlt,λi hi=>?_⟩,by simp only[Int.toNat_natCast];omega⟩;rcases Nat.lt_or_ge i k with q|q
    ·exact hp i q
    obtain rfl:i=k:=by omega
    exact hpk
   exact .inr ⟨_,by rw[h k hlt,if_neg hpk],.inr ⟨Y,λq=>hpk (q k hlt)⟩⟩
  obtain rfl:k=n:=by omega
  exact .inr ⟨_,hn,.inl ⟨Y,hp⟩⟩) ⟨0,Y,by omega,λi hi=>by omega⟩
 rw[h1];rcases h2 with⟨rfl,h2⟩|⟨rfl,h2⟩
 ·rw[if_pos h2]
 rw[if_neg h2]
def SZ(n:Nat)(f:Nat->Rat)(i:Nat):Rat:=if i<n then f i else 0
theorem F3{n i:Nat}{f:Nat->Rat}(h:i<n):SZ n f i=f i:=if_pos h
theorem S0{n i:Nat}{f:Nat->Rat}(h:n<=i):SZ n f i=0:=if_neg (by omega)
theorem Yk(n:Nat)(f:Nat->Rat):vq n f=vq n (SZ n f):=gU (λi hi=>(F3 hi).symm)
theorem LF{L n:Nat}{f:Nat->Rat}(h:∀i,i<n->FQ L (f i))(h1:1<=L):fM L (vq n f) (SZ n f):=by
 rw[Yk];exact oW (λi hi=>by rw[F3 hi];exact h i hi) (λi hi=>S0 hi) h1
def CZ(n:Int)(ob rw:List (List Qr))(bd:List Qr):Prop:=0<=n/\n<=64/\1<=ob.length/\ob.length<=4/\rw.length<=128/\bd.length=rw.length/\(q9 ob:Int)<=n/\(q9 rw:Int)<=n
instance(n:Int)(ob rw:List (List Qr))(bd:List Qr):Decidable (CZ n ob rw bd):=by unfold CZ;exact inferInstance
theorem IK{n:Int}{ob rw:List (List Qr)}{bd:List Qr}(h1:ob.length<=9223372036854775806)(h2:rw.length<=9223372036854775806):fW ⟨n,ob,rw,bd⟩=some (decide (CZ n ob rw bd)):=by
 unfold fW lS;refine aA (aA Y<|aA Y<|aA Y Y)<|bO<|aA Y<|CY (λ_=>aA Y Y)<|CY (λ_=>aA Y Y)<|CY (λ_=>aA Y Y)<|CS (λh=>?_) (λh=>bO<|aA Y<|CY (λ_=>aA Y Y)<|CS (λh'=>?_) (λh'=>bO<|aA (LD ob h1)<|aA Y<|Qt (λ_=>aA (LD rw h2)<|aA Y Y) ?_))
 ·congr 1;symm;rw[decide_eq_false_iff_not];simp only[Bool.or_eq_true,decide_eq_true_eq]at h;unfold CZ;omega
 ·congr 1;symm;rw[decide_eq_false_iff_not];simp only[Bool.or_eq_true,decide_eq_true_eq]at h';unfold CZ;omega
 congr 1;simp only[Bool.or_eq_false_iff,decide_eq_false_iff_not]at h h';rw[<-Bool.decide_and,decide_eq_decide];unfold CZ;omega
theorem Yl{n:Int}{ob rw:List (List Qr)}{bd:List Qr}:fW ⟨n,ob,rw,bd⟩=some (decide (CZ n ob rw bd)):=by
 unfold fW lS;refine aA (aA Y<|aA Y<|aA Y Y)<|bO<|aA Y<|CY (λ_=>aA Y Y)<|CY (λ_=>aA Y Y)<|CY (λ_=>aA Y Y)<|CS (λh=>?_) (λh=>bO<|aA Y<|CY (λ_=>aA Y Y)<|CS (λh'=>?_) (λh'=>bO<|aA (LD ob (by simp only[Bool.or_eq_false_iff,decide_eq_false_iff_not]at h h';omega))<|aA Y<|Qt (λ_=>aA (LD rw (by simp only[Bool.or_eq_false_iff,decide_eq_false_iff_not]at h h';omega))<|aA Y Y) ?_))
 ·congr 1;symm;rw[decide_eq_false_iff_not];simp only[Bool.or_eq_true,decide_eq_true_eq]at h;unfold CZ;omega
 ·congr 1;symm;rw[decide_eq_false_iff_not];simp only[Bool.or_eq_true,decide_eq_true_eq]at h';unfold CZ;omega
 congr 1;simp only[Bool.or_eq_false_iff,decide_eq_false_iff_not]at h h';rw[<-Bool.decide_and,decide_eq_decide];unfold CZ;omega
section lps
variable {K L M N:Nat}{n:Int}{ob rw:List (List Qr)}{bd x y:List Qr}{O F:Nat->Nat->Rat}{g f:Nat->Rat}
end lps
end
section
open Go.Fw
def bq(m:Nat)(b:Nat->Nat):List Int:=(List.range m).map λj=>((b j:Nat):Int)
theorem iG(m:Nat)(b:Nat->Nat):(bq m b).length=m:=by simp[bq]
theorem nP{m j:Nat}{b:Nat->Nat}(h:j<m):(bq m b)[j]? =some ((b j:Nat):Int):=by simp[bq,h]
theorem S3(m:Nat)(b:Nat->Nat):bq (m+1) b=bq m b++[((b m:Nat):Int)]:=by simp[bq,List.range_succ]
theorem Kt{m r c:Nat}{b:Nat->Nat}(hr:r<m):(bq m b).set r (c:Int)=bq m (λj=>if j=r then c else b j):=by
 apply List.ext_getElem?;intro j;rw[List.getElem?_set,iG];by_cases hj:j<m
 ·rw[nP hj];by_cases e:r=j
  ·subst e;rw[if_pos Y,if_pos hr,nP hr,if_pos rfl]
  rw[if_neg e,nP hj,if_neg (λq=>e q.symm)]
 rw[List.getElem?_eq_none (l:=bq m _) (by rw[iG];omega),List.getElem?_eq_none (l:=bq m _) (by rw[iG];omega)];by_cases e:r=j
 ·rw[if_pos e,if_neg (by omega)]
 rw[if_neg e]
abbrev F4(n m p:Nat)(O F:Nat->Nat->Rat)(b:Nat->Nat):Tb:=⟨true,(n:Int),mq p (λ_=>n) O,bq m b,mq m (λ_=>n+m+1) F⟩
structure mS (L n m p:Nat) (O F:Nat->Nat->Rat) (b:Nat->Nat):Prop where
 f:∀i,i<m->∀k,FQ L (F i k)
 o:∀i,i<p->∀k,FQ L (O i k)
 z:∀i,i<m->∀k,n+m+1<=k->F i k=0
 l1:1<=L
 hn:n<=64
 hm:m<=128
 hp:p<=4
 hb:∀j,j<m->b j<n+m
section Ym
variable {L n m p:Nat}{O F:Nat->Nat->Rat}{b:Nat->Nat}
theorem gV(n m p:Nat)(O F:Nat->Nat->Rat)(b:Nat->Nat):cw (F4 n m p O F b)=some false:=by
 unfold cw;exact bO<|aA (a:=false) (bt Y<|aA Y Y) Y
theorem xd(hn:n<=64)(hm:m<=128):dP (F4 n m p O F b)=some ((n+m:Nat):Int):=by
 unfold dP;refine aA Y<|aA (congrArg some ?_) Y;rw[dI,cQ (by omega) (by omega)];omega
theorem S4{i:Nat}(h:mS L n m p O F b)(hi:i<m):fM L (vq (n+m+1) (F i)) (F i):=oW (λk _=>h.f i hi k) (λk hk=>h.z i hi k hk) h.l1
theorem LG(h:mS L n m p O F b)(hL:L<=4000000000){c:Nat}(hc:c<n+m+1):j1 (F4 n m p O F b) (c:Int)=some (vq m (λi=>F i c)):=by
 have hm:=h.hm;unfold j1;show(some ((mq m (λ_=>n+m+1) F).length:Int)).bind _=_;refine aA Y ?_;rw[dI];refine aA (Qv m (by omega))<|aA Y ?_;refine bP (λk=>((k:Int),vq k (λi=>F i c)++List.replicate (m-k) qz)) m (vq m (λi=>F i c)) Y (λk hk=>?_) ?_ Y
 ·have g1:(mq m (λ_=>n+m+1) F)[k]? =some (vq (n+m+1) (F k)):=ia hk;have g2:(vq (n+m+1) (F k))[c]? =some (qn (F k c)):=k7 hc;have e:=(((h.f k hk c).rep h.l1).canon (by omega)).1;have s:=F1 (h:=λi=>F i c) hk;have hl:(vq k (λi=>F i c)++List.replicate (m-k) qz).length=m:=rV (by omega);rw[<-s];generalize vq k (λi=>F i c)++List.replicate (m-k) qz=l at*;clear s;show(some (decide ((k:Int)<(m:Int)))).bind _=_;generalize qn (F k c)=q at*;obtain⟨⟨_,_⟩,⟨_,_⟩⟩:=q;exact aA (dT (by omega))<|bN Y<|aA (bK g1)<|aA (bK g2)<|aA e<|aA (bR (by omega))<|aA (eD (by omega))<|aA (congrArg some (bQ (by omega))) Y
 simp only[Nat.sub_self,List.replicate_zero,List.append_nil];exact aA (dF (by omega))<|bt Y Y
def qk(n p:Nat)(O:Nat->Nat->Rat)(c:Nat)(i:Nat):Rat:=if c<n then(if i<p then O i c else if i=p+c then-1 else 0)else 0
theorem ri{k j:Nat}{h:Nat->Rat}{x:Rat}(hj:j<k):(vq k h).set j (qn x)=vq k (λi=>if i=j then x else h i):=by
 apply List.ext_getElem?;intro i;rw[List.getElem?_set,cM];by_cases hi:i<k
 ·rw[k7 hi];by_cases e:j=i
  ·subst e;rw[if_pos Y,if_pos hj,k7 hj,if_pos rfl]
  rw[if_neg e,k7 hi,if_neg (λq=>e q.symm)]
 rw[List.getElem?_eq_none (l:=vq k _) (by rw[cM];omega),List.getElem?_eq_none (l:=vq k _) (by rw[cM];omega)];by_cases e:j=i
 ·rw[if_pos e,if_neg (by omega)]
 rw[if_neg e]
theorem Bk(k:Nat):List.replicate k (⟨⟨false,[]⟩,⟨false,[]⟩⟩:Qr)=vq k (λ_=>0):=by
 apply List.ext_getElem?;intro i;by_cases hi:i<k
 ·rw[k7 hi,List.getElem?_replicate,if_pos hi];rfl
 rw[List.getElem?_eq_none (by simp;omega),List.getElem?_eq_none (by rw[cM];omega)]
theorem S5:cY (-1)=some (qn (-1)):=(oe (n:=-1) (by decide)).1
theorem one_eq:cY 1=some (qn 1)/\nG 2 (qn 1) 1:=oe (n:=1) (by decide)
theorem Qw(h:mS L n m p O F b){c:Nat}(hc:c<n+m):jk (F4 n m p O F b) (c:Int)=some (vq (p+n) (qk n p O c)):=by
 have hm:=h.hm;have hn:=h.hn;have hp:=h.hp;unfold jk;show(some ((mq p (λ_=>n) O).length:Int)).bind _=_;refine aA Y ?_;rw[dI];refine aA (congrArg some (show IntKind.i64.wrap ((p:Int)+(n:Int))=((p+n:Nat):Int) by rw[cQ (by omega) (by omega)];omega))<|aA (Qv (p+n) (by omega))<|aA Y<|bO ?_;rw[Bk];by_cases hcn:c<n
 ·refine bN (decide_eq_true (show(c:Int)<(n:Int) by omega))<|aA Y ?_;refine bP (λk=>((k:Int),vq (p+n) (λi=>if i<k then O i c else 0))) p (vq (p+n) (λi=>if i<p then O i c else 0)) (by simp) (λk hk=>?_) ?_ ?_
  ·have g1:(mq p (λ_=>n) O)[k]? =some (vq n (O k)):=ia hk;have g2:(vq n (O k))[c]? =some (qn (O k c)):=k7 hcn;have s:=ri (k:=p+n) (j:=k) (h:=λi=>if i<k then O i c else 0) (x:=O k c) (by omega);have s2:vq (p+n) (λi=>if i=k then O k c else if i<k then O i c else 0)=vq (p+n) (λi=>if i<k+1 then O i c else 0):=gU (λi _=>by
    by_cases e:i=k
    ·subst e;simp
    rw[if_neg e];by_cases e2:i<k
    ·rw[if_pos e2,if_pos (by omega)]
    rw[if_neg e2,if_neg (by omega)])
   rw[s2]at s;have hl:=cM (p+n) (λi=>if i<k then O i c else 0);rw[<-s];generalize vq (p+n) (λi=>if i<k then O i c else 0)=l at*;clear s s2;show(some (decide ((k:Int)<(p:Int)))).bind _=_;generalize qn (O k c)=q at*;obtain⟨⟨_,_⟩,⟨_,_⟩⟩:=q;exact aA (dT (by omega))<|bN Y<|aA (bK g1)<|aA (bK g2)<|aA (bR (by omega))<|aA (eD (by omega))<|aA (congrArg some (bQ (by omega))) Y
  ·exact aA (dF (by omega))<|bt Y Y
  have s:=ri (k:=p+n) (j:=p+c) (h:=λi=>if i<p then O i c else 0) (x:=-1) (by omega);have s2:vq (p+n) (λi=>if i=p+c then(-1:Rat)else if i<p then O i c else 0)=vq (p+n) (qk n p O c):=gU (λi _=>by
   unfold qk;rw[if_pos hcn];by_cases e:i=p+c
   ·rw[if_pos e,if_neg (by omega),if_pos e]
   rw[if_neg e,if_neg e])
  rw[s2]at s;have hl:=cM (p+n) (λi=>if i<p then O i c else 0);have e1:=S5;rw[<-s];generalize vq (p+n) (λi=>if i<p then O i c else 0)=l at*;clear s s2;generalize qn (-1)=q at*;obtain⟨⟨_,_⟩,⟨_,_⟩⟩:=q;exact aA Y<|aA (congrArg some (show IntKind.i64.wrap ((p:Int)+(c:Int))=((p+c:Nat):Int) by rw[cQ (by omega) (by omega)];omega))<|aA e1<|aA (bR (by omega))<|aA (eD (by omega)) Y
 refine bt (decide_eq_false (show ¬(c:Int)<(n:Int) by omega)) ?_;exact congrArg some (gU (λi _=>by unfold qk;rw[if_neg hcn]))
theorem Qx(h:mS L n m p O F b)(c i:Nat):FQ L (qk n p O c i):=by
 unfold qk;have hl:=h.l1;split
 ·split
  ·exact h.o _ (by assumption) _
  split
  ·exact(FQ.int (i:=-1) (L:=L) (by unfold Fit;exact Nat.lt_of_lt_of_le (by decide:(-1:Int).natAbs<4294967296^1) (Nat.pow_le_pow_right (by decide) hl)) hl)
  exact uP hl
 exact uP hl
theorem LH(h:mS L n m p O F b)(c:Nat):fM L (vq (p+n) (qk n p O c)) (qk n p O c):=oW (λi _=>Qx h c i) (λi hi=>by
 unfold qk;split
 ·rw[if_neg (by omega),if_neg (by omega)]
 rfl) h.l1
def rj(n p:Nat)(O:Nat->Nat->Rat)(b:Nat->Nat)(g:Nat->Rat)(m:Nat)(i:Nat):Rat:=dJ (λj=>g j*qk n p O (b j) i) m
theorem Yn{g:Nat->Rat}{k i:Nat}(hi:p+n<=i):rj n p O b g k i=0:=by
 unfold rj;rw[eM (k:=λ_=>0) (λj _=>?_),mR];unfold qk;split
 ·rw[if_neg (by omega),if_neg (by omega)];grind
 grind
theorem Bl(h:mS L n m p O F b){g:Nat->Rat}(hg:∀j,j<m->FQ L (g j)):∀k,k<=m->∀i,FQ (k*(L+L+1)+1) (rj n p O b g k i)
 |0,_,i=>by show FQ (0*(L+L+1)+1) (0:Rat);rw[Nat.zero_mul];exact uP (by decide)
 |k+1,hk,i=>by
  have e:=(Bl h hg k (by omega) i).add ((hg k (by omega)).mul (Qx h (b k) i));exact e.mono (by rw[Nat.succ_mul];generalize k*(L+L+1)=q;omega)
theorem IL(h:mS L n m p O F b){g:Nat->Rat}(hg:∀j,j<m->FQ L (g j)){k:Nat}(hk:k<=m):fM (k*(L+L+1)+1) (vq (p+n) (rj n p O b g k)) (rj n p O b g k):=oW (λi _=>Bl h hg k hk i) (λi hi=>Yn hi) (by omega)
theorem Ei(h:mS L n m p O F b)(hL:(m+1)*(L+L+1)<=2000000000){g:Nat->Rat}(hg:∀j,j<m->FQ L (g j)):iE (F4 n m p O F b) (vq m g)=some (vq (p+n) (rj n p O b g m)):=by
 have hX:m*(L+L+1)+(L+L+1)<=2000000000:=by rw[<-Nat.succ_mul];exact hL
 have hm:=h.hm;have hn:=h.hn;have hp:=h.hp;have h1:=h.l1;unfold iE;show(some ((mq p (λ_=>n) O).length:Int)).bind _=_;refine aA Y ?_;rw[dI];refine aA (congrArg some (show IntKind.i64.wrap ((p:Int)+(n:Int))=((p+n:Nat):Int) by rw[cQ (by omega) (by omega)];omega))<|aA (Qv (p+n) (by omega))<|aA (congrArg some (show((vq m g).length:Int)=(m:Int) by rw[cM])) ?_;rw[Bk];refine bP (λk=>(vq (p+n) (rj n p O b g k),(k:Int))) m (vq (p+n) (rj n p O b g m)) Y (λk hk=>?_) ?_ Y
 ·have g1:(vq m g)[k]? =some (qn (g k)):=k7 hk;have g2:=nP (b:=b) hk;have rg:=(hg k hk).rep h1;have sg:=rg.sign (by omega);have Vn:=h.hb k hk;have tv:=Qw h Vn;have va:=U1 rg (LH h (b k)) (IL h hg (Nat.le_of_lt hk)) (by have:=Nat.mul_le_mul_right (L+L+1) (show k<=m by omega);omega) (by rw[cM];omega) (by rw[cM];omega);have e0:vq (max (vq (p+n) (qk n p O (b k))).length (vq (p+n) (rj n p O b g k)).length) (λi=>g k*qk n p O (b k) i+rj n p O b g k i)=vq (p+n) (rj n p O b g (k+1)):=by
   rw[cM,cM,Nat.max_self];refine gU (λi _=>?_);show _=dJ _ k+_;unfold rj;grind
  rw[e0]at va;have same:g k*qk n p O (b k) 0=g k*qk n p O (b k) 0:=rfl;have skip:(¬(b k<n)\/g k=0)->vq (p+n) (rj n p O b g k)=vq (p+n) (rj n p O b g (k+1)):=λq=>gU (λi _=>by
   show rj n p O b g k i=dJ _ k+_;have:g k*qk n p O (b k) i=0:=by
    rcases q with q|q
    ·unfold qk;rw[if_neg q];grind
    rw[q];grind
   show rj n p O b g k i=rj n p O b g k i+g k*qk n p O (b k) i;rw[this];grind)
  replace va:=va.1;show(some (decide ((k:Int)<(m:Int)))).bind _=_;have sgd:(some (decide (pz (g k) 0≠0)):Option Bool)=some (decide (g k≠0)):=by
   congr 1;by_cases q:g k=0
   ·rw[decide_eq_false (by rw[q,MO];simp),decide_eq_false (by simp[q])]
   rw[decide_eq_true (show pz (g k) 0≠0 from λe=>q (lq.1 e)),decide_eq_true q]
  generalize hq:qn (g k)=q at*;obtain⟨⟨q1,q2⟩,⟨q3,q4⟩⟩:=q;refine aA (dT (by omega))<|bN Y<|aA (bK g1)<|bO<|aA (bK g2)<|aA Y ?_;by_cases Vv:b k<n
  ·refine aA (a:=decide (g k≠0)) (bN (decide_eq_true (show((b k:Nat):Int)<(n:Int) by omega))<|aA sg<|aA sgd Y)<|bO ?_;by_cases h0:g k=0
   ·refine bt (by simp[h0]) ?_;rw[skip (.inr h0)];exact aA (congrArg some (bQ (by omega))) Y
   refine bN (by simp[h0]) ?_;exact aA (bK g2)<|aA tv<|aA va<|aA (congrArg some (bQ (by omega))) Y
  refine aA (a:=false) (bt (decide_eq_false (show ¬((b k:Nat):Int)<(n:Int) by omega)) Y)<|bO<|bt Y ?_;rw[skip (.inl Vv)];exact aA (congrArg some (bQ (by omega))) Y
 exact aA (dF (by omega))<|bt Y Y
theorem Ku(h:mS L n m p O F b)(hL:L<=4000000000):fP (F4 n m p O F b)=some (vq m (λi=>F i (n+m))):=by
 unfold fP;exact aA (gV n m p O F b)<|bt Y<|aA (xd h.hn h.hm)<|aA (LG h hL (by omega)) Y
def ur(n m p:Nat)(O F:Nat->Nat->Rat)(b:Nat->Nat)(c:Nat)(i:Nat):Rat:=rj n p O b (λj=>F j c) m i-qk n p O c i
theorem IM(h:mS L n m p O F b)(hL:(m+1)*(L+L+1)<=2000000000){c:Nat}(hc:c<n+m):dH (F4 n m p O F b) (c:Int)=some (vq (p+n) (ur n m p O F b c))/\fM (m*(L+L+1)+1+L+1) (vq (p+n) (ur n m p O F b c)) (ur n m p O F b c):=by
 have hX:m*(L+L+1)+(L+L+1)<=2000000000:=by rw[<-Nat.succ_mul];exact hL
 have hm:=h.hm;have hn:=h.hn;have hp:=h.hp;have w:=Ei h hL (g:=λj=>F j c) (λj hj=>h.f j hj c);have s:=ajs (IL h (g:=λj=>F j c) (λj hj=>h.f j hj c) (Nat.le_refl m)) (LH h c) (by omega) (by rw[cM];omega) (by rw[cM];omega);rw[cM,cM,Nat.max_self]at s;refine⟨?_,s.2⟩;unfold dH;exact bO<|aA (gV n m p O F b)<|aA (a:=false) (bt Y<|aA (dF (by omega)) Y)<|aA (a:=false) (bt Y<|aA (xd hn hm)<|aA (dF (by omega)) Y)<|bt Y<|aA (LG h (by omega) (by omega))<|aA w<|aA (Qw h hc)<|aA s.1 Y
theorem LI(h:mS L n m p O F b)(hL:(m+1)*(L+L+1)<=2000000000):jR (F4 n m p O F b)=some (vq (p+n) (rj n p O b (λj=>F j (n+m)) m)):=by
 have hX:m*(L+L+1)+(L+L+1)<=2000000000:=by rw[<-Nat.succ_mul];exact hL
 unfold jR;exact aA (gV n m p O F b)<|bt Y<|aA (Ku h (by omega))<|aA (Ei h hL (g:=λj=>F j (n+m)) (λj hj=>h.f j hj _)) Y
def pA(n m:Nat)(F:Nat->Nat->Rat)(b:Nat->Nat):Nat->Nat->Rat
 |0,_=>0
 |j+1,i=>if b j<n/\i=b j then F j (n+m)else pA n m F b j i
theorem zH(h:mS L n m p O F b)(hL:L<=4000000000):fK (F4 n m p O F b)=some (vq n (pA n m F b m)):=by
 have hm:=h.hm;have hn:=h.hn;unfold fK;refine aA (gV n m p O F b)<|bt Y<|aA (Qv n (by omega))<|aA (Ku h hL)<|aA (congrArg some (show((vq m _).length:Int)=(m:Int) by rw[cM])) ?_;rw[Bk];refine bP (λk=>((k:Int),vq n (pA n m F b k))) m (vq n (pA n m F b m)) Y (λk hk=>?_) ?_ Y
 ·have g1:(vq m (λi=>F i (n+m)))[k]? =some (qn (F k (n+m))):=k7 hk;have g2:=nP (b:=b) hk;have hl:=cM n (pA n m F b k);show(some (decide ((k:Int)<(m:Int)))).bind _=_;by_cases Vv:b k<n
  ·have s:=ri (k:=n) (j:=b k) (h:=pA n m F b k) (x:=F k (n+m)) Vv;have s2:vq n (λi=>if i=b k then F k (n+m)else pA n m F b k i)=vq n (pA n m F b (k+1)):=gU (λi _=>by
    show _=if b k<n/\i=b k then _ else _;by_cases e:i=b k
    ·rw[if_pos e,if_pos ⟨Vv,e⟩]
    rw[if_neg e,if_neg (λq=>e q.2)])
   rw[s2]at s;rw[<-s];clear s s2;generalize vq n (pA n m F b k)=l at*;generalize qn (F k (n+m))=q at*;obtain⟨⟨_,_⟩,⟨_,_⟩⟩:=q;exact aA (dT (by omega))<|bN Y<|aA (bK g1)<|aA (bK g2)<|aA Y<|bO<|bN (decide_eq_true (show((b k:Nat):Int)<(n:Int) by omega))<|aA (bK g2)<|aA (bR (by omega))<|aA (eD (by omega))<|aA (congrArg some (bQ (by omega))) Y
  have s2:vq n (pA n m F b k)=vq n (pA n m F b (k+1)):=gU (λi _=>by
   show _=if b k<n/\i=b k then _ else _;rw[if_neg (λq=>Vv q.1)])
  rw[<-s2];generalize qn (F k (n+m))=q at*;obtain⟨⟨_,_⟩,⟨_,_⟩⟩:=q;exact aA (dT (by omega))<|bN Y<|aA (bK g1)<|aA (bK g2)<|aA Y<|bO<|bt (decide_eq_false (show ¬((b k:Nat):Int)<(n:Int) by omega))<|aA (congrArg some (bQ (by omega))) Y
 exact aA (dF (by omega))<|bt Y Y
theorem MT(h:mS L n m p O F b)(hL:L<=4000000000):iF (F4 n m p O F b)=some (decide (∀i,i<m->0<=F i (n+m))):=by
 have hm:=h.hm;unfold iF;refine aA (gV n m p O F b)<|bt Y<|aA (Ku h hL)<|aA (congrArg some (show((vq m _).length:Int)=(m:Int) by rw[cM])) ?_;refine aA (uQ (n:=m) (p:=λi=>0<=F i (n+m)) (e:=false) (λk hk=>?_) (aA (dF (by omega))<|bt Y Y)) ?_
 ·have g1:(vq m (λi=>F i (n+m)))[k]? =some (qn (F k (n+m))):=k7 hk;have sg:=((h.f k hk (n+m)).rep h.l1).sign (by omega);generalize qn (F k (n+m))=q at*;obtain⟨⟨_,_⟩,⟨_,_⟩⟩:=q;refine aA (dT (by omega))<|bN Y<|aA (bK g1)<|aA sg<|aA Y ?_;by_cases q:F k (n+m)<0
  ·rw[if_neg (by grind)];exact bN (decide_eq_true (IG.2 q)) Y
  rw[if_pos (by grind)];exact bt (decide_eq_false (λe=>q (IG.1 e)))<|aA (congrArg some (bQ (by omega))) Y
 by_cases q:∀i,i<m->0<=F i (n+m)
 ·rw[if_pos q,decide_eq_true q]
 rw[if_neg q,decide_eq_false q]
theorem IN(h:mS L n m p O F b)(hL:(m+1)*(L+L+1)<=2000000000):gZ (F4 n m p O F b)=some (decide (∀c,c<n+m->0<=oX (ur n m p O F b c) (λ_=>0) (p+n))):=by
 have hX:m*(L+L+1)+(L+L+1)<=2000000000:=by rw[<-Nat.succ_mul];exact hL
 have hm:=h.hm;have hn:=h.hn;unfold gZ;refine aA (gV n m p O F b)<|bt Y ?_;have hw:(IntKind.i64.wrap (Tb.vars (F4 n m p O F b)+((Tb.rows (F4 n m p O F b)).length:Int))).toNat=n+m:=by
  show(IntKind.i64.wrap ((n:Int)+((mq m (λ_=>n+m+1) F).length:Int))).toNat=_;rw[dI,cQ (by omega) (by omega)];omega
 refine aA (a:=if ∀c,c<n+m->0<=oX (ur n m p O F b c) (λ_=>0) (p+n)then .inl ()else .inr false) ?_ ?_
 ·refine Eq.trans (congrArg (λk=>nK _ k ()) hw) ?_;refine CR (n:=n+m) (p:=λc=>0<=oX (ur n m p O F b c) (λ_=>0) (p+n)) (e:=false) (λk hk=>?_);obtain⟨e,r⟩:=IM h hL hk;have sg:=acB r (by omega);rw[cM]at sg;refine aA Y<|aA e<|aA sg<|aA Y ?_;by_cases q:0<=oX (ur n m p O F b k) (λ_=>0) (p+n)
  ·rw[if_pos q];exact bt (decide_eq_false (by omega)) Y
  rw[if_neg q];exact bN (decide_eq_true (by omega)) Y
 by_cases q:∀c,c<n+m->0<=oX (ur n m p O F b c) (λ_=>0) (p+n)
 ·rw[if_pos q,decide_eq_true q]
 rw[if_neg q,decide_eq_false q]
end Ym
end
section
open Go.Fw
def lz(F:Nat->Nat->Rat)(r c i k:Nat):Rat:=if i=r then F r k/F r c else F i k-F i c*(F r k/F r c)
section Ym
variable {L n m p:Nat}{O F:Nat->Nat->Rat}{b:Nat->Nat}
theorem Qy(h:mS L n m p O F b){r c:Nat}(hr:r<m)(h0:F r c≠0){i:Nat}(hi:i<m)(k:Nat):FQ (4*L+1) (lz F r c i k):=by
 have e:=(h.f r hr k).div (h.f r hr c) h0;unfold lz;split
 ·exact e.mono (by omega)
 exact((h.f i hi k).sub ((h.f i hi c).mul e)).mono (by omega)
theorem U4(h:mS L n m p O F b){r i:Nat}(hr:r<m)(c:Nat)(hi:i<m){k:Nat}(hk:n+m+1<=k):lz F r c i k=0:=by
 unfold lz;rw[h.z r hr k hk,h.z i hi k hk];have e:(0:Rat)/F r c=0:=by rw[Rat.div_def,Rat.zero_mul]
 rw[e];split
 ·rfl
 grind
theorem zJ(h:mS L n m p O F b){r c:Nat}(hr:r<m)(hc:c<n+m)(h0:F r c≠0):mS (4*L+1) n m p O (lz F r c) (λj=>if j=r then c else b j):=
 ⟨λi hi k=>Qy h hr h0 hi k,λi hi k=>(h.o i hi k).mono (by omega),λi hi k hk=>U4 h hr c hi hk,by omega,h.hn,h.hm,h.hp,λj hj=>by
  show(if j=r then c else b j)<n+m;split
  ·exact hc
  exact h.hb j hj⟩
theorem S6(h:mS L n m p O F b)(hL:L<=100000000){r c:Nat}(hr:r<m)(hc:c<n+m+1)(h0:F r c≠0){o0:Bool}{o1:Int}{o2 rows:List (List Qr)}{o3:List Int}(hrow:rows[r]? =some (vq (n+m+1) (lz F r c r))){i:Nat}(hi:i<m)(hne:i≠r):
  j9 o0 o1 o2 o3 rows (vq (n+m+1) (F i)) c r=some (vq (n+m+1) (lz F r c i)):=by
 have hm:=h.hm;have hn:=h.hn;have h1:=h.l1;have g1:(vq (n+m+1) (F i))[c]? =some (qn (F i c)):=k7 hc;have rq:=(h.f i hi c).rep h1;have sg:=rq.sign (by omega);have ng:=rq.neg (by omega);have Kq:r<rows.length:=(List.getElem?_eq_some_iff.1 hrow).1;have va:=U1 ng.2 (oW (n:=n+m+1) (h:=lz F r c r) (λk _=>Qy h hr h0 hr k) (λk hk=>U4 h hr c hr hk) (show 1<=4*L+1 by omega)) (S4 h hi) (by omega) (by rw[cM];omega) (by rw[cM];omega);have e0:vq (max (vq (n+m+1) (lz F r c r)).length (vq (n+m+1) (F i)).length) (λk=>-F i c*lz F r c r k+F i k)=vq (n+m+1) (lz F r c i):=by
  rw[cM,cM,Nat.max_self];refine gU (λk _=>?_);unfold lz;rw[if_pos Y,if_neg hne];grind
 rw[e0]at va;replace va:=va.1;have same:F i c=0->vq (n+m+1) (F i)=vq (n+m+1) (lz F r c i):=λq=>gU (λk _=>by
  unfold lz;rw[if_neg hne,q];grind)
 have sgd:(some (decide (pz (F i c) 0=0)):Option Bool)=some (decide (F i c=0)):=by
  congr 1;by_cases q:F i c=0
  ·rw[decide_eq_true (show pz (F i c) 0=0 from lq.2 q),decide_eq_true q]
  rw[decide_eq_false (show ¬pz (F i c) 0=0 from λe=>q (lq.1 e)),decide_eq_false q]
 unfold j9;replace ng:=ng.1;generalize qn (F i c)=q at*;generalize qn (-F i c)=q' at*;obtain⟨⟨_,_⟩,⟨_,_⟩⟩:=q;obtain⟨⟨_,_⟩,⟨_,_⟩⟩:=q';refine aA (bK g1)<|aA sg<|aA sgd ?_;by_cases q:F i c=0
 ·rw[<-same q];exact bN (decide_eq_true q) Y
 exact bt (decide_eq_false q)<|aA (bK g1)<|aA ng<|aA (bR Kq)<|aA hrow<|aA va Y
theorem Qz{w r:Nat}{G:Nat->Nat->Rat}{f:Nat->Rat}(hr:r<m):(mq m (λ_=>w) G).set r (vq w f)=mq m (λ_=>w) (λi=>if i=r then f else G i):=by
 apply List.ext_getElem?;intro j;rw[List.getElem?_set,dI];by_cases hj:j<m
 ·rw[ia hj];by_cases e:r=j
  ·subst e;rw[if_pos Y,if_pos hr,ia hr,if_pos rfl]
  rw[if_neg e,ia hj,if_neg (λq=>e q.symm)]
 rw[List.getElem?_eq_none (l:=mq m _ _) (by rw[dI];omega),List.getElem?_eq_none (l:=mq m _ _) (by rw[dI];omega)];by_cases e:r=j
 ·rw[if_pos e,if_neg (by omega)]
 rw[if_neg e]
theorem QA(h:mS L n m p O F b)(hL:L<=100000000){r c:Nat}(hr:r<m)(hc:c<n+m+1)(h0:F r c≠0){o0:Bool}{o1:Int}{o2:List (List Qr)}{o3:List Int}:
  cJ o0 o1 o2 o3 (mq m (λ_=>n+m+1) F) r c=some (o2,o3,mq m (λ_=>n+m+1) (lz F r c)):=by
 have hm:=h.hm;have hn:=h.hn;have h1:=h.l1;have g1:(mq m (λ_=>n+m+1) F)[r]? =some (vq (n+m+1) (F r)):=ia hr;have Kq:r<(mq m (λ_=>n+m+1) F).length:=by rw[dI];exact hr
 have g2:(vq (n+m+1) (F r))[c]? =some (qn (F r c)):=k7 hc;have dv:=one_eq.2.div ((h.f r hr c).rep h1) (by omega) h0;have sc:=(Yh dv.2 (S4 h hr) (by omega) (by rw[cM];omega)).1;rw[cM]at sc;have e0:vq (n+m+1) (λk=>1/F r c*F r k)=vq (n+m+1) (lz F r c r):=gU (λk _=>by
  unfold lz;rw[if_pos Y,Rat.div_def,Rat.div_def];grind)
 rw[e0]at sc;have st:=eD (y:=vq (n+m+1) (lz F r c r)) Kq;rw[Qz hr]at st;have e1:=one_eq.1;replace dv:=dv.1;have loop:∀(o:List (List Qr)->Option ((List (List Qr))×(List Int)×(List (List Qr)))),o (mq m (λ_=>n+m+1) (lz F r c))=some (o2,o3,mq m (λ_=>n+m+1) (lz F r c))->((cy (λ(AX:Int×(List (List Qr)))=>match AX with|⟨pR,gH⟩=>(show Option ((Int×(List (List Qr)))⊕((List (List Qr))))from(some (decide ((pR:Int)<(m:Int)))).bind λLc=>(bif Lc then(ko gH pR).bind λyA=>(gH[yA]?).bind λDf=>(some (decide ((pR:Int)≠(r:Int)))).bind λL4=>cK (λ(tO:(List (List Qr)))=>(some (IntKind.i64.wrap (pR+1))).bind λDS=>some (.inl (DS,tO))) λWZ=>(bif L4 then(j9 o0 o1 o2 o3 gH Df c r).bind λJr=>(ko gH pR).bind λKR=>(stM gH KR Jr).bind λl17=>WZ l17 else WZ gH)else some (.inr gH)))) (0,mq m (λ_=>n+m+1) (λi=>if i=r then lz F r c r else F i))).bind o)=some (o2,o3,mq m (λ_=>n+m+1) (lz F r c)):=λo ho=>by
  refine bP (λk=>((k:Int),mq m (λ_=>n+m+1) (λi=>if i=r\/i<k then lz F r c i else F i))) m (mq m (λ_=>n+m+1) (lz F r c)) ?_ (λk hk=>?_) ?_ ho
  ·refine Prod.ext Y (mh (λi hi=>⟨Y,λk _=>?_⟩));by_cases e:i=r
   ·subst e;simp
   simp[e]
  ·have gk:(mq m (λ_=>n+m+1) (λi=>if i=r\/i<k then lz F r c i else F i))[k]? =some (vq (n+m+1) (if k=r then lz F r c k else F k)):=by
    rw[ia hk];congr 2;by_cases e:k=r
    ·rw[if_pos (.inl e),if_pos e]
    rw[if_neg (by omega),if_neg e]
   have hl:(mq m (λ_=>n+m+1) (λi=>if i=r\/i<k then lz F r c i else F i)).length=m:=dI _ _ _;have gr:(mq m (λ_=>n+m+1) (λi=>if i=r\/i<k then lz F r c i else F i))[r]? =some (vq (n+m+1) (lz F r c r)):=by
    rw[ia hr,if_pos (.inl Y)]
   by_cases e:k=r
   ·have s:mq m (λ_=>n+m+1) (λi=>if i=r\/i<k then lz F r c i else F i)=mq m (λ_=>n+m+1) (λi=>if i=r\/i<k+1 then lz F r c i else F i):=mh (λi _=>⟨Y,λ_ _=>by
     by_cases q:i=r\/i<k
     ·rw[if_pos q,if_pos (by omega)]
     rw[if_neg q,if_neg (by omega)]⟩)
    show(some (decide ((k:Int)<(m:Int)))).bind _=_;refine aA (dT (by omega))<|bN Y<|aA (bR (by omega))<|aA gk<|aA (dF (by omega))<|bO<|bt Y<|aA (congrArg some (bQ (by omega))) ?_;rw[s]
   rw[if_neg e]at gk;have rm:=S6 h hL hr hc h0 (o0:=o0) (o1:=o1) (o2:=o2) (o3:=o3) gr hk e;have s:(mq m (λ_=>n+m+1) (λi=>if i=r\/i<k then lz F r c i else F i)).set k (vq (n+m+1) (lz F r c k))=mq m (λ_=>n+m+1) (λi=>if i=r\/i<k+1 then lz F r c i else F i):=by
    rw[Qz hk];refine mh (λi _=>⟨Y,λ_ _=>?_⟩);by_cases q:i=k
    ·subst q;rw[if_pos Y,if_pos (.inr (by omega))]
    rw[if_neg q];by_cases q2:i=r\/i<k
    ·rw[if_pos q2,if_pos (by omega)]
    rw[if_neg q2,if_neg (by omega)]
   rw[<-s];generalize mq m (λ_=>n+m+1) (λi=>if i=r\/i<k then lz F r c i else F i)=rows at*;show(some (decide ((k:Int)<(m:Int)))).bind _=_;exact aA (dT (by omega))<|bN Y<|aA (bR (by omega))<|aA gk<|aA (dT (by omega))<|bO<|bN Y<|aA rm<|aA (bR (by omega))<|aA (eD (by omega))<|aA (congrArg some (bQ (by omega))) Y
  have s:mq m (λ_=>n+m+1) (λi=>if i=r\/i<m then lz F r c i else F i)=mq m (λ_=>n+m+1) (lz F r c):=mh (λi hi=>⟨Y,λ_ _=>by rw[if_pos (.inr hi)]⟩);show(some (decide ((m:Int)<(m:Int)))).bind _=_;rw[s];exact aA (dF (by omega))<|bt Y Y
 unfold cJ;have scM:nC (vq (n+m+1) (F r)) (qn (1/F r c))=some (vq (n+m+1) (lz F r c r)):=by
  unfold nC;generalize qn (1/F r c)=q at*;obtain⟨⟨_,_⟩,⟨_,_⟩⟩:=q;exact aA sc Y
 generalize qn (1/F r c)=q3 at*;generalize qn (F r c)=q2 at*;generalize qn 1=q1 at*;obtain⟨⟨_,_⟩,⟨_,_⟩⟩:=q1;obtain⟨⟨_,_⟩,⟨_,_⟩⟩:=q2;obtain⟨⟨_,_⟩,⟨_,_⟩⟩:=q3;refine aA e1<|aA (bR Kq)<|aA g1<|aA (bK g2)<|aA dv<|aA (bR Kq)<|aA g1<|aA scM<|aA (bR Kq)<|aA st<|aA (congrArg some (by rw[dI])) ?_;refine Eq.trans (congrArg (λG=>(cy _ ((0:Int),mq m (λ_=>n+m+1) G)).bind _) ?_) (loop _ Y);funext i;by_cases e:i=r
 ·rw[if_pos e]
 rw[if_neg e]
theorem CT(h:mS L n m p O F b)(hL:L<=100000000){r c:Nat}(hr:r<m)(hc:c<n+m)(hb:∀j,j<m->b j≠c)(h0:F r c≠0):
  bp true n (mq p (λ_=>n) O) (bq m b) (mq m (λ_=>n+m+1) F) r c=some (0,mq p (λ_=>n) O,bq m (λj=>if j=r then c else b j),mq m (λ_=>n+m+1) (lz F r c)):=by
 have hm:=h.hm;have hn:=h.hn;have sv:=QA h hL hr (show c<n+m+1 by omega) h0 (o0:=true) (o1:=(n:Int)) (o2:=mq p (λ_=>n) O) (o3:=bq m b);have g1:(mq m (λ_=>n+m+1) F)[r]? =some (vq (n+m+1) (F r)):=ia hr;have g2:(vq (n+m+1) (F r))[c]? =some (qn (F r c)):=k7 (by omega);have sg:=((h.f r hr c).rep h.l1).sign (by omega);have Kq:r<(mq m (λ_=>n+m+1) F).length:=by rw[dI];exact hr
 have QN:=iG m b;have bs:=Kt (b:=b) (c:=c) hr;have bg:∀j,j<m->(bq m b)[j]? =some ((b j:Nat):Int):=λj hj=>nP hj;have wd:dP (⟨true,(n:Int),mq p (λ_=>n) O,bq m b,mq m (λ_=>n+m+1) F⟩:Tb)=some ((n+m:Nat):Int):=xd hn hm;have ms:cw (⟨true,(n:Int),mq p (λ_=>n) O,bq m b,mq m (λ_=>n+m+1) F⟩:Tb)=some false:=gV n m p O F b;have rl:=dI m (λ_=>n+m+1) F;unfold bp;rw[<-bs];generalize bq m b=B at*;generalize mq m (λ_=>n+m+1) F=rows at*;refine aA ms<|bt Y<|bO<|aA (dF (by omega))<|aA (a:=false) (bt Y<|aA Y<|aA (dF (by omega)) Y)<|aA (a:=false) (bt Y<|aA (dF (by omega)) Y)<|aA (a:=false) (bt Y<|aA wd<|aA (dF (by omega)) Y)<|bt Y<|aA Y ?_;refine bP (λk=>(k:Int)) m (.inl ()) Y (λk hk=>?_) ?_ ?_
 ·exact aA (dT (by omega))<|bN Y<|aA (bR (by omega))<|aA (bg k hk)<|aA (dF (by have:=hb k hk;omega))<|bt Y<|aA (congrArg some (bQ (by omega))) Y
 ·exact aA (dF (by omega))<|bt Y Y
 generalize qn (F r c)=q at*;obtain⟨⟨_,_⟩,⟨_,_⟩⟩:=q;exact aA (bR Kq)<|aA g1<|aA (bK g2)<|aA sg<|aA (dF (λe=>h0 (lq.1 e)))<|bt Y<|aA sv<|aA (bR (by omega))<|aA (eD (by omega)) Y
end Ym
def rW(n m:Nat)(R:Nat->Nat->Rat)(g:Nat->Rat)(i k:Nat):Rat:=if k<n then R i k else if k=n+i then 1 else if k=n+m then g i else 0
theorem yu(k w:Nat)(G:Nat->Nat->Rat):mq (k+1) (λ_=>w) G=mq k (λ_=>w) G++[vq w (G k)]:=by simp[mq,List.range_succ]
section new
variable {L M K n:Nat}{ob rw:List (List Qr)}{bd:List Qr}{O R:Nat->Nat->Rat}{g:Nat->Rat}
theorem QB{m i:Nat}(hi:i<m):(λj=>if j=n+m then g i else if j=n+i then(1:Rat)else if j<n then R i j else 0)=rW n m R g i:=by
 funext j;unfold rW;by_cases h1:j<n
 ·rw[if_neg (by omega),if_neg (by omega),if_pos h1,if_pos h1]
 rw[if_neg h1,if_neg h1];by_cases h2:j=n+i
 ·rw[if_neg (by omega),if_pos h2,if_pos h2]
 rw[if_neg h2,if_neg h2]
theorem acD(ho:qZ M ob O)(hr:qZ L rw R)(hb:fM K bd g)(hM:M<=4000000000)(hL:L<=4000000000)(hK:K<=4000000000)(hv:CZ n ob rw bd):
  dQ ⟨(n:Int),ob,rw,bd⟩=some (true,(n:Int),mq ob.length (λ_=>n) O,bq rw.length (λj=>n+j),mq rw.length (λ_=>n+rw.length+1) (rW n rw.length R g)):=by
 obtain⟨v1,v2,v3,v4,v5,v6,v7,v8⟩:=hv;have n64:n<=64:=by omega
 have ajw:∀v∈ob,v.length<=n:=rf.1 (by omega);unfold dQ;refine aA Y ?_;refine bP (λk=>((k:Int),mq k (λ_=>n) O)) ob.length (mq ob.length (λ_=>n) O) Y (λk hk=>?_) ?_ ?_
 ·have g1:=jh (d:=[]) hk;have rs:=F2 (ho.row k) (by omega) (by have:=ajw _ (List.mem_of_getElem? g1);omega) (n:Int);rw[show(min (n:Int) 65536).toNat=n by omega]at rs;refine aA (dT (by omega))<|bN Y<|aA (bK g1)<|aA rs<|aA (CG (by decide) (by rw[dI];omega))<|aA (congrArg some (bQ (by omega))) ?_;rw[yu]
 ·exact aA (dF (by omega))<|bt Y Y
 refine aA Y ?_;refine bP (λk=>((k:Int),bq k (λj=>n+j),mq k (λ_=>n+rw.length+1) (rW n rw.length R g))) rw.length (bq rw.length (λj=>n+j),mq rw.length (λ_=>n+rw.length+1) (rW n rw.length R g)) Y (λi hi=>?_) (aA (dF (by omega))<|bt Y Y) Y;obtain⟨q,hq,rq⟩:=hb.get (i:=i) (by omega);have cn:=(rq.canon (by omega)).1;have e1:=one_eq.1;have wl:IntKind.i64.wrap ((n:Int)+(rw.length:Int))=((n+rw.length:Nat):Int):=by rw[cQ (by omega) (by omega)];omega
 have wl2:IntKind.i64.wrap (((n+rw.length:Nat):Int)+1)=((n+rw.length+1:Nat):Int):=bQ (by omega);have wi:IntKind.i64.wrap ((n:Int)+(i:Int))=((n+i:Nat):Int):=by rw[cQ (by omega) (by omega)];omega
 refine aA (dT (by omega))<|bN Y<|aA Y<|aA (congrArg some wl)<|aA (congrArg some wl2)<|aA (Qv (n+rw.length+1) (by omega)) ?_;rw[Bk];refine bP (λk=>((k:Int),vq (n+rw.length+1) (λj=>if j<k then R i j else 0))) n (vq (n+rw.length+1) (λj=>if j<n then R i j else 0)) (by simp) (λk hk=>?_) (aA (dF (by omega))<|bt Y Y) ?_
 ·have at_:=Yi hr (by omega) i k;have s:=ri (k:=n+rw.length+1) (j:=k) (h:=λj=>if j<k then R i j else 0) (x:=R i k) (by omega);have s2:vq (n+rw.length+1) (λj=>if j=k then R i k else if j<k then R i j else 0)=vq (n+rw.length+1) (λj=>if j<k+1 then R i j else 0):=gU (λj _=>by
   by_cases e:j=k
   ·subst e;simp
   rw[if_neg e];by_cases e2:j<k
   ·rw[if_pos e2,if_pos (by omega)]
   rw[if_neg e2,if_neg (by omega)])
  rw[s2]at s;have hl:=cM (n+rw.length+1) (λj=>if j<k then R i j else 0);rw[<-s];generalize vq (n+rw.length+1) (λj=>if j<k then R i j else 0)=l at*;clear s s2;generalize qn (R i k)=q at*;obtain⟨⟨_,_⟩,⟨_,_⟩⟩:=q;exact aA (dT (by omega))<|bN Y<|aA at_<|aA (bR (by omega))<|aA (eD (by omega))<|aA (congrArg some (bQ (by omega))) Y
 have s1:=ri (k:=n+rw.length+1) (j:=n+i) (h:=λj=>if j<n then R i j else 0) (x:=1) (by omega);have s2:=ri (k:=n+rw.length+1) (j:=n+rw.length) (h:=λj=>if j=n+i then 1 else if j<n then R i j else 0) (x:=g i) (by omega);rw[QB hi]at s2;have Vg:=cM (n+rw.length+1) (λj=>if j<n then R i j else 0);have hl2:=cM (n+rw.length+1) (λj=>if j=n+i then 1 else if j<n then R i j else 0);have b1:=iG i (λj=>n+j);have b2:=S3 i (λj=>n+j);have m1:=dI i (λ_=>n+rw.length+1) (rW n rw.length R g);have m2:=yu i (n+rw.length+1) (rW n rw.length R g);have st1:=eD (y:=qn 1) (show n+i<(vq (n+rw.length+1) (λj=>if j<n then R i j else 0)).length by omega);have st2:=eD (y:=qn (g i)) (show n+rw.length<(vq (n+rw.length+1) (λj=>if j=n+i then 1 else if j<n then R i j else 0)).length by omega);rw[s1]at st1;rw[s2]at st2;generalize vq (n+rw.length+1) (λj=>if j<n then R i j else 0)=l1 at*;generalize vq (n+rw.length+1) (λj=>if j=n+i then 1 else if j<n then R i j else 0)=l2 at*;generalize vq (n+rw.length+1) (rW n rw.length R g i)=l3 at*;generalize qn (g i)=q' at*;generalize qn 1=q1 at*;obtain⟨⟨_,_⟩,⟨_,_⟩⟩:=q;obtain⟨⟨_,_⟩,⟨_,_⟩⟩:=q';obtain⟨⟨_,_⟩,⟨_,_⟩⟩:=q1
 refine aA (congrArg some wi)<|aA e1<|aA (bR (by omega))<|aA st1<|aA Y<|aA (congrArg some (show IntKind.i64.wrap ((l2.length:Int)-1)=((n+rw.length:Nat):Int) by rw[hl2,cQ (by omega) (by omega)];omega))<|aA (bK hq)<|aA cn<|aA (bR (by omega))<|aA st2<|aA (CG (by decide) (by omega))<|aA (congrArg some wi)<|aA (CG (by decide) (by omega))<|aA (congrArg some (bQ (by omega))) ?_;rw[b2,m2]
theorem F5(ho:qZ L ob O)(hr:qZ L rw R)(hb:fM L bd g)(hL:2<=L)(hv:CZ n ob rw bd):mS L n rw.length ob.length O (rW n rw.length R g) (λj=>n+j):=by
 obtain⟨v1,v2,v3,v4,v5,v6,v7,v8⟩:=hv;refine⟨λi hi k=>?_,λi hi k=>(ho.row i).fq k,λi hi k hk=>?_,by omega,by omega,by omega,by omega,λj hj=>by show n+j<_;omega⟩
 ·unfold rW;split
  ·exact(hr.row i).fq k
  split
  ·exact one_eq.2.fq.mono hL
  split
  ·exact hb.fq i
  exact uP (by omega)
 unfold rW;rw[if_neg (by omega),if_neg (by omega),if_neg (by omega)]
theorem acE(ho:qZ M ob O)(hr:qZ L rw R)(hb:fM K bd g)(hM:M<=4000000000)(hL:L<=4000000000)(hK:K<=4000000000)(hv:CZ n ob rw bd):
  g9 ⟨(n:Int),ob,rw,bd⟩=some (true,(n:Int),mq ob.length (λ_=>n) O,bq rw.length (λj=>n+j),mq rw.length (λ_=>n+rw.length+1) (rW n rw.length R g)):=by
 have v:=IK (n:=(n:Int)) (ob:=ob) (rw:=rw) (bd:=bd) (by obtain⟨_,_,_,h,_⟩:=hv;omega) (by obtain⟨_,_,_,_,h,_⟩:=hv;omega);rw[decide_eq_true hv]at v;unfold g9;exact aA v<|aA Y<|bt Y<|aA (acD ho hr hb hM hL hK hv) Y
end new
end
end Go.Proofs.YtningmnklfpfjaaGreat
