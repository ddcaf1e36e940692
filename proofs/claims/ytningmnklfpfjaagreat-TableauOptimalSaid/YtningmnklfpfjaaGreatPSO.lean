/- The law TableauOptimal answers true for every input. -/
import Derived.Test.YtningmnklfpfjaaGreatPSO3
set_option linter.unusedVariables false
set_option linter.unusedSimpArgs false
set_option linter.unusedSectionVars false
namespace Go.Proofs.YtningmnklfpfjaaGreat
section
open Go.Fw Go.Fw.Z Go.RowKit
theorem Cw{x0:List Int}{x1:List Int}{r:Bool}(h:kX x0 x1=some r):Pure ah 45 [slc 1 (List.map cM x0),slc 1 (List.map cM x1)] (az r):=by
 refine bw Tryz.func45 Y (af Y) (λee M vs hvs=>?_);unfold kX at h;refine sr<|ag Y<|dn<|qq<|sr<|mv Y<|lE h λx7 h7 h=>ln Y h7<|mv Y<|lE h λx9 h9 h=>ln Y h9<|lE h λef gV h=>ne _ Y Y (G4 (p:=x7) (q:=x9) gV)<|dn ?_;cases ef;refine fs<|qq<|sr<|ag Y<|dn<|bE (F h) λe6 Fv nx=>?_;refine bV (λ(DK:Unit)=>AS.cI 26 [] [] []) (λDK=>.inl DK=e6) ?_ (λDK Fx=>?_);refine bj ?_;refine bW Fv (λs6=>AS.cI 26 [(0,.sv (slc 1 (List.map cM x0))),(1,.sv (slc 1 (List.map cM x1))),(5,ai s6)] [] []) (wR []) (λrJ y6 G6 h Fy AE=>?_)
 try dsimp only
 refine qq<|sr<|mv Y<|mv Y<|lE h λiW kJ h=>ln Y kJ<|lE h λfC lz h=>ls _ Y Y lz<|dn ?_;cases fC;refine cF<|cc<|aV.x<|aV.x<|bG.x<|aV.n ?_;obtain rfl:=O (F h);exact⟨(),AE _ Y,wR []⟩;refine cT<|bA<|aV.n<|qq<|bj<|qq<|bf mixed<|mv Y<|mv Y<|bE (V h) λnk oG h=>ix Y Y oG<|lr Y Y<|mv Y<|mv Y<|bE h λjT sD h=>ix Y Y sD<|lr Y Y<|lE h λyH xP h=>ne _ Y Y (G4 (p:=nk) (q:=jT) xP) ?_;refine RT.done ⟨by kernel_rfl,?_⟩;refine aV.n ?_;cases yH;refine cF<|bA<|bG.n<|aV.n<|aW<|mv Y<|lE (F h) λgX lC h=>ad _ Y Y lC<|ag Y<|RT.done ?_;obtain rfl:=O h;exact aV.n ⟨gX,Fy _ Y,wR []⟩;refine cT<|sr<|ag Y<|dn<|bh<|bG.r<|aV.r ?_;obtain rfl:=O (V h);have Mc:=AE _ Y;subst Mc;refine aV.r<|bG.r<|aV.r<|aV.r ?_;obtain rfl:=O nx;exact R1 Y;subst Fx
 try dsimp only
 refine aV.n<|sr<|ag Y<|dn<|bh ?_;obtain rfl:=O nx;exact R1 Y;refine cT<|sr<|ag Y<|dn<|bh<|aV.r ?_;obtain rfl:=O (V h);exact R1 Y
set_option maxHeartbeats 4000000 in
theorem fe{r:Bool}(h:ei=some r):Pure ah 10 [] (az r):=by
 refine bw Tryz.func10 Y (af Y) (λee M vs hvs=>?_);unfold ei at h;refine sr<|ag Y<|dn<|sr ?_;obtain⟨⟨YN,YO,YP,YQ⟩,h6,h⟩:=bS h;refine cl (Bu h6) trivial ?_;obtain⟨⟨uy,uz,Kt,Ku,Kv⟩,h7,h⟩:=bS h;refine RT.I2 .none (tf h7) [304,305,306] (by decide) Y ⟨⟨Y,T⟩,⟨Y,T⟩,⟨Y,T⟩,aq⟩ Y ⟨Y,aq⟩ T Y Y<|mo (s:=.cmp _ _) Y<|RT.wW .none Y Y T<|RT.wW .none Y Y T<|an (s:=.ptr _ _) Y<|ag Y<|dn<|qq<|qq ?_;refine bK h (λUL=>AS.cI 96 [(1,.ptr 7 0),(38,aj UL)] [(7,⟨79,[aj uy,ai uz,.row 304,.row 305,.row 306]⟩)] [(304,TR 23 1 (eS 4 eQ) Kt),(305,TR 3 1 cM Ku),(306,TR 23 1 (eS 4 eQ) Kv)]) (λh=>?_) (λNp h=>?_);refine aW<|mv Y<|ne false Y Y (by decide)<|mv Y<|bE h λNs Ek h=>RT.move (.some Y Y) (s:=.ptr _ _) Y T<|RT.MI (.some Y Y) Y Y T ?_;obtain rfl:=O (F Ek);refine pF Y<|mv Y<|bE h λaeT w6 h=>RT.move (.some Y Y) (s:=.ptr _ _) Y T<|bE (F w6) λfS kA w6=>RT.iO (.some Y Y) (Eg kA) 7 [304,305,306] Y ⟨Y,Y,Y,aq⟩ (by decide) Y Y (.cons Y (.nil)) T<|RT.eK (l:=[2,3,4]) (e:=cM) (.some Y Y) (.one Y (.one Y (.one Y (.nil)))) T Y Y Y Y Y Y<|bE w6 λjc pO w6=>gc (Cw pO) ⟨Y,Y,aq⟩<|lE w6 λgN oH w6=>KO Y _ oH ?_;obtain rfl:=O w6;refine pF Y<|mv Y<|bE h λaeU Cx h=>?_;cases gN
 refine RT.move (.some Y Y) (s:=.ptr _ _) Y T<|bE (F Cx) λyH xP Cx=>RT.iO (.some Y Y) (vG xP) 7 [304,305,306] Y ⟨Y,Y,Y,aq⟩ (by decide) Y Y (.cons Y (.nil)) T<|RT.eK (l:=[4,12,18]) (e:=cM) (.some Y Y) (.one Y (.one Y (.one Y (.nil)))) T Y Y Y Y Y Y<|bE Cx λlD tW Cx=>gc (dM tW) ⟨Y,aq⟩<|bE Cx λnT wH Cx=>gc (fE wH) ⟨Y,Y,aq⟩<|lE Cx λiG nm Cx=>KO Y _ nm ?_;obtain rfl:=O Cx;refine pF Y<|mv Y<|bE h λaeV Cy h=>?_;cases iG;refine RT.move (.some Y Y) (s:=.ptr _ _) Y T<|bE (F Cy) λtO zR Cy=>RT.iO (.some Y Y) (vH zR) 7 [304,305,306] Y ⟨Y,Y,Y,aq⟩ (by decide) Y Y (.k2 Y Y) T<|RT.eK (l:=[(-3),1,0]) (e:=cM) (.some Y Y) (.one Y (.one Y (.one Y (.nil)))) T Y Y Y Y Y Y<|bE Cy λrN AF Cy=>gc (dM AF) ⟨Y,aq⟩<|bE Cy λrB wL Cy=>gc (fE wL) ⟨Y,Y,aq⟩<|lE Cy λxo FA Cy=>?_;refine KO Y _ FA ?_;obtain rfl:=O Cy;exact pF Y<|dn<|⟨xo,h,wR []⟩;obtain rfl:=O (V Cy);exact ww<|ww<|ww<|ww<|ww<|ww<|pT Y<|dn<|⟨true,h,wR []⟩;obtain rfl:=O (V Cx);refine ww<|ww<|ww<|ww<|ww<|ww<|pT Y<|mv Y<|bE h λaeW aeX h=>?_;obtain rfl:=O (V aeX);exact ww<|ww<|ww<|ww<|ww<|ww<|pT Y<|dn<|⟨true,h,wR []⟩
 try dsimp only
 refine aV.n ?_;cases Np;refine fs<|sr<|mo (s:=.ptr _ _) Y ?_;obtain⟨⟨lu,Wr,OE,Ws⟩,rC,h⟩:=bS (F h);refine RT.I0 .none (gH rC) 7 [304,305,306] [310,311,312] Y ⟨Y,Y,Y,aq⟩ (by decide) (by decide) Y ⟨⟨Y,T⟩,⟨Y,T⟩,⟨Y,T⟩,aq⟩ Y Y (.k3 Y Y Y) T<|ag Y<|dn<|qq<|qq ?_;refine bK h (λRj=>AS.cI 96 [(1,.ptr 7 0),(62,aj Rj)] [(7,⟨79,[aj uy,ai uz,.row 310,.row 311,.row 312]⟩)] [(310,TR 23 1 (eS 4 eQ) Wr),(311,TR 3 1 cM OE),(312,TR 23 1 (eS 4 eQ) Ws)]) (λh=>?_) (λIh h=>?_);refine aW<|mv Y<|lE h λsj DM h=>ne _ Y Y (G4 (p:=lu) (q:=0) DM)<|mv Y<|bE h λNr zx h=>?_;cases sj;refine RT.move (.some Y Y) (s:=.ptr _ _) Y T<|bE (F zx) λDB Me zx=>RT.iO (.some Y Y) (vG Me) 7 [310,311,312] Y ⟨Y,Y,Y,aq⟩ (by decide) Y Y (.cons Y (.nil)) T<|RT.eK (l:=[4,6,6]) (e:=cM) (.some Y Y) (.one Y (.one Y (.one Y (.nil)))) T Y Y Y Y Y Y<|bE zx λtK ze zx=>gc (dM ze) ⟨Y,aq⟩<|bE zx λtL h48 zx=>gc (fE h48) ⟨Y,Y,aq⟩<|lE zx λWc XN zx=>KO Y _ XN ?_;obtain rfl:=O zx;refine pF Y<|mv Y<|bE h λaeY ux h=>?_;cases Wc
 refine RT.move (.some Y Y) (s:=.ptr _ _) Y T<|bE (F ux) λSx T7 ux=>RT.iO (.some Y Y) (qR T7) 7 [310,311,312] Y ⟨Y,Y,Y,aq⟩ (by decide) Y Y (.cons Y (.nil)) T<|RT.eK (l:=[30,0,(-6)]) (e:=cM) (.some Y Y) (.one Y (.one Y (.one Y (.nil)))) T Y Y Y Y Y Y<|bE ux λy7 Mh ux=>gc (dM Mh) ⟨Y,aq⟩<|bE ux λEH Mg ux=>gc (fE Mg) ⟨Y,Y,aq⟩<|lE ux λPg XO ux=>KO Y _ XO ?_;obtain rfl:=O ux;refine pF Y<|mv Y<|bE h λaeZ Gz h=>?_;cases Pg;refine RT.move (.some Y Y) (s:=.ptr _ _) Y T<|bE (F Gz) λHx T3 Gz=>RT.iO (.some Y Y) (om T3) 7 [310,311,312] Y ⟨Y,Y,Y,aq⟩ (by decide) Y Y (.cons Y (.nil)) T ?_;obtain rfl:=O Gz;exact pF Y<|dn<|⟨Hx,h,wR []⟩;obtain rfl:=O (V Gz);exact ww<|ww<|pT Y<|dn<|⟨true,h,wR []⟩;obtain rfl:=O (V ux);refine ww<|ww<|ww<|ww<|ww<|ww<|pT Y<|mv Y<|bE h λae0 zw h=>?_;obtain rfl:=O (V zw);exact ww<|ww<|pT Y<|dn<|⟨true,h,wR []⟩;obtain rfl:=O (V zx);refine ww<|ww<|ww<|ww<|ww<|ww<|pT Y<|mv Y<|bE h λae1 Ct h=>?_;obtain rfl:=O (V Ct);refine ww<|ww<|ww<|ww<|ww<|ww<|pT Y<|mv Y<|bE h λae2 Gx h=>?_;obtain rfl:=O (V Gx);exact ww<|ww<|pT Y<|dn<|⟨true,h,wR []⟩
 try dsimp only
 refine aV.n ?_;cases Ih;refine fs<|sr<|mo (s:=.ptr _ _) Y ?_;obtain⟨⟨KU,Wt,Wu,Wv⟩,h64,h⟩:=bS (F h);refine RT.I0 .none (gH h64) 7 [310,311,312] [316,317,318] Y ⟨Y,Y,Y,aq⟩ (by decide) (by decide) Y ⟨⟨Y,T⟩,⟨Y,T⟩,⟨Y,T⟩,aq⟩ Y Y (.k3 Y Y Y) T<|ag Y<|dn<|qq ?_;refine bK h (λQ0=>AS.cI 96 [(0,aj Q0)] [] []) (λh=>?_) (λSF h=>?_);refine aW<|mv Y<|lE h λG5 T4 h=>eq _ Y Y (wj (p:=KU) (q:=0) T4)<|mv Y<|bE h λNq GA h=>?_;cases G5;obtain rfl:=O (F GA);refine ww<|ww<|ww<|ww<|ww<|pF Y<|mv Y<|bE h λae4 Kr h=>?_;obtain rfl:=O (F Kr);refine ww<|ww<|ww<|ww<|ww<|pF Y<|mv Y<|bE h λae5 Ks h=>?_;obtain rfl:=O (F Ks);refine ww<|ww<|ww<|ww<|ww<|pF Y<|mv Y<|bE h λae6 vJ h=>?_;obtain rfl:=O (F vJ);refine ww<|ww<|pF Y<|mv Y<|bE h λae7 Cv h=>?_;obtain rfl:=O (F Cv);exact ww<|ww<|pF Y<|ag Y<|dn<|⟨false,h,wR []⟩;refine RT.move (.some Y Y) (s:=.ptr _ _) Y T<|bE (V GA) λHA T5 GA=>RT.iO (.some Y Y) (vG T5) 7 [316,317,318] Y ⟨Y,Y,Y,aq⟩ (by decide) Y Y (.cons Y (.nil)) T<|RT.eK (l:=[2,6,2]) (e:=cM) (.some Y Y) (.one Y (.one Y (.one Y (.nil)))) T Y Y Y Y Y Y<|bE GA λYp h71 GA=>gc (dM h71) ⟨Y,aq⟩<|bE GA λJ2 T8 GA=>gc (fE T8) ⟨Y,Y,aq⟩ ?_;obtain rfl:=O GA;refine pT Y<|mv Y<|bE h λae8 GB h=>?_;cases J2;obtain rfl:=O (F GB)
 refine ww<|ww<|ww<|ww<|ww<|pF Y<|mv Y<|bE h λae9 Bv h=>?_;obtain rfl:=O (F Bv);refine ww<|ww<|ww<|ww<|ww<|pF Y<|mv Y<|bE h λafa Gw h=>?_;obtain rfl:=O (F Gw);refine ww<|ww<|pF Y<|mv Y<|bE h λafb Bw h=>?_;obtain rfl:=O (F Bw);exact ww<|ww<|pF Y<|ag Y<|dn<|⟨false,h,wR []⟩;refine RT.move (.some Y Y) (s:=.ptr _ _) Y T<|bE (V GB) λWw Yw GB=>RT.iO (.some Y Y) (rH Yw) 7 [316,317,318] Y ⟨Y,Y,Y,aq⟩ (by decide) Y Y (.cons Y (.nil)) T<|RT.eK (l:=[2,6]) (e:=cM) (.some Y Y) (.one Y (.one Y (.nil))) T Y Y Y Y Y Y<|bE GB λx78 h78 GB=>gc (dM h78) ⟨Y,aq⟩<|bE GB λPk XT GB=>gc (fE XT) ⟨Y,Y,aq⟩ ?_;obtain rfl:=O GB;refine pT Y<|mv Y<|bE h λafc GC h=>?_;cases Pk;obtain rfl:=O (F GC);refine ww<|ww<|ww<|ww<|ww<|pF Y<|mv Y<|bE h λafd Gu h=>?_;obtain rfl:=O (F Gu);refine ww<|ww<|pF Y<|mv Y<|bE h λafe Gv h=>?_;obtain rfl:=O (F Gv);exact ww<|ww<|pF Y<|ag Y<|dn<|⟨false,h,wR []⟩;refine RT.move (.some Y Y) (s:=.ptr _ _) Y T<|bE (V GC) λYR h83 GC=>RT.iO (.some Y Y) (qR h83) 7 [316,317,318] Y ⟨Y,Y,Y,aq⟩ (by decide) Y Y (.cons Y (.nil)) T<|RT.eK (l:=[36,(-2),(-6)]) (e:=cM) (.some Y Y) (.one Y (.one Y (.one Y (.nil)))) T Y Y Y Y Y Y<|bE GC λXp h85 GC=>gc (dM h85) ⟨Y,aq⟩<|bE GC λOB XU GC=>gc (fE XU) ⟨Y,Y,aq⟩ ?_
 obtain rfl:=O GC;refine pT Y<|mv Y<|bE h λafg PO h=>?_;cases OB;obtain rfl:=O (F PO);refine ww<|ww<|pF Y<|mv Y<|bE h λafh afi h=>?_;obtain rfl:=O (F afi);exact ww<|ww<|pF Y<|ag Y<|dn<|⟨false,h,wR []⟩;refine RT.move (.some Y Y) (s:=.ptr _ _) Y T<|bE (V PO) λWd h90 PO=>RT.iO (.some Y Y) (om h90) 7 [316,317,318] Y ⟨Y,Y,Y,aq⟩ (by decide) Y Y (.cons Y (.nil)) T ?_;obtain rfl:=O PO;refine pT Y<|mv Y<|bE h λafj PR h=>?_;cases Wd;obtain rfl:=O (F PR);exact ww<|ww<|pF Y<|ag Y<|dn<|⟨false,h,wR []⟩;refine RT.move (.some Y Y) (s:=.ptr _ _) Y T<|bE (V PR) λx94 h94 PR=>RT.iO (.some Y Y) (mZ h94) 7 [316,317,318] Y ⟨Y,Y,Y,aq⟩ (by decide) Y Y (.cons Y (.nil)) T ?_;obtain rfl:=O PR;exact pT Y<|ag Y<|dn<|⟨x94,h,wR []⟩
 try dsimp only
 refine aV.n<|bh ?_;obtain rfl:=O h;exact R1 Y;refine cT<|sr<|ag Y<|dn<|bh<|aV.r ?_;obtain rfl:=O (V h);exact R1 Y;refine cT<|sr<|ag Y<|dn<|bh<|aV.r ?_;obtain rfl:=O (V h);exact R1 Y
end
section
open Go.Fw
noncomputable def oq(x0:Lr):Option (Unit):=match x0 with|⟨bp,bt,bB,bF⟩=>(fB ⟨bp,bt,bB,bF⟩).bind λx5=>(some (!x5)).bind λx6=>(bif x6 then some ()else(dW ⟨bp,bt,bB,bF⟩).bind λ⟨vp,vr,AQ,AR,PD⟩=>none)
noncomputable def jC(x0:Lr):Option (Bool):=match x0 with|⟨bp,bt,bB,bF⟩=>cK (λ(SG:Bool)=>some SG) λKP=>(kW ⟨bp,bt,bB,bF⟩).bind λx4=>(bif x4 then some true else(some (bB.length:Int)).bind λx8=>(some (decide ((5:Int)<x8))).bind λx9=>(bif x9 then(ku ⟨bp,bt,bB,bF⟩).bind λdP=>some dP else some false).bind λNt=>some Nt).bind λxJ=>(bif xJ then some true else(some (decide ((6:Int)<bp))).bind λfS=>(bif fS then(ku ⟨bp,bt,bB,bF⟩).bind λgN=>some gN else some false).bind λVj=>some Vj).bind λEj=>KP Ej
end
section
open Go.Fw Go.Fw.Z Go.RowKit
theorem GD{x0:Lr}{r:Unit}(h:oq x0=some r):Pure ah 12 [.agg (Dw x0)] (.yu [.v (.pointer none),ay 1]):=by
 obtain⟨bp,bt,bB,bF⟩:=x0;refine bw Tryz.func12 Y (af Y) (λee M vs hvs=>?_);unfold oq at h;refine sr<|bx Y<|ag Y<|ag Y<|dn<|qq<|sr<|ld Y Y (.k4 Y Y Y Y)<|bE h λx5 h5 h=>cl (oX h5) ⟨Y,aq⟩<|lE h λx6 h6 h=>nt Y _ h6<|dn ?_;cases x6;refine fs<|sr<|ld Y Y (.k4 Y Y Y Y) ?_;obtain⟨⟨vp,vr,AQ,AR,PD⟩,h8,h⟩:=bS (F h);refine RT.MJ .none (lG h8) [304,305,306] (by decide) Y ⟨⟨Y,T⟩,⟨Y,T⟩,⟨Y,T⟩,aq⟩ Y ⟨Y,aq⟩ T Y Y<|an (s:=.ptr _ _) Y<|ag Y<|dn<|bh ?_;cases h;refine cT<|sr<|ag Y<|ag Y<|dn<|bh<|aV.r ?_;obtain rfl:=O (V h);exact R2 Y Y
theorem uR{x0:Lr}{r:Bool}(h:jC x0=some r):Pure ah 9 [.agg (Dw x0)] (az r):=by
 obtain⟨bp,bt,bB,bF⟩:=x0;refine bw Tryz.func9 Y (af Y) (λee M vs hvs=>?_);unfold jC at h;refine sr<|bx Y<|ag Y<|dn<|qq ?_;refine bK h (λJ4=>AS.cI 24 [(2,aj J4)] [] []) (λh=>?_) (λSG h=>?_);refine aW<|ld Y Y (.k4 Y Y Y Y)<|bE h λx4 h4 h=>cl (Cs h4) ⟨Y,aq⟩<|mv Y<|bE h λxJ eD h=>?_;cases x4;refine RT.fieldAddr (.some Y Y) Y T Y<|RT.rI (.some Y Y) Y Y Y T<|lE (F eD) λx8 h8 eD=>gn Y h8<|lE eD λx9 h9 eD=>gg _ Y Y h9<|gm Y<|bE eD λNt PS eD=>?_;cases x9;obtain rfl:=O (F PS);refine ww<|ww<|gF Y ?_;obtain rfl:=O eD;refine pF Y<|mv Y<|bE h λafk mY h=>RT.fieldAddr (.some Y Y) Y T Y<|RT.rI (.some Y Y) Y Y Y T<|lE (F mY) λfS kA mY=>gg _ Y Y kA<|gm Y<|bE mY λVk uu mY=>?_;cases fS;obtain rfl:=O (F uu);refine ww<|ww<|gF Y ?_;obtain rfl:=O mY;exact pF Y<|ag Y<|dn<|⟨false,h,wR []⟩;refine gl Y Y (.k4 Y Y Y Y)<|bE (V uu) λgN oH uu=>gc (qS oH) ⟨Y,aq⟩ ?_;obtain rfl:=O uu;refine gT Y ?_;obtain rfl:=O mY;exact pF Y<|ag Y<|dn<|⟨gN,h,wR []⟩;refine gl Y Y (.k4 Y Y Y Y)<|bE (V PS) λdP gu PS=>gc (qS gu) ⟨Y,aq⟩ ?_;obtain rfl:=O PS;refine gT Y ?_;obtain rfl:=O eD;refine pF Y<|mv Y<|bE h λafl Ii h=>?_;cases dP
 refine RT.fieldAddr (.some Y Y) Y T Y<|RT.rI (.some Y Y) Y Y Y T<|lE (F Ii) λfS kA Ii=>gg _ Y Y kA<|gm Y<|bE Ii λafm mF Ii=>?_;cases fS;obtain rfl:=O (F mF);refine ww<|ww<|gF Y ?_;obtain rfl:=O Ii;exact pF Y<|ag Y<|dn<|⟨false,h,wR []⟩;refine gl Y Y (.k4 Y Y Y Y)<|bE (V mF) λgN oH mF=>gc (qS oH) ⟨Y,aq⟩ ?_;obtain rfl:=O mF;refine gT Y ?_;obtain rfl:=O Ii;exact pF Y<|ag Y<|dn<|⟨gN,h,wR []⟩;obtain rfl:=O (V Ii);exact ww<|ww<|ww<|ww<|wu<|wu<|ww<|pT Y<|ag Y<|dn<|⟨true,h,wR []⟩;obtain rfl:=O (V eD);refine ww<|ww<|ww<|ww<|ww<|wu<|wu<|ww<|pT Y<|mv Y<|bE h λUM Ck h=>?_;obtain rfl:=O (V Ck);exact ww<|ww<|ww<|ww<|wu<|wu<|ww<|pT Y<|ag Y<|dn<|⟨true,h,wR []⟩
 try dsimp only
 refine aV.n<|bh ?_;obtain rfl:=O h;exact R1 Y
end
section
open Go.Fw
noncomputable def fo(x0:Lr)(x1:List Pv)(x2:List Qr):Option (Bool):=match x0 with|⟨bp,bt,bB,bF⟩=>cK (λ(By:Bool)=>(bif By then(ei).bind λjT=>some jT else(gG ⟨bp,bt,bB,bF⟩).bind λ⟨n8,n9,AZ,A0,Nu⟩=>cK (λ(Nv:Bool)=>(bif Nv then cK (λ(SH:Bool)=>some SH) λK18=>(bif false then none else some false).bind λNw=>(bif Nw then(ei).bind λrK=>some rK else some false).bind λVl=>K18 Vl else(cy (λ(OF:Int×(List (List Qr))×(List Int)×(List (List Qr)))=>match OF with|⟨uS,qT,qV,qW⟩=>(show Option ((Int×(List (List Qr))×(List Int)×(List (List Qr)))⊕((List (List Qr))×(List Int)×(List (List Qr))))from(some (x1.length:Int)).bind λtK=>(some (decide ((uS:Int)<tK))).bind λtL=>(bif tL then(cZ x1 uS).bind λ⟨Jd,SI⟩=>(cZ x1 uS).bind λ⟨C2,yP⟩=>(bD n8 n9 qT qV qW Jd yP).bind λ⟨x62,YS,J1,YT⟩=>(some (IntKind.i64.wrap (uS+1))).bind λum=>some (.inl (um,YS,J1,YT))else some (.inr (qT,qV,qW))))) (0,AZ,A0,Nu)).bind λe33=>match e33 with|⟨qX,qY,qZ⟩=>(fU (⟨n8,n9,qX,qY,qZ⟩:Tb)).bind λKU=>cK (λ(Ij:Bool)=>(bif Ij then some false else cK (λ(SJ:Bool)=>some SJ) λK66=>(eY (⟨n8,n9,qX,qY,qZ⟩:Tb)).bind λXq=>(some (!Xq)).bind λTO=>(bif TO then some true else(fM (⟨n8,n9,qX,qY,qZ⟩:Tb)).bind λx96=>(some (!x96)).bind λWe=>some We).bind λNx=>(bif Nx then some true else(fL ⟨bp,bt,bB,bF⟩ x2).bind λL3=>(some (!L3)).bind λCb=>some Cb).bind λPT=>(bif PT then some true else(kR ⟨bp,bt,bB,bF⟩ x2 KU).bind λYU=>(some (decide ((YU:Int)<0))).bind λVm=>some Vm).bind λPU=>(bif PU then some true else(dy x2 KU).bind λVn=>some Vn).bind λPV=>(bif PV then(ei).bind λBz=>some Bz else some false).bind λPW=>K66 PW)) λK45=>(some (KU.length:Int)).bind λG5=>(some (decide ((G5:Int)≠bp))).bind λHA=>(bif HA then some true else(eY (⟨n8,n9,qX,qY,qZ⟩:Tb)).bind λJ2=>(fL ⟨bp,bt,bB,bF⟩ KU).bind λx75=>(some (!(J2==x75))).bind λWw=>some Ww).bind λNy=>(bif Ny then some true else(ir (⟨n8,n9,qX,qY,qZ⟩:Tb)).bind λx80=>(kS ⟨bp,bt,bB,bF⟩ KU).bind λYR=>(cD (-1)).bind λ⟨⟨SK,SL⟩,⟨SM,SN⟩⟩=>(jo ⟨⟨SK,SL⟩,⟨SM,SN⟩⟩ KU).bind λOB=>(zJ 64 YR OB).bind λOC=>(dy x80 OC).bind λx88=>(some (!x88)).bind λTN=>some TN).bind λVo=>K45 Vo)) λK9=>(bif false then none else some false).bind λNz=>K9 Nz)) λK6=>(jC ⟨bp,bt,bB,bF⟩).bind λdP=>(bif dP then some true else(some (x1.length:Int)).bind λeI=>(some (decide ((12:Int)<eI))).bind λgX=>some gX).bind λNA=>(bif NA then some true else(gy [x2]).bind λgN=>some gN).bind λVp=>K6 Vp
noncomputable def fu(x0:Lr)(x1:List Pv)(x2:List Qr):Option (Bool):=match x0 with|⟨bp,bt,bB,bF⟩=>cK (λ(By:Bool)=>(bif By then(ei).bind λjT=>some jT else(oq ⟨bp,bt,bB,bF⟩).bind λ_=>cK (λ(SO:Bool)=>some SO) λUW=>(fB ⟨bp,bt,bB,bF⟩).bind λsq=>(some (!sq)).bind λlu=>(bif lu then(ei).bind λrK=>some rK else some false).bind λNB=>UW NB)) λK6=>(jC ⟨bp,bt,bB,bF⟩).bind λdP=>(bif dP then some true else(some (x1.length:Int)).bind λeI=>(some (decide ((12:Int)<eI))).bind λgX=>some gX).bind λNC=>(bif NC then some true else(gy [x2]).bind λgN=>some gN).bind λVq=>K6 Vq
noncomputable def fF(x0:Lr)(x1:List Pv)(x2:List Qr):Option (Bool):=if fB x0=some true then fo x0 x1 x2 else fu x0 x1 x2
end
section
open Go.Fw Go.Fw.Z Go.RowKit
set_option maxHeartbeats 4000000 in
theorem pC{x0:Lr}{x1:List Pv}{x2:List Qr}{r:Bool}(h:fo x0 x1 x2=some r):Pure ah 6 [.agg (Dw x0),slc 2 (List.map Ow x1),slc 4 (List.map eQ x2)] (az r):=by
 obtain⟨bp,bt,bB,bF⟩:=x0;refine bw Tryz.func6 Y (af Y) (λee M vs hvs=>?_);unfold fo at h;refine sr<|bx Y<|ag Y<|dn<|qq<|qq ?_;refine bK h (λj6=>AS.cI 120 [(1,.sv (slc 2 (List.map Ow x1))),(2,.sv (slc 4 (List.map eQ x2))),(3,.ptr 3 0),(22,aj j6)] [(3,⟨25,[ai bp,.sv (slc 1 (List.map (eS 4 eQ) bt)),.sv (slc 1 (List.map (eS 4 eQ) bB)),.sv (slc 4 (List.map eQ bF))]⟩)] []) (λh=>?_) (λBy h=>?_);refine aW<|ld Y Y (.k4 Y Y Y Y)<|bE h λdP gu h=>cl (uR gu) ⟨Y,aq⟩<|mv Y<|bE h λNA Kw h=>?_;cases dP;refine gm Y<|lE (F Kw) λeI jh Kw=>gn Y jh<|lE Kw λgX lC Kw=>gg _ Y Y lC ?_;obtain rfl:=O Kw;refine pF Y<|mv Y<|bE h λafo PX h=>?_;cases gX;refine gm Y<|RT.eK (l:=[x2]) (e:=(eS 4 eQ)) (.some Y Y) (.one Y (.nil)) T Y Y Y Y Y Y<|bE (F PX) λgN oH PX=>gc (gI oH) ⟨Y,aq⟩ ?_;obtain rfl:=O PX;exact pF Y<|dn<|⟨gN,h,wR []⟩;obtain rfl:=O (V PX);exact ww<|ww<|ww<|pT Y<|dn<|⟨true,h,wR []⟩;obtain rfl:=O (V Kw);refine ww<|ww<|ww<|pT Y<|mv Y<|bE h λafp afq h=>?_;obtain rfl:=O (V afq);exact ww<|ww<|ww<|pT Y<|dn<|⟨true,h,wR []⟩
 try dsimp only
 refine aV.n ?_;cases By;refine fs<|sr<|ld Y Y (.k4 Y Y Y Y) ?_;obtain⟨⟨n8,n9,AZ,A0,Nu⟩,tR,h⟩:=bS (F h);refine RT.I2 .none (tf tR) [304,305,306] (by decide) Y ⟨⟨Y,T⟩,⟨Y,T⟩,⟨Y,T⟩,aq⟩ Y ⟨Y,aq⟩ T Y Y<|mo (s:=.cmp _ _) Y<|RT.wW .none Y Y T<|RT.wW .none Y Y T<|an (s:=.ptr _ _) Y<|ag Y<|dn<|qq<|qq ?_;refine bK h (λj9=>AS.cI 120 [(1,.sv (slc 2 (List.map Ow x1))),(2,.sv (slc 4 (List.map eQ x2))),(3,.ptr 3 0),(7,.ptr 26 0),(8,ai 0),(34,aj j9)] [(26,⟨79,[aj n8,ai n9,.row 304,.row 305,.row 306]⟩),(3,⟨25,[ai bp,.sv (slc 1 (List.map (eS 4 eQ) bt)),.sv (slc 1 (List.map (eS 4 eQ) bB)),.sv (slc 4 (List.map eQ bF))]⟩)] [(304,TR 23 1 (eS 4 eQ) AZ),(305,TR 3 1 cM A0),(306,TR 23 1 (eS 4 eQ) Nu)]) (λh=>?_) (λNv h=>?_);refine aW<|mv Y<|ne false Y Y (by decide)<|mv Y<|bE h λNz afr h=>RT.move (.some Y Y) (s:=.ptr _ _) Y T<|RT.MI (.some Y Y) Y Y T ?_;obtain rfl:=O (F afr);exact pF Y<|dn<|⟨false,h,wR []⟩
 try dsimp only
 refine aV.n ?_;cases Nv;refine fs<|qq<|sr<|ag Y<|dn<|bE (F h) λe33 afs dS=>?_;refine bV (λ(Ik:(List (List Qr))×(List Int)×(List (List Qr)))=>AS.cI 120 [(2,.sv (slc 4 (List.map eQ x2))),(3,.ptr 3 0),(7,.ptr 26 0)] [(26,⟨79,[aj n8,ai n9,.row 313,.row 314,.row 315]⟩),(3,⟨25,[ai bp,.sv (slc 1 (List.map (eS 4 eQ) bt)),.sv (slc 1 (List.map (eS 4 eQ) bB)),.sv (slc 4 (List.map eQ bF))]⟩)] [(313,TR 23 1 (eS 4 eQ) Ik.1),(314,TR 3 1 cM Ik.2.1),(315,TR 23 1 (eS 4 eQ) Ik.2.2)]) (λIk=>Ik=e33) ?_ (λIk afu=>?_);refine bj ?_
 refine bW afs (λOF=>AS.cI 120 [(1,.sv (slc 2 (List.map Ow x1))),(2,.sv (slc 4 (List.map eQ x2))),(3,.ptr 3 0),(7,.ptr 26 0),(9,ai OF.1)] [(26,⟨79,[aj n8,ai n9,.row 313,.row 314,.row 315]⟩),(3,⟨25,[ai bp,.sv (slc 1 (List.map (eS 4 eQ) bt)),.sv (slc 1 (List.map (eS 4 eQ) bB)),.sv (slc 4 (List.map eQ bF))]⟩)] [(313,TR 23 1 (eS 4 eQ) OF.2.1),(314,TR 3 1 cM OF.2.2.1),(315,TR 23 1 (eS 4 eQ) OF.2.2.2)]) (ec (λi=>bif Nat.beq i 313 then 304 else bif Nat.beq i 314 then 305 else bif Nat.beq i 315 then 306 else i) Y Y Y Y Y ⟨.sv au,.sv au,.ptr,.ptr,.sv au,aq⟩ ⟨⟨_,Y,⟨.sv au,.sv au,.row Y,.row Y,.row Y,aq⟩⟩,⟨_,Y,⟨.sv au,.sv au,.sv au,.sv au,aq⟩⟩,aq⟩ ⟨⟨_,Y,cP.refl _⟩,⟨_,Y,cP.refl _⟩,⟨_,Y,cP.refl _⟩,aq⟩ (λi hi=>by rw[cV (show i≠313 by omega)];rw[cV (show i≠314 by omega)];rw[cV (show i≠315 by omega)];rfl)) (λOF y33 G33 h afv afw=>?_);obtain⟨uS,qT,qV,qW⟩:=OF
 try dsimp only
 refine qq<|sr<|mv Y<|mv Y<|lE h λtK ze h=>ln Y ze<|lE h λtL h48 h=>ls _ Y Y h48<|dn ?_;cases tL;refine cF<|cc<|aV.x<|aV.x<|bG.x<|aV.n ?_;obtain rfl:=O (F h);exact⟨(qT,qV,qW),afw _ Y,wR []⟩;refine cT<|bA<|aV.n<|qq<|bj<|bf mixed<|mo (s:=.ptr _ _) Y<|mv Y<|mv Y ?_;obtain⟨⟨Jd,SI⟩,IW,h⟩:=bS (V h);refine ix Y Y IW<|RT.bO .none Y T Y<|lr Y Y<|mv Y<|mv Y ?_;obtain⟨⟨C2,yP⟩,Po,h⟩:=bS h;refine ix Y Y Po<|RT.bO .none Y T Y<|lr Y Y ?_;obtain⟨⟨x62,YS,J1,YT⟩,h62,h⟩:=bS h;refine RT.I0 .none (gH h62) 26 [313,314,315] [325,326,327] Y ⟨Y,Y,Y,aq⟩ (by decide) (by decide) Y ⟨⟨Y,T⟩,⟨Y,T⟩,⟨Y,T⟩,aq⟩ Y Y (.k3 Y Y Y) T ?_;refine RT.done ⟨by kernel_rfl,?_⟩;refine bG.n<|aV.n<|aW<|mv Y<|lE h λum Fz h=>ad _ Y Y Fz<|ag Y<|RT.done ?_;obtain rfl:=O h;exact aV.n ⟨(um,YS,J1,YT),afv _ Y,ec (λi=>bif Nat.beq i 313 then 325 else bif Nat.beq i 314 then 326 else bif Nat.beq i 315 then 327 else i) Y Y Y Y Y ⟨.sv au,.sv au,.ptr,.ptr,.sv au,aq⟩ ⟨⟨_,Y,⟨.sv au,.sv au,.row Y,.row Y,.row Y,aq⟩⟩,⟨_,Y,⟨.sv au,.sv au,.sv au,.sv au,aq⟩⟩,aq⟩ ⟨⟨_,Y,cP.refl _⟩,⟨_,Y,cP.refl _⟩,⟨_,Y,cP.refl _⟩,aq⟩ (λi hi=>by rw[cV (show i≠313 by omega)];rw[cV (show i≠314 by omega)];rw[cV (show i≠315 by omega)];rfl)⟩;subst afu;obtain⟨qX,qY,qZ⟩:=Ik
 try dsimp only
 refine aV.n<|sr<|mo (s:=.ptr _ _) Y<|bE dS λKU h64 dS=>RT.iO .none (rH h64) 26 [313,314,315] Y ⟨Y,Y,Y,aq⟩ (by decide) Y Y (.cons Y (.nil)) T<|ag Y<|dn<|qq<|qq ?_;refine bK dS (λj45=>AS.cI 120 [(2,.sv (slc 4 (List.map eQ x2))),(3,.ptr 3 0),(7,.ptr 26 0),(10,.sv (slc 4 (List.map eQ KU))),(90,aj j45)] [(26,⟨79,[aj n8,ai n9,.row 313,.row 314,.row 315]⟩),(3,⟨25,[ai bp,.sv (slc 1 (List.map (eS 4 eQ) bt)),.sv (slc 1 (List.map (eS 4 eQ) bB)),.sv (slc 4 (List.map eQ bF))]⟩)] [(313,TR 23 1 (eS 4 eQ) qX),(314,TR 3 1 cM qY),(315,TR 23 1 (eS 4 eQ) qZ)]) (λdS=>?_) (λIj dS=>?_);refine bf mixed<|mv Y<|lE dS λG5 T4 dS=>ln Y T4<|fa Y Y<|lV Y Y Y<|lE dS λHA T5 dS=>ne _ Y Y (G4 (p:=G5) (q:=bp) T5)<|mv Y<|bE dS λNy GF dS=>?_;cases HA;refine RT.move (.some Y Y) (s:=.ptr _ _) Y T<|bE (F GF) λJ2 T8 GF=>RT.iO (.some Y Y) (mZ T8) 26 [313,314,315] Y ⟨Y,Y,Y,aq⟩ (by decide) Y Y (.cons Y (.nil)) T<|gl Y Y (.k4 Y Y Y Y)<|gm Y<|bE GF λx75 h75 GF=>gc (sY h75) ⟨Y,Y,aq⟩<|lE GF λWw Yw GF=>RT.OM (.some Y Y) _ Y Y T Yw ?_;obtain rfl:=O GF;refine pF Y<|mv Y<|bE dS λafx uA dS=>?_;cases Ww
 refine RT.move (.some Y Y) (s:=.ptr _ _) Y T<|bE (F uA) λx80 h80 uA=>RT.iO (.some Y Y) (qR h80) 26 [313,314,315] Y ⟨Y,Y,Y,aq⟩ (by decide) Y Y (.cons Y (.nil)) T<|gl Y Y (.k4 Y Y Y Y)<|gm Y<|bE uA λYR h83 uA=>RT.QW (.some Y Y) (zo h83) Y ⟨Y,Y,aq⟩ T Y T ?_;obtain⟨⟨⟨SK,SL⟩,⟨SM,SN⟩⟩,h84,uA⟩:=bS uA;refine gc (gw h84) ⟨Y,aq⟩<|gm Y<|bE uA λOB XU uA=>gc (wQ XU) ⟨Y,Y,aq⟩<|bE uA λOC XV uA=>RT.W5 (k:=OB) (e:=eQ) (.some Y Y) Y Y Y T Y T XV<|bE uA λx88 h88 uA=>gc (fE h88) ⟨Y,Y,aq⟩<|lE uA λTN h89 uA=>KO Y _ h89 ?_;obtain rfl:=O uA;refine pF Y ?_;refine RT.done ⟨by kernel_rfl,?_⟩;exact aV.n<|⟨TN,dS,wR []⟩;obtain rfl:=O (V uA);refine ww<|ww<|ww<|ww<|ww<|ww<|ww<|ww<|ww<|ww<|ww<|pT Y ?_;refine RT.done ⟨by kernel_rfl,?_⟩;exact aV.n<|⟨true,dS,wR []⟩;obtain rfl:=O (V GF);refine ww<|ww<|ww<|ww<|ww<|ww<|pT Y<|mv Y<|bE dS λafy afz dS=>?_;obtain rfl:=O (V afz);refine ww<|ww<|ww<|ww<|ww<|ww<|ww<|ww<|ww<|ww<|ww<|pT Y ?_;refine RT.done ⟨by kernel_rfl,?_⟩;exact aV.n<|⟨true,dS,wR []⟩
 try dsimp only
 refine aV.n ?_;cases Ij;refine fs<|qq ?_;refine bK (F dS) (λj66=>AS.cI 120 [(6,aj j66)] [] []) (λdS=>?_) (λSJ dS=>?_);refine aW<|mo (s:=.ptr _ _) Y<|bE dS λXq h92 dS=>RT.iO .none (mZ h92) 26 [313,314,315] Y ⟨Y,Y,Y,aq⟩ (by decide) Y Y (.cons Y (.nil)) T<|lE dS λTO h93 dS=>nt Y _ h93<|mv Y<|bE dS λNx vJ dS=>?_;cases TO;refine RT.move (.some Y Y) (s:=.ptr _ _) Y T<|bE (F vJ) λx96 h96 vJ=>RT.iO (.some Y Y) (om h96) 26 [313,314,315] Y ⟨Y,Y,Y,aq⟩ (by decide) Y Y (.cons Y (.nil)) T<|lE vJ λWe h97 vJ=>KO Y _ h97 ?_;obtain rfl:=O vJ;refine pF Y<|mv Y<|bE dS λZ9 Cv dS=>?_;cases We;refine gl Y Y (.k4 Y Y Y Y)<|gm Y<|bE (F Cv) λL3 T9 Cv=>gc (sY T9) ⟨Y,Y,aq⟩<|lE Cv λCb Mj Cv=>KO Y _ Mj ?_;obtain rfl:=O Cv;refine pF Y<|mv Y<|bE dS λaaa Cu dS=>?_;cases Cb;refine gl Y Y (.k4 Y Y Y Y)<|gm Y<|gm Y<|bE (F Cu) λYU afA Cu=>gc (Cm afA) ⟨Y,Y,Y,aq⟩<|lE Cu λVm afB Cu=>RT.lss (.some Y Y) _ Y Y T afB ?_;obtain rfl:=O Cu;refine pF Y<|mv Y<|bE dS λaab Bx dS=>?_;cases Vm;refine gm Y<|gm Y<|bE (F Bx) λVn afC Bx=>gc (fE afC) ⟨Y,Y,aq⟩ ?_;obtain rfl:=O Bx;refine pF Y<|mv Y<|bE dS λaac PY dS=>?_;cases Vn;obtain rfl:=O (F PY);exact ww<|pF Y<|ag Y<|dn<|⟨false,dS,wR []⟩
 refine bE (V PY) λBz El PY=>gc (fe El) trivial ?_;obtain rfl:=O PY;exact pT Y<|ag Y<|dn<|⟨Bz,dS,wR []⟩;obtain rfl:=O (V Bx);refine ww<|ww<|ww<|pT Y<|mv Y<|bE dS λaad Vr dS=>bE (V Vr) λBz El Vr=>gc (fe El) trivial ?_;obtain rfl:=O Vr;exact pT Y<|ag Y<|dn<|⟨Bz,dS,wR []⟩;obtain rfl:=O (V Cu);refine ww<|ww<|ww<|ww<|ww<|pT Y<|mv Y<|bE dS λaae zx dS=>?_;obtain rfl:=O (V zx);refine ww<|ww<|ww<|pT Y<|mv Y<|bE dS λaaf ux dS=>bE (V ux) λBz El ux=>gc (fe El) trivial ?_;obtain rfl:=O ux;exact pT Y<|ag Y<|dn<|⟨Bz,dS,wR []⟩;obtain rfl:=O (V Cv);refine ww<|ww<|ww<|ww<|pT Y<|mv Y<|bE dS λaag Gz dS=>?_;obtain rfl:=O (V Gz);refine ww<|ww<|ww<|ww<|ww<|pT Y<|mv Y<|bE dS λaah zw dS=>?_;obtain rfl:=O (V zw);refine ww<|ww<|ww<|pT Y<|mv Y<|bE dS λaai Ct dS=>bE (V Ct) λBz El Ct=>gc (fe El) trivial ?_;obtain rfl:=O Ct;exact pT Y<|ag Y<|dn<|⟨Bz,dS,wR []⟩;obtain rfl:=O (V vJ);refine ww<|ww<|ww<|pT Y<|mv Y<|bE dS λaaj Gx dS=>?_;obtain rfl:=O (V Gx);refine ww<|ww<|ww<|ww<|pT Y<|mv Y<|bE dS λaak Gy dS=>?_;obtain rfl:=O (V Gy);refine ww<|ww<|ww<|ww<|ww<|pT Y<|mv Y<|bE dS λaal U7 dS=>?_;obtain rfl:=O (V U7);refine ww<|ww<|ww<|pT Y<|mv Y<|bE dS λaam Ek dS=>bE (V Ek) λBz El Ek=>gc (fe El) trivial ?_
 obtain rfl:=O Ek;exact pT Y<|ag Y<|dn<|⟨Bz,dS,wR []⟩
 try dsimp only
 refine aV.n<|bh ?_;obtain rfl:=O dS;exact R1 Y;refine cT<|sr<|ag Y<|dn<|bh<|aV.r ?_;obtain rfl:=O (V dS);exact R1 Y;refine cT<|qq ?_;refine bK (V h) (λj18=>AS.cI 120 [(6,aj j18)] [] []) (λh=>?_) (λSH h=>?_);refine aW<|mv Y<|eq false Y Y (by decide)<|mv Y<|bE h λNw uu h=>?_;obtain rfl:=O (F uu);refine ww<|ww<|ww<|pF Y<|mv Y<|bE h λafD Kl h=>?_;obtain rfl:=O (F Kl);exact ww<|pF Y<|ag Y<|dn<|⟨false,h,wR []⟩
 try dsimp only
 refine aV.n<|bh<|aV.r ?_;obtain rfl:=O h;exact R1 Y;refine cT<|sr<|bE (V h) λjT sD h=>cl (fe sD) trivial<|ag Y<|dn<|bh<|aV.r ?_;obtain rfl:=O h;exact R1 Y
end
section
open Go.Fw Go.Fw.Z Go.RowKit
theorem pD{x0:Lr}{x1:List Pv}{x2:List Qr}{r:Bool}(h:fu x0 x1 x2=some r):Pure ah 6 [.agg (Dw x0),slc 2 (List.map Ow x1),slc 4 (List.map eQ x2)] (az r):=by
 obtain⟨bp,bt,bB,bF⟩:=x0;refine bw Tryz.func6 Y (af Y) (λee M vs hvs=>?_);unfold fu at h;refine sr<|bx Y<|ag Y<|dn<|qq<|qq ?_;refine bK h (λj6=>AS.cI 120 [(1,.sv (slc 2 (List.map Ow x1))),(2,.sv (slc 4 (List.map eQ x2))),(3,.ptr 3 0),(22,aj j6)] [(3,⟨25,[ai bp,.sv (slc 1 (List.map (eS 4 eQ) bt)),.sv (slc 1 (List.map (eS 4 eQ) bB)),.sv (slc 4 (List.map eQ bF))]⟩)] []) (λh=>?_) (λBy h=>?_);refine aW<|ld Y Y (.k4 Y Y Y Y)<|bE h λdP gu h=>cl (uR gu) ⟨Y,aq⟩<|mv Y<|bE h λNC mY h=>?_;cases dP;refine gm Y<|lE (F mY) λeI jh mY=>gn Y jh<|lE mY λgX lC mY=>gg _ Y Y lC ?_;obtain rfl:=O mY;refine pF Y<|mv Y<|bE h λVk uu h=>?_;cases gX;refine gm Y<|RT.eK (l:=[x2]) (e:=(eS 4 eQ)) (.some Y Y) (.one Y (.nil)) T Y Y Y Y Y Y<|bE (F uu) λgN oH uu=>gc (gI oH) ⟨Y,aq⟩ ?_;obtain rfl:=O uu;exact pF Y<|dn<|⟨gN,h,wR []⟩;obtain rfl:=O (V uu);exact ww<|ww<|ww<|pT Y<|dn<|⟨true,h,wR []⟩;obtain rfl:=O (V mY);exact ww<|ww<|ww<|pT Y<|mv Y<|ww<|ww<|ww<|pT Y<|dn<|⟨true,h,wR []⟩
 try dsimp only
 refine aV.n ?_;cases By;refine fs<|sr<|ld Y Y (.k4 Y Y Y Y)<|bE (F h) λ_ tR h=>cl (GD tR) ⟨Y,aq⟩<|mv Y<|ex Y Y<|ex Y Y<|ag Y<|ag Y<|dn<|qq<|sr<|mv Y<|ne true Y Y (by decide)<|mv Y<|ww<|ww<|pT Y<|dn<|cT ?_;refine qq ?_;refine bK h (λj15=>AS.cI 120 [(6,aj j15)] [] []) (λh=>?_) (λSO h=>?_);refine aW<|mv Y<|eq true Y Y (by decide)<|mv Y<|gl Y Y (.k4 Y Y Y Y)<|bE h λsq DT h=>gc (oX DT) ⟨Y,aq⟩<|lE h λlu rC h=>KO Y _ rC<|pT Y<|mv Y<|bE h λNB mF h=>?_;cases lu;obtain rfl:=O (F mF);exact ww<|pF Y<|ag Y<|dn<|⟨false,h,wR []⟩;refine bE (V mF) λrK CU mF=>gc (fe CU) trivial ?_;obtain rfl:=O mF;exact pT Y<|ag Y<|dn<|⟨rK,h,wR []⟩
 try dsimp only
 refine aV.n<|bh<|aV.r ?_;obtain rfl:=O h;exact R1 Y;refine cT<|sr<|bE (V h) λjT sD h=>cl (fe sD) trivial<|ag Y<|dn<|bh<|aV.r ?_;obtain rfl:=O h;exact R1 Y
end
section
open Go.Fw Go.Fw.Z Go.RowKit
theorem qa{x0:Lr}{x1:List Pv}{x2:List Qr}{r:Bool}(h:fF x0 x1 x2=some r):Pure ah 6 [.agg (Dw x0),slc 2 (List.map Ow x1),slc 4 (List.map eQ x2)] (az r):=by
 unfold fF at h;split at h
 ·exact pC h
 exact pD h
end
end Go.Proofs.YtningmnklfpfjaaGreat
namespace Go.Fw
section
theorem tZ{n:Nat}(h:n<=9223372036854775807):IntKind.i64.wrap (n:Int)=n:=kG (by omega)
theorem cU{x:Int}(h: -9223372036854775808<=x)(h':x<=9223372036854775807):IntKind.i64.wrap x=x:=kG ⟨h,h'⟩
theorem bZ{n:Nat}(h:n<9223372036854775807):IntKind.i64.wrap ((n:Int)+1)=((n+1:Nat):Int):=by rw[kG (by omega)];simp
theorem ua{n m:Nat}(h:n+m<=9223372036854775807):IntKind.i64.wrap ((n:Int)+(m:Int))=((n+m:Nat):Int):=by rw[kG (by omega)];simp
theorem GG{n:Nat}(h:n<=9223372036854775807):IntKind.i64.wrap (((n+1:Nat):Int)-1)=(n:Int):=by rw[kG (by omega)];omega
theorem bL{α:Type}{l:List α}{i:Nat}{a:α}(h:l[i]? =some a):cZ l (i:Int)=some a:=by simp[cZ,h]
theorem ym{α:Type}{l:List α}{a:α}(h:l[0]? =some a):cZ l 0=some a:=by simp[cZ,h]
theorem ND{α:Type}{l:List α}{a:α}(h:l[1]? =some a):cZ l 1=some a:=by simp[cZ,h]
theorem cG{α:Type}{l:List α}{i:Nat}(h:i<l.length):oM l (i:Int)=some i:=by simp[oM,h]
theorem fG{α:Type}{l:List α}{i:Nat}{y:α}(h:i<l.length):stM l i y=some (l.set i y):=by simp[stM,h]
theorem NF{α:Type}{b:Nat}{l k:List α}(h:(l.length+k.length)*b<=140737488355328)(h':l.length+k.length<=140737488355328):zJ b l k=some (l++k):=by simp[zJ,h,h']
theorem Cz{α:Type}{b:Nat}{l:List α}{x:α}(hb:b<=100)(h:l.length<=1000000000000):zJ b l [x]=some (l++[x]):=by
 apply NF
 ·have:(l.length+[x].length)*b<=1000000000001*100:=Nat.mul_le_mul (by simp;omega) hb;omega
 simp;omega
theorem YV{α:Type}{b:Nat}{l k:List α}(hb:b<=100)(h:l.length+k.length<=1000000000000):zJ b l k=some (l++k):=by
 apply NF
 ·have:(l.length+k.length)*b<=1000000000000*100:=Nat.mul_le_mul h hb;omega
 omega
theorem BA{α:Type}{b:Nat}{n:Nat}(hb:b<=100)(h:n<=1000000000000):LD (α:=α) b (n:Int)=some []:=by
 have:b*n<=100*1000000000000:=Nat.mul_le_mul hb h;have h2:(b:Int)*(n:Int)=((b*n:Nat):Int):=by simp
 unfold LD;rw[h2,if_pos ⟨by omega,by omega,by omega⟩]
theorem q9{α:Type}{b:Nat}{n:Nat}{z:α}(hb:b<=100)(h:n<=1000000000000):BS b (n:Int) z=some (List.replicate n z):=by
 have:b*n<=100*1000000000000:=Nat.mul_le_mul hb h;have h2:(b:Int)*(n:Int)=((b*n:Nat):Int):=by simp
 unfold BS;rw[h2,if_pos ⟨by omega,by omega,by omega⟩,Int.toNat_natCast]
theorem NG{α:Type}{l:List α}{i j:Nat}(h:i<=j)(h':j<=l.length):y4 l (i:Int) (j:Int)=some (cut l i j):=by
 unfold y4;rw[if_pos ⟨by omega,by omega,by omega⟩];simp
theorem qb{α:Type}{l:List α}{j:Nat}(h':j<=l.length):y4 l 0 (j:Int)=some (l.take j):=by
 have:=NG (l:=l) (i:=0) (j:=j) (by omega) h';simpa[cut]using this
theorem rf{M a b:Nat}(h:b<=a)(h':a<M):oF M a b=a-b:=by
 unfold oF;rw[show(a:Int)-(b:Int)=((a-b:Nat):Int) by omega,<-Int.natCast_emod,Int.toNat_natCast,Nat.mod_eq_of_lt (by omega)]
theorem zV{M a b:Nat}(h:a<b)(h':b<=M):oF M a b=M+a-b:=by
 unfold oF;have:((a:Int)-(b:Int))%(M:Int)=((M+a-b:Nat):Int):=by
  rw[<-Int.add_emod_right (a:=(a:Int)-b),show(a:Int)-(b:Int)+(M:Int)=((M+a-b:Nat):Int) by omega,<-Int.natCast_emod,Nat.mod_eq_of_lt (by omega)]
 rw[this,Int.toNat_natCast]
theorem zW{o n i:Nat}(h:i<n):Oy o n (i:Int)=some (o+i):=by simp[Oy,h]
theorem qc{α:Type}{l l':List α}(h:l'.length=l.length):uI l l'=some ():=by simp[uI,h]
theorem Em{M a b:Nat}(h:b≠0)(h':a<M):Du M a b=some (a/b):=by
 unfold Du;rw[if_neg h,Nat.mod_eq_of_lt (Nat.lt_of_le_of_lt (Nat.div_le_self _ _) h')]
theorem zX{a b:Nat}(h:b≠0):B6 a b=some (a%b):=by unfold B6;rw[if_neg h]
theorem cm{α β:Type}{a:α}{f:α->Option β}:Option.bind (some a) f=f a:=by
 have h:∀o,o=some a->Option.bind o f=f a:=by intro o ho;rw[ho];rfl
 exact h _ Y
theorem iP{α:Type}{x y:α}:(bif true then x else y)=x:=by
 have h:∀b,b=true->(bif b then x else y)=x:=by intro b hb;rw[hb];rfl
 exact h _ Y
theorem jr{α:Type}{x y:α}:(bif false then x else y)=y:=by
 have h:∀b,b=false->(bif b then x else y)=y:=by intro b hb;rw[hb];rfl
 exact h _ Y
theorem nK{S E R:Type}{body:S->Option (S⊕E)}{s:S}{f:E->Option R}{r:R}(I:S->Prop)(Post:E->Prop)(μ:S->Nat)
  (step:∀s,I s->(∃s',body s=some (.inl s')/\I s'/\μ s'<μ s)\/(∃e,body s=some (.inr e)/\Post e)) (h:I s) (hf:∀e,Post e->f e=some r):(cy body s).bind f=some r:=by
 obtain⟨e,h1,h2⟩:=xD I Post μ step h;rw[h1];exact hf e h2
theorem nG{S E R:Type}{body:S->Option (S⊕E)}{s:S}{f:E->Option R}{Q:R->Prop}(I:S->Prop)(Post:E->Prop)(μ:S->Nat)
  (step:∀s,I s->(∃s',body s=some (.inl s')/\I s'/\μ s'<μ s)\/(∃e,body s=some (.inr e)/\Post e)) (h:I s) (hf:∀e,Post e->∃r,f e=some r/\Q r):∃r,(cy body s).bind f=some r/\Q r:=by
 obtain⟨e,h1,h2⟩:=xD I Post μ step h;rw[h1];exact hf e h2
theorem bN{S E R:Type}{body:S->Option (S⊕E)}{s:S}{f:E->Option R}{r:R}(st:Nat->S)(n:Nat)(e:E)(h0:s=st 0)(hs:∀k,k<n->body (st k)=some (.inl (st (k+1))))(he:body (st n)=some (.inr e))(hf:f e=some r):(cy body s).bind f=some r:=by
 rw[h0,LI st n hs he];exact hf
theorem ot{S R:Type}{body:Nat->S->Option S}{s:S}{f:S->Option R}{r:R}(st:Nat->S){n:Nat}(h0:s=st 0)(hs:∀k,k<n->body k (st k)=some (st (k+1)))(hf:f (st n)=some r):(nR body n s).bind f=some r:=by
 rw[h0,CL st n hs];exact hf
theorem aA{α β:Type}{x:Option α}{a:α}{f:α->Option β}{r:Option β}(h:x=some a)(hf:f a=r):x.bind f=r:=by rw[h];exact hf
theorem bP{α:Type}{b:Bool}{x y r:α}(hb:b=true)(h:x=r):(bif b then x else y)=r:=by rw[hb];exact h
theorem bJ{α:Type}{b:Bool}{x y r:α}(hb:b=false)(h:y=r):(bif b then x else y)=r:=by rw[hb];exact h
end
section
def val(B:Nat):List Nat->Nat
 |[]=>0
 |x::l=>x+B*val B l
def fH(B:Nat):Nat->Nat->List Nat
 |0,_=>[]
 |n+1,v=>v%B::fH B n (v/B)
def kY(ws:List Nat):List Nat:=(ws.reverse.dropWhile (· ==0)).reverse
def can(B v:Nat):List Nat:=kY (fH B v v)
theorem bT(B:Nat):∀n v,(fH B n v).length=n
 |0,_=>rfl
 |n+1,v=>by simp[fH,bT B n]
theorem kZ(B:Nat):∀n v,val B (fH B n v)=v%B^n
 |0,v=>by simp[fH,val,Nat.mod_one]
 |n+1,v=>by
  rw[fH,val,kZ B n,Nat.pow_succ,Nat.mul_comm (B^n) B,Nat.mod_mul]
theorem m7{B:Nat}(hB:0<B):∀(n v x:Nat),x∈fH B n v->x<B
 |n+1,v,x,h=>by
  rcases List.mem_cons.1 h with rfl|h
  ·exact Nat.mod_lt _ hB
  exact m7 hB n _ x h
theorem iQ{B:Nat}:∀(l:List Nat),(∀x∈l,x<B)->val B l<B^l.length
 |[],_=>by simp[val]
 |x::l,h=>by
  have h1:=iQ l (λy hy=>h y (List.mem_cons_of_mem _ hy));have h2:=h x (by simp);rw[val,List.length_cons,Nat.pow_succ]
  calc x+B*val B l<B+B*val B l:=by omega
   _=B*(val B l+1):=by rw[Nat.mul_add];omega
   _<=B*B^l.length:=Nat.mul_le_mul_left _ h1
   _=B^l.length*B:=Nat.mul_comm _ _
theorem zY{B:Nat}:∀(l:List Nat),(∀x∈l,x<B)->fH B l.length (val B l)=l
 |[],_=>rfl
 |x::l,h=>by
  have h2:=h x (by simp);have hB:0<B:=by omega
  rw[List.length_cons,fH,val,Nat.add_mul_mod_self_left,Nat.mod_eq_of_lt h2,Nat.add_mul_div_left _ _ hB,Nat.div_eq_of_lt h2,Nat.zero_add,zY l (λy hy=>h y (List.mem_cons_of_mem _ hy))]
theorem w7{B:Nat}:∀(n v j:Nat),j<n->(fH B n v)[j]? =some (v/B^j%B)
 |n+1,v,0,_=>by simp[fH]
 |n+1,v,j+1,h=>by
  rw[fH,List.getElem?_cons_succ,w7 n _ j (by omega),Nat.div_div_eq_div_mul,Nat.pow_succ,Nat.mul_comm B]
theorem En{B:Nat}:∀(a b:List Nat),val B (a++b)=val B a+B^a.length*val B b
 |[],b=>by simp[val]
 |x::a,b=>by
  rw[List.cons_append,val,val,En a b,List.length_cons,Nat.pow_succ,Nat.mul_add,Nat.add_assoc,Nat.mul_comm (B^a.length) B,Nat.mul_assoc]
theorem ou{B:Nat}:∀(n v:Nat),fH B (n+1) v=fH B n v++[v/B^n%B]
 |0,v=>by simp[fH]
 |n+1,v=>by
  rw[fH,ou n,fH,List.cons_append,Nat.div_div_eq_div_mul,Nat.pow_succ,Nat.mul_comm B]
theorem th(B:Nat):∀k,fH B k 0=List.replicate k 0
 |0=>rfl
 |k+1=>by rw[fH,Nat.zero_mod,Nat.zero_div,th B k];rfl
theorem BB{B:Nat}(hB:0<B):∀(n k v:Nat),v<B^n->fH B (n+k) v=fH B n v++List.replicate k 0
 |0,k,v,h=>by
  have:v=0:=by simpa using h
  subst this;rw[Nat.zero_add,th];rfl
 |n+1,k,v,h=>by
  rw[show n+1+k=n+k+1 by omega,fH,fH,List.cons_append,BB hB n k (v/B) (by rw[Nat.div_lt_iff_lt_mul hB];rwa[Nat.pow_succ]at h)]
theorem ri{B:Nat}(hB:2<=B):∀v,v<B^v
 |0=>by simp
 |v+1=>by
  have:=ri hB v;rw[Nat.pow_succ];have h2:B^v*2<=B^v*B:=Nat.mul_le_mul_left _ hB;omega
theorem rj(l:List Nat):kY (l++[0])=kY l:=by simp[kY]
theorem tj(l:List Nat):∀k,kY (l++List.replicate k 0)=kY l
 |0=>by simp
 |k+1=>by rw[List.replicate_succ',<-List.append_assoc,rj,tj l k]
theorem vK(l:List Nat){x:Nat}(h:x≠0):kY (l++[x])=l++[x]:=by simp[kY,h]
theorem vL(xs:List Nat):xs=[]\/(∃ys,xs=ys++[0])\/(∃ys y,y≠0/\xs=ys++[y]):=by
 rcases List.eq_nil_or_concat xs with rfl|⟨ys,y,rfl⟩
 ·exact .inl Y
 by_cases hy:y=0
 ·subst hy;exact .inr (.inl ⟨ys,by simp⟩)
 exact .inr (.inr ⟨ys,y,hy,by simp⟩)
theorem yn:∀(n:Nat) (l:List Nat),l.length=n->∃k,l=kY l++List.replicate k 0:=by
 intro n
 induction n with
 |zero=>intro l h;obtain rfl:=List.length_eq_zero_iff.1 h;exact⟨0,Y⟩
 |succ n ih=>
  intro l h;rcases vL l with rfl|⟨ys,rfl⟩|⟨ys,y,hy,rfl⟩
  ·simp at h
  ·obtain⟨k,hk⟩:=ih ys (by simpa using h);refine⟨k+1,?_⟩;rw[rj,List.replicate_succ',<-List.append_assoc,<-hk]
  exact⟨0,by rw[vK _ hy];simp⟩
theorem Kx{l:List Nat}{x:Nat}(h:x∈kY l):x∈l:=by
 obtain⟨k,hk⟩:=yn _ l Y;rw[hk];exact List.mem_append_left _ h
theorem C3(l:List Nat):(kY l).length<=l.length:=by
 obtain⟨k,hk⟩:=yn _ l Y;have:=congrArg List.length hk;rw[List.length_append]at this;omega
theorem C4(B:Nat):∀k,val B (List.replicate k 0)=0
 |0=>rfl
 |k+1=>by rw[List.replicate_succ,val,C4 B k];simp
theorem NH(B:Nat)(l:List Nat):val B (kY l)=val B l:=by
 obtain⟨k,hk⟩:=yn _ l Y
 conv=>rhs;rw[hk,En,C4]
 simp
theorem GH{B:Nat}(hB:2<=B){n v:Nat}(h:v<B^n):kY (fH B n v)=can B v:=by
 have hv:=ri hB v;rcases Nat.le_total n v with hn|hn
 ·obtain⟨k,rfl⟩:=Nat.exists_eq_add_of_le hn;rw[can,BB (by omega) n k _ h,tj]
 obtain⟨k,rfl⟩:=Nat.exists_eq_add_of_le hn;rw[can,BB (by omega) v k _ hv,tj]
theorem qe{B:Nat}(hB:2<=B){l:List Nat}(h:∀x∈l,x<B):kY l=can B (val B l):=by
 conv=>lhs;rw[<-zY l h]
 exact GH hB (iQ l h)
theorem ru{B:Nat}(hB:2<=B)(v:Nat):val B (can B v)=v:=by
 rw[can,NH,kZ,Nat.mod_eq_of_lt (ri hB v)]
theorem k7{B:Nat}(hB:2<=B){v x:Nat}(h:x∈can B v):x<B:=m7 (by omega) v v x (Kx h)
theorem tq(B:Nat):can B 0=[]:=rfl
theorem Eo{B:Nat}(hB:2<=B){v:Nat}(h:can B v=[]):v=0:=by have:=ru hB v;rw[h]at this;exact this.symm
theorem PZ{B:Nat}(hB:2<=B){v n:Nat}(h:v<B^n):(can B v).length<=n:=by
 rw[<-GH hB h];have:=C3 (fH B n v);rwa[bT]at this
theorem P0{B:Nat}(hB:2<=B)(v:Nat):kY (can B v)=can B v:=by
 rw[qe hB (λx hx=>k7 hB hx),ru hB]
theorem P1{B:Nat}(hB:2<=B)(v:Nat):can B v=fH B (can B v).length v:=by
 have:=zY (can B v) (λx hx=>k7 hB hx);rw[ru hB]at this;exact this.symm
theorem dU{B:Nat}(hB:2<=B)(v:Nat):v<B^(can B v).length:=by
 have:=iQ (can B v) (λx hx=>k7 hB hx);rwa[ru hB]at this
theorem Ep{B:Nat}(hB:2<=B){v j:Nat}(h:j<(can B v).length):(can B v)[j]? =some (v/B^j%B):=by
 rw[P1 hB v]at h⊢;rw[bT]at h;exact w7 _ _ _ h
theorem BC{B:Nat}(hB:2<=B){v j:Nat}(h:(can B v).length<=j):v/B^j=0:=by
 refine Nat.div_eq_of_lt (Nat.lt_of_lt_of_le (dU hB v) ?_);exact Nat.pow_le_pow_right (by omega) h
theorem GI{B:Nat}(hB:2<=B){v:Nat}(h:v≠0):∃l x,x≠0/\can B v=l++[x]:=by
 rcases vL (can B v)with e|⟨ys,e⟩|⟨ys,y,hy,e⟩
 ·exact absurd (Eo hB e) h
 ·exfalso;have h1:=P0 hB v;rw[e,rj]at h1;have h2:=C3 ys;rw[h1]at h2;simp at h2;omega
 exact⟨ys,y,hy,e⟩
theorem uT{B:Nat}(hB:2<=B){v n:Nat}(h:n<(can B v).length):B^n<=v:=by
 by_cases h0:v=0
 ·subst h0;simp[tq]at h
 obtain⟨l,x,hx,e⟩:=GI hB h0;have h1:=ru hB v;rw[e,En]at h1;have hl:n<=l.length:=by rw[e]at h;simp at h;omega
 have h2:B^n<=B^l.length:=Nat.pow_le_pow_right (by omega) hl;have h3:B^l.length<=B^l.length*val B [x]:=Nat.le_mul_of_pos_right _ (by simp[val];omega);omega
theorem ff{B:Nat}(hB:2<=B){v n:Nat}:(can B v).length<=n↔v<B^n:=by
 refine⟨λh=>?_,PZ hB⟩;exact Nat.lt_of_lt_of_le (dU hB v) (Nat.pow_le_pow_right (by omega) h)
theorem NI{B:Nat}(hB:2<=B){l:List Nat}{x:Nat}(hx:x≠0)(h:∀y∈l++[x],y<B):l++[x]=can B (val B (l++[x])):=by
 rw[<-qe hB h,vK _ hx]
theorem qf{B:Nat}:∀(l:List Nat),(∀x∈l,x<B)->∀k,l.getD k 0=val B l/B^k%B
 |[],_,k=>by simp[val]
 |x::l,h,0=>by
  have h2:=h x (by simp);simp[val,Nat.add_mul_mod_self_left,Nat.mod_eq_of_lt h2]
 |x::l,h,k+1=>by
  have h2:=h x (by simp);have hB:0<B:=by omega
  rw[List.getD_cons_succ,qf l (λy hy=>h y (List.mem_cons_of_mem _ hy)) k,val,Nat.pow_succ,Nat.mul_comm (B^k) B,<-Nat.div_div_eq_div_mul,Nat.add_mul_div_left _ _ hB,Nat.div_eq_of_lt h2,Nat.zero_add]
theorem gz(B V k:Nat):V%B^(k+1)=V%B^k+B^k*(V/B^k%B):=by
 rw[Nat.pow_succ,Nat.mod_mul]
def EI(B V W k:Nat):Nat:=(V%B^k+W%B^k)/B^k
theorem Il{B:Nat}(hB:0<B)(V W k:Nat):EI B V W k<=1:=by
 have hP:0<B^k:=Nat.pow_pos hB;have h1:=Nat.mod_lt V hP;have h2:=Nat.mod_lt W hP;have:EI B V W k<2:=by rw[EI,Nat.div_lt_iff_lt_mul hP];omega
 omega
theorem GJ{B:Nat}(hB:0<B)(V W k:Nat):(V/B^k%B+W/B^k%B+EI B V W k)/B=EI B V W (k+1):=by
 have hP:0<B^k:=Nat.pow_pos hB;rw[EI,EI,gz,gz,Nat.pow_succ,<-Nat.div_div_eq_div_mul];congr 1;rw[show V%B^k+B^k*(V/B^k%B)+(W%B^k+B^k*(W/B^k%B))=(V%B^k+W%B^k)+B^k*(V/B^k%B+W/B^k%B) by rw[Nat.mul_add];omega,Nat.add_mul_div_left _ _ hP];omega
theorem Er{B:Nat}(hB:0<B)(V W k:Nat):(V/B^k%B+W/B^k%B+EI B V W k)%B=(V+W)/B^k%B:=by
 have hP:0<B^k:=Nat.pow_pos hB;have h:(V+W)/B^k=V/B^k+W/B^k+EI B V W k:=by
  have e1:=Nat.div_add_mod V (B^k);have e2:=Nat.div_add_mod W (B^k);rw[EI]
  conv=>lhs;rw[<-e1,<-e2]
  rw[show B^k*(V/B^k)+V%B^k+(B^k*(W/B^k)+W%B^k)=(V%B^k+W%B^k)+B^k*(V/B^k+W/B^k) by rw[Nat.mul_add];omega,Nat.add_mul_div_left _ _ hP];omega
 rw[h];simp[Nat.add_mod]
theorem P2{B:Nat}{V W k:Nat}(hV:V<B^k)(hW:W<B^k):EI B V W k=(V+W)/B^k:=by
 rw[EI,Nat.mod_eq_of_lt hV,Nat.mod_eq_of_lt hW]
theorem GK(B V W:Nat):EI B V W 0=0:=by simp[EI,Nat.mod_one]
def zy(B V W k:Nat):Nat:=(V%B^k+B^k-W%B^k)/B^k
theorem GL(B V W:Nat):zy B V W 0=1:=by simp[zy,Nat.mod_one]
theorem NJ{B:Nat}(hB:0<B)(V W k:Nat):zy B V W k<=1:=by
 have hP:0<B^k:=Nat.pow_pos hB;have h1:=Nat.mod_lt V hP;have:zy B V W k<2:=by
  rw[zy,Nat.div_lt_iff_lt_mul hP];generalize W%B^k=y at*;generalize V%B^k=x at*;omega
 omega
theorem Je{B:Nat}(hB:0<B)(V W k:Nat):V%B^(k+1)+B^(k+1)-W%B^(k+1)=(V%B^k+B^k-W%B^k)+B^k*(V/B^k%B+(B-1-W/B^k%B)):=by
 have hP:0<B^k:=Nat.pow_pos hB;have h1:=Nat.mod_lt V hP;have h2:=Nat.mod_lt W hP;have h3:=Nat.mod_lt (W/B^k) hB;rw[gz,gz,Nat.pow_succ];generalize B^k=p at*;generalize V/p%B=x at*;generalize W/p%B=y at*;obtain⟨z,rfl⟩:∃z,B=y+1+z:=⟨B-y-1,by omega⟩;have e1:y+1+z-1-y=z:=by omega
 rw[e1,Nat.mul_add p x z,Nat.mul_add p (y+1) z,Nat.mul_add p y 1];omega
theorem GM{B:Nat}(hB:0<B)(V W k:Nat):(V/B^k%B+(B-1-W/B^k%B)+zy B V W k)/B=zy B V W (k+1):=by
 have hP:0<B^k:=Nat.pow_pos hB;rw[zy,zy,Je hB,Nat.pow_succ,<-Nat.div_div_eq_div_mul,Nat.add_mul_div_left _ _ hP];congr 1;omega
theorem Im{Q V W:Nat}(hQ:0<Q)(h:W<=V):(V%Q+Q-W%Q)%Q=(V-W)%Q:=by
 have e1:=Nat.div_add_mod V Q;have e2:=Nat.div_add_mod W Q;have h1:=Nat.mod_lt V hQ;have h2:=Nat.mod_lt W hQ;have hq:W/Q<=V/Q:=Nat.div_le_div_right h;generalize V%Q=r at*;generalize W%Q=s at*;generalize V/Q=a at*;generalize W/Q=b at*;obtain⟨c,rfl⟩:=Nat.exists_eq_add_of_le hq;rw[Nat.mul_add]at e1;rcases Nat.lt_or_ge r s with Wj|Wj
 ·cases c with
  |zero=>simp at e1;omega
  |succ c=>
   rw[Nat.mul_add,Nat.mul_one]at e1;rw[show V-W=Q*c+(r+Q-s) by omega,Nat.mul_add_mod]
 rw[show V-W=Q*c+(r-s) by omega,Nat.mul_add_mod,show r+Q-s=r-s+Q by omega,Nat.add_mod_right]
theorem Jf{B:Nat}(hB:0<B){V W:Nat}(h:W<=V)(k:Nat):(V/B^k%B+(B-1-W/B^k%B)+zy B V W k)%B=(V-W)/B^k%B:=by
 have hP:0<B^k:=Nat.pow_pos hB;have hQ:0<B^(k+1):=Nat.pow_pos hB;have e:=Im hQ h;have e2:V/B^k%B+(B-1-W/B^k%B)+zy B V W k=(V%B^(k+1)+B^(k+1)-W%B^(k+1))/B^k:=by
  rw[Je hB,Nat.add_mul_div_left _ _ hP,zy];omega
 rw[e2,<-Nat.mod_mul_right_div_self,<-Nat.mod_mul_right_div_self,<-Nat.pow_succ,e]
end
section
theorem Jg{B:Nat}(hB:0<B):∀(j N lo p d hi:Nat),lo<B^j->p<B->d<B->j<N->(fH B N (lo+B^j*(p+B*hi))).set j d=fH B N (lo+B^j*(d+B*hi))
 |0,N+1,lo,p,d,hi,hlo,hp,hd,_=>by
  have:lo=0:=by simpa using hlo
  subst this;simp only[Nat.pow_zero,Nat.zero_add,Nat.one_mul,fH,List.set_cons_zero,Nat.add_mul_mod_self_left,Nat.mod_eq_of_lt hd];rw[Nat.add_mul_div_left _ _ hB,Nat.add_mul_div_left _ _ hB,Nat.div_eq_of_lt hp,Nat.div_eq_of_lt hd]
 |j+1,N+1,lo,p,d,hi,hlo,hp,hd,hN=>by
  have e:∀q,(lo+B^(j+1)*(q+B*hi))%B=lo%B:=λq=>by
   rw[Nat.pow_succ,Nat.mul_comm (B^j) B,Nat.mul_assoc,Nat.add_mul_mod_self_left]
  have e2:∀q,(lo+B^(j+1)*(q+B*hi))/B=lo/B+B^j*(q+B*hi):=λq=>by
   rw[Nat.pow_succ,Nat.mul_comm (B^j) B,Nat.mul_assoc,Nat.add_mul_div_left _ _ hB]
  have afE:lo/B<B^j:=by rw[Nat.div_lt_iff_lt_mul hB];rwa[Nat.pow_succ]at hlo
  rw[fH,fH,List.set_cons_succ,e,e,e2,e2,Jg hB j N (lo/B) p d hi afE hp hd (by omega)]
theorem uc{B:Nat}(hB:0<B){N j u u' d:Nat}(hj:j<N)(hd:d<B)(hlo:u'%B^j=u%B^j)(Vs:u'/B^j%B=d)(hhi:u'/B^(j+1)=u/B^(j+1)):(fH B N u).set j d=fH B N u':=by
 have hP:0<B^j:=Nat.pow_pos hB;have f:∀u,u=u%B^j+B^j*(u/B^j%B+B*(u/B^(j+1))):=λu=>by
  have e1:=Nat.mod_add_div u (B^j);have e2:=Ky B u j;rw[Nat.add_comm]at e2;rw[<-e2,e1]
 rw[f u,Jg hB j N _ _ d _ (Nat.mod_lt _ hP) (Nat.mod_lt _ hB) hd hj]
 conv=>rhs;rw[f u',hlo,Vs,hhi]
where
 Ky (B v m:Nat):v/B^m=B*(v/B^(m+1))+v/B^m%B:=by
  rw[Nat.pow_succ,<-Nat.div_div_eq_div_mul,Nat.div_add_mod]
def mT(B V W i k:Nat):Nat:=((V%B^i)*W)%B^(i+k)+B^i*(V/B^i%B)*(W%B^k)
def mC(B V W i k:Nat):Nat:=mT B V W i k/B^(i+k)
def mV(B V W i k:Nat):Nat:=mT B V W i k%B^(i+k)+B^(i+k)*(((V%B^i)*W)/B^(i+k))
theorem SP{B:Nat}(hB:0<B)(V W i k:Nat):mT B V W i k<B^(i+k)*B:=by
 have h1:((V%B^i)*W)%B^(i+k)<B^(i+k):=Nat.mod_lt _ (Nat.pow_pos hB);have h2:V/B^i%B<B:=Nat.mod_lt _ hB;have h3:W%B^k<B^k:=Nat.mod_lt _ (Nat.pow_pos hB);have h4:B^i*(V/B^i%B)*(W%B^k)<=B^i*(B-1)*B^k:=Nat.mul_le_mul (Nat.mul_le_mul_left _ (by omega)) (Nat.le_of_lt h3);have h5:B^i*(B-1)*B^k=B^(i+k)*(B-1):=by rw[Nat.pow_add,Nat.mul_assoc,Nat.mul_assoc,Nat.mul_comm (B-1)]
 have h6:B^(i+k)*B=B^(i+k)*(B-1)+B^(i+k):=by
  obtain⟨b,rfl⟩:∃b,B=b+1:=⟨B-1,by omega⟩;rw[Nat.add_sub_cancel,Nat.mul_add,Nat.mul_one]
 unfold mT;omega
theorem SQ{B:Nat}(hB:0<B)(V W i k:Nat):mC B V W i k<B:=by
 rw[mC,Nat.div_lt_iff_lt_mul (Nat.pow_pos hB),Nat.mul_comm];exact SP hB V W i k
theorem Es{B:Nat}(V W i k:Nat):mT B V W i (k+1)=mT B V W i k+B^(i+k)*(((V%B^i)*W)/B^(i+k)%B+(V/B^i%B)*(W/B^k%B)):=by
 have e1:((V%B^i)*W)%B^(i+(k+1))=((V%B^i)*W)%B^(i+k)+B^(i+k)*(((V%B^i)*W)/B^(i+k)%B):=by rw[<-Nat.add_assoc,gz]
 have e2:W%B^(k+1)=W%B^k+B^k*(W/B^k%B):=gz B W k;unfold mT;rw[e1,e2,Nat.mul_add,Nat.mul_add (B^(i+k))];have e3:B^i*(V/B^i%B)*(B^k*(W/B^k%B))=B^(i+k)*((V/B^i%B)*(W/B^k%B)):=by
  rw[Nat.pow_add,Nat.mul_assoc,Nat.mul_assoc,Nat.mul_left_comm (V/B^i%B)]
 omega
theorem P3{B:Nat}(hB:0<B)(V W i k:Nat):(((V%B^i)*W)/B^(i+k)%B+(V/B^i%B)*(W/B^k%B)+mC B V W i k)/B=mC B V W i (k+1):=by
 have hP:0<B^(i+k):=Nat.pow_pos hB;rw[mC,mC,Es,<-Nat.add_assoc,Nat.pow_succ,<-Nat.div_div_eq_div_mul,Nat.add_mul_div_left _ _ hP];congr 1;omega
theorem SR{B:Nat}(V W i k:Nat):mV B V W i k%B^(i+k)=mT B V W i k%B^(i+k):=by
 rw[mV,Nat.add_mul_mod_self_left,Nat.mod_mod]
theorem Jh{B:Nat}(hB:0<B)(V W i k:Nat):mV B V W i k/B^(i+k)=((V%B^i)*W)/B^(i+k):=by
 have hP:0<B^(i+k):=Nat.pow_pos hB;rw[mV,Nat.add_mul_div_left _ _ hP,Nat.div_eq_of_lt (Nat.mod_lt _ hP),Nat.zero_add]
theorem Vt{B:Nat}(hB:0<B){V W i k N:Nat}(h:i+k<N):(fH B N (mV B V W i k))[i+k]? =some (((V%B^i)*W)/B^(i+k)%B):=by
 rw[w7 _ _ _ h,Jh hB]
theorem P4{B:Nat}(hB:0<B){V W i k N:Nat}(h:i+k<N):
  (fH B N (mV B V W i k)).set (i+k) ((((V%B^i)*W)/B^(i+k)%B+(V/B^i%B)*(W/B^k%B)+mC B V W i k)%B)=fH B N (mV B V W i (k+1)):=by
 have hP:0<B^(i+k):=Nat.pow_pos hB;have hPB:B^(i+(k+1))=B^(i+k)*B:=by rw[<-Nat.add_assoc,Nat.pow_succ]
 have hs:mT B V W i (k+1)/B^(i+k)=((V%B^i)*W)/B^(i+k)%B+(V/B^i%B)*(W/B^k%B)+mC B V W i k:=by
  rw[Es,Nat.add_mul_div_left _ _ hP,mC];omega
 have ht:mT B V W i (k+1)%B^(i+k)=mT B V W i k%B^(i+k):=by rw[Es,Nat.add_mul_mod_self_left]
 refine uc hB h (Nat.mod_lt _ hB) ?_ ?_ ?_
 ·rw[SR,<-ht,mV,hPB,Nat.mul_assoc,Nat.add_mul_mod_self_left,Nat.mod_mul_right_mod]
 ·rw[mV,hPB,Nat.mul_assoc,Nat.add_mul_div_left _ _ hP,Nat.add_mul_mod_self_left,Nat.mod_mul_right_div_self,Nat.mod_mod,hs]
 rw[show i+k+1=i+(k+1) by omega,Jh hB,show i+(k+1)=i+k+1 by omega,Nat.pow_succ,<-Nat.div_div_eq_div_mul,<-Nat.div_div_eq_div_mul,Jh hB]
theorem P5{B:Nat}(V W i:Nat):mV B V W i 0=(V%B^i)*W:=by
 rw[mV,mT,Nat.pow_zero,Nat.mod_one,Nat.mul_zero,Nat.add_zero,Nat.add_zero,Nat.mod_mod,Nat.mod_add_div]
theorem P6{B:Nat}(hB:0<B)(V W i:Nat):mC B V W i 0=0:=by
 rw[mC,mT,Nat.pow_zero,Nat.mod_one,Nat.mul_zero,Nat.add_zero,Nat.add_zero];exact Nat.div_eq_of_lt (Nat.mod_lt _ (Nat.pow_pos hB))
theorem Vu{B:Nat}(hB:0<B){V W i n N:Nat}(hW:W<B^n)(h:i+n<N):(fH B N (mV B V W i n)).set (i+n) ((0+mC B V W i n)%B)=fH B N ((V%B^(i+1))*W):=by
 have hP:0<B^(i+n):=Nat.pow_pos hB;have hp:(V%B^i)*W<B^(i+n):=by
  have h1:V%B^i<B^i:=Nat.mod_lt _ (Nat.pow_pos hB);rw[Nat.pow_add];by_cases h0:W=0
  ·subst h0;rw[Nat.mul_zero];exact Nat.mul_pos (Nat.pow_pos hB) (Nat.pow_pos hB)
  calc (V%B^i)*W<B^i*W:=Nat.mul_lt_mul_of_pos_right h1 (by omega)
   _<=B^i*B^n:=Nat.mul_le_mul_left _ (Nat.le_of_lt hW)
 have hT:mT B V W i n=(V%B^(i+1))*W:=by
  rw[mT,Nat.mod_eq_of_lt hp,Nat.mod_eq_of_lt hW,gz,Nat.add_mul]
 have hlt:=SP hB V W i n;rw[hT]at hlt;refine uc hB h (Nat.mod_lt _ hB) ?_ ?_ ?_
 ·rw[SR,hT]
 ·rw[Nat.zero_add,mC,hT]
 rw[Nat.pow_succ B (i+n),Nat.div_eq_of_lt hlt,<-Nat.div_div_eq_div_mul,Jh hB,Nat.div_eq_of_lt hp,Nat.zero_div]
def sT(B V f e i:Nat):Nat:=V%B^i*f+e
def sC(B V f e i:Nat):Nat:=sT B V f e i/B^i
theorem Ji(B V f e:Nat):sC B V f e 0=e:=by simp[sC,sT,Nat.mod_one]
theorem Jj(B V f e i:Nat):sT B V f e (i+1)=sT B V f e i+B^i*(V/B^i%B*f):=by
 unfold sT;rw[gz,Nat.add_mul,Nat.mul_assoc];omega
theorem Jk{B:Nat}(hB:0<B)(V f e i:Nat):(V/B^i%B*f+sC B V f e i)/B=sC B V f e (i+1):=by
 have hP:0<B^i:=Nat.pow_pos hB;rw[sC,sC,Jj,Nat.pow_succ,<-Nat.div_div_eq_div_mul,Nat.add_mul_div_left _ _ hP];congr 1;omega
theorem NK{B:Nat}(hB:0<B)(V f e i:Nat):(V/B^i%B*f+sC B V f e i)%B=(V*f+e)/B^i%B:=by
 have hP:0<B^i:=Nat.pow_pos hB;have h1:V*f+e=sT B V f e (i+1)+B^i*(B*(V/B^(i+1)*f)):=by
  have e1:=Nat.mod_add_div V (B^(i+1));unfold sT
  conv=>lhs;rw[<-e1,Nat.add_mul]
  rw[Nat.pow_succ,Nat.mul_assoc,Nat.mul_assoc];omega
 rw[h1,Nat.add_mul_div_left _ _ hP,Nat.add_mul_mod_self_left,Jj,Nat.add_mul_div_left _ _ hP,sC,Nat.add_comm]
theorem SS{B:Nat}(hB:0<B){V f e:Nat}(hf:f<B)(he:e<B)(i:Nat):sC B V f e i<B:=by
 have hP:0<B^i:=Nat.pow_pos hB;rw[sC,Nat.div_lt_iff_lt_mul hP];have h1:V%B^i<=B^i-1:=by have:=Nat.mod_lt V hP;omega
 have h2:V%B^i*f<=(B^i-1)*(B-1):=Nat.mul_le_mul h1 (by omega);obtain⟨p,hp⟩:∃p,B^i=p+1:=⟨B^i-1,by omega⟩;obtain⟨b,rfl⟩:∃b,B=b+1:=⟨B-1,by omega⟩;unfold sT;rw[hp]at h2⊢;rw[Nat.add_sub_cancel,Nat.add_sub_cancel]at h2;have h3:(b+1)*(p+1)=p*b+b+p+1:=by rw[Nat.add_mul,Nat.mul_add,Nat.mul_comm b p];omega
 omega
theorem Vv{B V f e i:Nat}(h:V<B^i):sC B V f e i=(V*f+e)/B^i:=by rw[sC,sT,Nat.mod_eq_of_lt h]
def sU(B V f e i:Nat):Nat:=sT B V f e i%B^i+B^i*(V/B^i)
def qU(B V d n:Nat):Nat:=V%B^n+B^n*(V/B^n/d)
theorem P7(B V d:Nat):qU B V d 0=V/d:=by simp[qU,Nat.mod_one]
theorem Vw{B V d n:Nat}(h:V<B^n):qU B V d n=V:=by simp[qU,Nat.mod_eq_of_lt h,Nat.div_eq_of_lt h]
theorem P8(B V m:Nat):V/B^m=B*(V/B^(m+1))+V/B^m%B:=by rw[Nat.pow_succ,<-Nat.div_div_eq_div_mul,Nat.div_add_mod]
theorem SU{B d:Nat}(V m:Nat):V/B^m=(V/B^(m+1)%d*B+V/B^m%B)+d*(B*(V/B^(m+1)/d)):=by
 have h1:=P8 B V m;have h2:=Nat.mod_add_div (V/B^(m+1)) d;generalize V/B^(m+1)=q at*;generalize V/B^m%B=y at*;rw[h1]
 conv=>lhs;rw[<-h2]
 rw[Nat.mul_add,Nat.mul_left_comm B d,Nat.mul_comm B (q%d)];omega
theorem YW{B d:Nat}(hd:0<d)(V m:Nat):V/B^m/d=B*(V/B^(m+1)/d)+(V/B^(m+1)%d*B+V/B^m%B)/d:=by
 conv=>lhs;rw[SU (B:=B) (d:=d) V m]
 rw[Nat.add_mul_div_left _ _ hd,Nat.add_comm]
theorem YX{B d:Nat}(V m:Nat):V/B^m%d=(V/B^(m+1)%d*B+V/B^m%B)%d:=by
 conv=>lhs;rw[SU (B:=B) (d:=d) V m]
 rw[Nat.add_mul_mod_self_left]
theorem YY{B d:Nat}(hB:0<B)(hd:0<d)(V m:Nat):V/B^(m+1)%d*B+V/B^m%B<d*B:=by
 have h1:=Nat.mod_lt (V/B^(m+1)) hd;have h2:=Nat.mod_lt (V/B^m) hB;have h3:(V/B^(m+1)%d+1)*B<=d*B:=Nat.mul_le_mul_right _ h1;rw[Nat.add_mul]at h3;omega
theorem NL{B:Nat}(hB:0<B)(V d n:Nat):qU B V d n/B^n=V/B^n/d:=by
 have hP:0<B^n:=Nat.pow_pos hB;rw[qU,Nat.add_mul_div_left _ _ hP,Nat.div_eq_of_lt (Nat.mod_lt _ hP),Nat.zero_add]
theorem YZ(B V d n:Nat):qU B V d n%B^n=V%B^n:=by rw[qU,Nat.add_mul_mod_self_left,Nat.mod_mod]
theorem P9{B:Nat}(V d m:Nat):qU B V d (m+1)%B^m=V%B^m:=by
 rw[qU,Nat.pow_succ,Nat.mul_assoc,Nat.add_mul_mod_self_left,Nat.mod_mul_right_mod]
theorem Vx{B:Nat}(hB:0<B){V d m N:Nat}(h:m<N):(fH B N (qU B V d (m+1)))[m]? =some (V/B^m%B):=by
 have hP:0<B^m:=Nat.pow_pos hB;rw[w7 _ _ _ h,qU,Nat.pow_succ,Nat.mul_assoc,Nat.add_mul_div_left _ _ hP,Nat.add_mul_mod_self_left,Nat.mod_mul_right_div_self,Nat.mod_mod]
theorem Qa{B:Nat}(hB:0<B){V d m N:Nat}(hd:0<d)(h:m<N):(fH B N (qU B V d (m+1))).set m ((V/B^(m+1)%d*B+V/B^m%B)/d)=fH B N (qU B V d m):=by
 have hx:(V/B^(m+1)%d*B+V/B^m%B)/d<B:=by rw[Nat.div_lt_iff_lt_mul hd,Nat.mul_comm B d];exact YY hB hd V m
 have hq:=YW (B:=B) hd V m;refine uc hB h hx ?_ ?_ ?_
 ·rw[YZ,P9]
 ·rw[NL hB,hq,Nat.mul_add_mod,Nat.mod_eq_of_lt hx]
 rw[NL hB,Nat.pow_succ,<-Nat.div_div_eq_div_mul,NL hB,hq,Nat.mul_add_div hB,Nat.div_eq_of_lt hx,<-Nat.pow_succ];rfl
end
section
theorem Qb{B v:Nat}(hB:2<=B)(h0:v≠0)(h:v<B):can B v=[v]:=by
 have:=NI hB (l:=[]) h0 (by simpa using h);simpa[val]using this.symm
theorem Qc{B v:Nat}(hB:2<=B)(h0:v/B≠0)(h:v<B*B):can B v=[v%B,v/B]:=by
 have h1:v/B<B:=by rw[Nat.div_lt_iff_lt_mul (by omega)];exact h
 have h2:v%B<B:=Nat.mod_lt _ (by omega);have:=NI hB (l:=[v%B]) h0 (by simp;exact⟨h2,h1⟩);simp only[List.cons_append,List.nil_append,val,Nat.mul_zero,Nat.add_zero]at this;rw[Nat.mod_add_div]at this;exact this.symm
theorem oZ{B:Nat}{l:List Nat}(h:∀x∈l,x<B){i:Nat}(hi:i<l.length):l[i]? =some (val B l/B^i%B):=by
 rw[<-qf l h i];simp[List.getD,hi]
def CA(v w:Nat):Int:=if v<w then-1 else if v=w then 0 else 1
theorem w8{v w:Nat}(h:v<w):CA v w=-1:=by simp[CA,h]
theorem Et(v:Nat):CA v v=0:=by simp[CA]
theorem zZ{v w:Nat}(h:w<v):CA v w=1:=by
 have h1:¬v<w:=by omega
 have h2:¬v=w:=by omega
 simp[CA,h1,h2]
theorem BD{B v w:Nat}(hB:2<=B)(h:(can B v).length<(can B w).length):v<w:=
 Nat.lt_of_lt_of_le (dU hB v) (uT hB h)
theorem GN(B v m:Nat):v/B^m=B*(v/B^(m+1))+v/B^m%B:=by
 rw[Nat.pow_succ,<-Nat.div_div_eq_div_mul,Nat.div_add_mod]
theorem C5{B v w m:Nat}(h:v/B^m<w/B^m):v<w:=by
 rcases Nat.lt_or_ge v w with h1|h1
 ·exact h1
 have:=Nat.div_le_div_right (c:=B^m) h1;omega
theorem Kz{B v w m:Nat}(h:v/B^(m+1)=w/B^(m+1)):(v/B^m%B=w/B^m%B/\v/B^m=w/B^m)\/(v/B^m%B<w/B^m%B/\v<w)\/(w/B^m%B<v/B^m%B/\w<v):=by
 have h1:=GN B v m;have h2:=GN B w m;rw[<-h]at h2;rcases Nat.lt_trichotomy (v/B^m%B) (w/B^m%B)with h3|h3|h3
 ·exact .inr (.inl ⟨h3,C5 (B:=B) (m:=m) (by omega)⟩)
 ·exact .inl ⟨h3,by omega⟩
 exact .inr (.inr ⟨h3,C5 (B:=B) (m:=m) (by omega)⟩)
end
end Go.Fw
namespace Go.Proofs.YtningmnklfpfjaaGreat
section
open Go.Fw
theorem z1(l:List Nat)(hl:l.length<=1000000000000):bu l=some (kY l):=by
 unfold bu;refine nK (λy=>y.length<=1000000000000/\kY y=kY l) (λe=>e=kY l) (λy=>y.length) ?_ ⟨hl,Y⟩ (λe he=>by rw[he]);rintro y ⟨hy,ht⟩;rcases vL y with rfl|⟨ys,rfl⟩|⟨ys,x,hx,rfl⟩
 ·right;exact⟨[],by simp[cK],ht⟩
 ·left;have h1:((ys++[0]).length:Int)=((ys.length+1:Nat):Int):=by simp
  have h2:ys.length<=9223372036854775807:=by simp at hy;omega
  refine⟨ys,?_,⟨by simp at hy⊢;omega,by rw[<-ht,rj]⟩,by simp⟩;simp only[cK,Option.bind_some,h1,GG h2];rw[bL (a:=0) (by simp),qb (by simp)];simp
 right;have h1:((ys++[x]).length:Int)=((ys.length+1:Nat):Int):=by simp
 have h2:ys.length<=9223372036854775807:=by simp at hy;omega
 refine⟨ys++[x],?_,by rw[<-ht,vK _ hx]⟩;simp only[cK,Option.bind_some,h1,GG h2];rw[bL (a:=x) (by simp)];simp[hx]
def zc(n:Bool)(v:Nat):Zr:=⟨n&&v != 0,can 4294967296 v⟩
theorem Jl(n:Bool):zc n 0=⟨false,[]⟩:=by simp[zc,tq]
theorem NM(n:Bool){v:Nat}(h:v≠0):zc n v=⟨n,can 4294967296 v⟩:=by simp[zc,h]
def EJ(l:List Nat):Prop:=(∀x∈l,x<4294967296)/\l.length<=100000000000
abbrev vl(l:List Nat):Nat:=val 4294967296 l
theorem jL(n:Bool)(l:List Nat)(h:EJ l):cu n l=some (zc n (vl l)):=by
 unfold cu;rw[z1 l (by have:=h.2;omega),qe (by decide) h.1];show _=some (zc n (val 4294967296 l));by_cases hz:val 4294967296 l=0
 ·rw[hz,Jl];simp[tq]
 have:can 4294967296 (val 4294967296 l)≠[]:=λe=>hz (Eo (by decide) e);rw[NM _ hz];simp[this]
theorem qg(n:Bool)(v:Nat)(h:v<18446744073709551616):eL n v=some (zc n v):=by
 unfold eL;by_cases hz:v=0
 ·subst hz;simp[Jl]
 rw[NM _ hz];by_cases h1:v/2^32=0
 ·rw[Qb (by decide) hz (by omega)];simp only[Option.bind_some,hz,h1,decide_false,decide_true,cond_false,cond_true];rw[Nat.mod_eq_of_lt (by omega)]
 rw[Qc (by decide) (by omega) (by omega)];simp only[Option.bind_some,hz,h1,decide_false,cond_false];rw[Nat.mod_eq_of_lt (a:=v/2^32) (by omega)]
theorem NN{a b s:Nat}(h:a<2^s):a ||| b*2^s=a+b*2^s:=by
 rw[Nat.or_comm,Nat.mul_comm b,<-Nat.two_pow_add_eq_or_of_lt h,Nat.add_comm]
theorem low_eq(l:List Nat)(h:∀x∈l,x<4294967296)(hl:l.length<=2):dJ l=some (vl l):=by
 rcases l with _|⟨x,_|⟨y,_|⟨z,l⟩⟩⟩
 ·simp[dJ,vl,val]
 ·have hx:=h x (by simp);simp only[dJ,ym (l:=[x]) (a:=x) rfl];simp[vl,val];omega
 ·have hx:=h x (by simp);have hy:=h y (by simp);simp only[dJ,ym (l:=[x,y]) (a:=x) Y,ND (l:=[x,y]) (a:=y) Y,Option.bind_some];rw[Nat.mod_eq_of_lt (a:=x) (by omega),Nat.mod_eq_of_lt (a:=y) (by omega),Nat.mod_eq_of_lt (a:=y*2^32) (by omega),NN (by omega),Nat.mod_eq_of_lt (by omega)];simp[vl,val];omega
 simp at hl
theorem gJ(x c:Nat)(h:x+c<18446744073709551616):bR x c=some ((x+c)%4294967296,(x+c)/4294967296):=by
 simp[bR,Nat.mod_eq_of_lt h]
theorem jO(v w:Nat)(hv:(can 4294967296 v).length<=100000000000)(hw:(can 4294967296 w).length<=100000000000):cW (can 4294967296 v) (can 4294967296 w)=some (CA v w):=by
 unfold cW;rcases Nat.lt_trichotomy (can 4294967296 v).length (can 4294967296 w).length with hl|hl|hl
 ·rw[w8 (BD (by decide) hl)];simp only[Option.bind_some];rw[show decide (((can 4294967296 v).length:Int)≠((can 4294967296 w).length:Int))=true by simp;omega,show decide (((can 4294967296 v).length:Int)<((can 4294967296 w).length:Int))=true by simp;omega];rfl
 ·simp only[Option.bind_some];rw[show decide (((can 4294967296 v).length:Int)≠((can 4294967296 w).length:Int))=false by simp;omega,cond_false];refine nK (λy=>∃n:Nat,y=(n:Int)-1/\n<=(can 4294967296 v).length/\v/4294967296^n=w/4294967296^n) (λe=>e=(if v=w then .inl ()else .inr (CA v w))) (λy=>(y+1).toNat) ?_ ⟨(can 4294967296 v).length,?_,Nat.le_refl _,?_⟩ ?_
  ·rintro y ⟨n,rfl,hn,he⟩;cases n with
   |zero=>
    right;have:v=w:=by simpa using he
    subst this;exact⟨_,by simp,Y⟩
   |succ m=>
    have EF:=Ep (B:=4294967296) (by decide) (v:=v) (j:=m) (by omega);have hgw:=Ep (B:=4294967296) (by decide) (v:=w) (j:=m) (by omega);have e0:((m+1:Nat):Int)-1=(m:Int):=by omega
    rw[e0];rcases Kz he with⟨h1,h2⟩|⟨h1,h2⟩|⟨h1,h2⟩
    ·left;refine⟨(m:Int)-1,?_,⟨m,Y,by omega,h2⟩,by omega⟩;simp only[Option.bind_some,bL EF,bL hgw,h1];rw[cU (by omega) (by omega)];simp
    ·right;refine⟨.inr (-1),?_,by rw[if_neg (by omega),w8 h2]⟩;simp only[Option.bind_some,bL EF,bL hgw];simp[h1,Nat.ne_of_lt h1]
    right;refine⟨.inr 1,?_,by rw[if_neg (by omega),zZ h2]⟩;simp only[Option.bind_some,bL EF,bL hgw];simp[Nat.not_lt_of_lt h1,Nat.ne_of_gt h1]
  ·rw[cU (by omega) (by omega)]
  ·rw[BC (by decide) (Nat.le_refl _),BC (by decide) (by omega)]
  rintro e rfl;by_cases h:v=w
  ·subst h;simp[Et]
  simp[h]
 rw[zZ (BD (by decide) hl)];simp only[Option.bind_some];rw[show decide (((can 4294967296 v).length:Int)≠((can 4294967296 w).length:Int))=true by simp;omega,show decide (((can 4294967296 v).length:Int)<((can 4294967296 w).length:Int))=false by simp;omega];rfl
theorem z2{l:List Nat}(h:∀x∈l,x<4294967296)(i:Nat):l.getD i 0<4294967296:=by
 rcases Nat.lt_or_ge i l.length with hi|hi
 ·exact h _ (List.mem_of_getElem? (r9 hi))
 rw[vf hi];decide
theorem yQ(a b:List Nat)(ha:EJ a)(hb:EJ b):eF a b=some (fH 4294967296 (max a.length b.length+1) (vl a+vl b)):=by
 obtain⟨hA,hla⟩:=ha;obtain⟨hB,hlb⟩:=hb;have hV:val 4294967296 a<4294967296^(max a.length b.length):=Nat.lt_of_lt_of_le (iQ a hA) (Nat.pow_le_pow_right (by decide) (by omega));have hW:val 4294967296 b<4294967296^(max a.length b.length):=Nat.lt_of_lt_of_le (iQ b hB) (Nat.pow_le_pow_right (by decide) (by omega));unfold eF;simp only[Option.bind_some];rw[show max (a.length:Int) (b.length:Int)=((max a.length b.length:Nat):Int) by omega,bZ (by omega),BA (by decide) (by omega),Option.bind_some];refine ot (λk=>(EI 4294967296 (vl a) (vl b) k,fH 4294967296 k (vl a+vl b))) (by simp[GK,fH]) (λk hk=>?_) ?_
 ·have hx:=z2 hA k;have hy:=z2 hB k;have hc:=Il (B:=4294967296) (by decide) (vl a) (vl b) k;have hxe:=qf a hA k;have hye:=qf b hB k;simp only[Option.bind_some];rw[Nat.mod_eq_of_lt (a:=a.getD k 0) (by omega),Nat.mod_eq_of_lt (a:=b.getD k 0) (by omega),Nat.mod_eq_of_lt (a:=a.getD k 0+b.getD k 0) (by omega),gJ _ _ (by omega)];simp only[Option.bind_some];rw[Cz (by decide) (by rw[bT];omega),Option.bind_some,hxe,hye,GJ (by decide),Er (by decide),<-ou]
 have hc:=Il (B:=4294967296) (by decide) (vl a) (vl b) (max a.length b.length);simp only;rw[gJ _ _ (by omega)];simp only[Option.bind_some];rw[Cz (by decide) (by rw[bT];omega),Option.bind_some,Nat.zero_add,P2 hV hW,<-ou]
theorem yR(a b:List Nat)(ha:EJ a)(hb:EJ b)(hl:b.length<=a.length)(hle:vl b<=vl a):dg a b=some (fH 4294967296 a.length (vl a-vl b)):=by
 obtain⟨hA,hla⟩:=ha;obtain⟨hB,hlb⟩:=hb;have hmx:max a.length b.length=a.length:=by omega
 unfold dg;simp only[Option.bind_some];rw[BA (by decide) (by omega),Option.bind_some,hmx];refine ot (λk=>(zy 4294967296 (vl a) (vl b) k,fH 4294967296 k (vl a-vl b))) (by simp[GL,fH]) (λk hk=>?_) Y;have hx:=z2 hA k;have hy:=z2 hB k;have hc:=NJ (B:=4294967296) (by decide) (vl a) (vl b) k;have hxe:=qf a hA k;have hye:=qf b hB k;simp only[Option.bind_some];rw[Nat.mod_eq_of_lt (a:=a.getD k 0) (by omega),Nat.mod_eq_of_lt (a:=b.getD k 0) (by omega),rf (by omega) (by omega),Nat.mod_eq_of_lt (a:=a.getD k 0+(4294967295-b.getD k 0)) (by omega),gJ _ _ (by omega)];simp only[Option.bind_some];rw[Cz (by decide) (by rw[bT];omega),Option.bind_some,hxe,hye,GM (B:=4294967296) (by decide),Jf (B:=4294967296) (by decide) hle,<-ou]
theorem GO(a b:List Nat)(ha:EJ a)(hb:EJ b):fO a b=some (fH 4294967296 (a.length+b.length) (vl a*vl b)):=by
 obtain⟨hA,hla⟩:=ha;obtain⟨hB,hlb⟩:=hb;unfold fO;simp only[Option.bind_some];rw[ua (by omega),q9 (by decide) (by omega),Option.bind_some];refine bN (λi=>((i:Int),fH 4294967296 (a.length+b.length) (vl a%4294967296^i*vl b))) a.length (fH 4294967296 (a.length+b.length) (vl a%4294967296^a.length*vl b)) (by simp[Nat.mod_one,th]) (λi hi=>?_) (by simp) (by rw[Nat.mod_eq_of_lt (iQ a hA)]);have hgx:=oZ hA hi;have hx:val 4294967296 a/4294967296^i%4294967296<4294967296:=Nat.mod_lt _ (by decide);simp only[Option.bind_some,show decide ((i:Int)<(a.length:Int))=true by simp;omega,cond_true];rw[bL hgx,Option.bind_some];refine bN (λk=>((k:Int),mC 4294967296 (vl a) (vl b) i k,fH 4294967296 (a.length+b.length) (mV 4294967296 (vl a) (vl b) i k))) b.length (mC 4294967296 (vl a) (vl b) i b.length,fH 4294967296 (a.length+b.length) (mV 4294967296 (vl a) (vl b) i b.length)) (by simp[P6,P5]) (λk hk=>?_) (by simp) ?_
 ·have hgy:=oZ hB hk;have hgp:=Vt (B:=4294967296) (by decide) (V:=vl a) (W:=vl b) (i:=i) (k:=k) (N:=a.length+b.length) (by omega);have hy:val 4294967296 b/4294967296^k%4294967296<4294967296:=Nat.mod_lt _ (by decide);have hp:vl a%4294967296^i*vl b/4294967296^(i+k)%4294967296<4294967296:=Nat.mod_lt _ (by decide);have hc:=SQ (B:=4294967296) (by decide) (vl a) (vl b) i k;have hxy:val 4294967296 a/4294967296^i%4294967296*(val 4294967296 b/4294967296^k%4294967296)<=4294967295*4294967295:=Nat.mul_le_mul (by omega) (by omega);simp only[Option.bind_some,show decide ((k:Int)<(b.length:Int))=true by simp;omega,cond_true];rw[bL hgy,Option.bind_some,ua (by omega),cG (by rw[bT];omega),Option.bind_some,hgp,Option.bind_some]
  rw[Nat.mod_eq_of_lt (a:=vl a%4294967296^i*vl b/4294967296^(i+k)%4294967296) (by omega),Nat.mod_eq_of_lt (a:=val 4294967296 a/4294967296^i%4294967296) (b:=18446744073709551616) (by omega),Nat.mod_eq_of_lt (a:=val 4294967296 b/4294967296^k%4294967296) (b:=18446744073709551616) (by omega),Nat.mod_eq_of_lt (a:=val 4294967296 a/4294967296^i%4294967296*(val 4294967296 b/4294967296^k%4294967296)) (by omega),Nat.mod_eq_of_lt (a:=vl a%4294967296^i*vl b/4294967296^(i+k)%4294967296+_) (by omega),gJ _ _ (by omega)];simp only[Option.bind_some];rw[fG (by rw[bT];omega),Option.bind_some,P3 (B:=4294967296) (by decide),P4 (B:=4294967296) (by decide) (by omega),bZ (by omega)]
 have hc:=SQ (B:=4294967296) (by decide) (vl a) (vl b) i b.length;simp only[Option.bind_some];rw[ua (by omega),gJ _ _ (by omega)];simp only[Option.bind_some];rw[cG (by rw[bT];omega),Option.bind_some,fG (by rw[bT];omega),Option.bind_some,Vu (B:=4294967296) (by decide) (iQ b hB) (by omega),bZ (by omega)]
end
section
open Go.Fw
theorem Qd{a b s:Nat}(h:a<2^s):b*2^s ||| a=b*2^s+a:=by rw[Nat.or_comm,NN h,Nat.add_comm]
theorem Jm{a b:Nat}(h:a<4294967296):b*4294967296 ||| a=b*4294967296+a:=Qd (s:=32) h
theorem GP(a:List Nat)(d:Nat)(ha:EJ a)(hd:0<d)(hd2:d<=4294967296):gY a d=some (vl a%d,fH 4294967296 a.length (vl a/d)):=by
 obtain⟨hA,hla⟩:=ha;unfold gY;simp only[Option.bind_some];rw[cU (by omega) (by omega)];refine bN (λi=>(vl a/4294967296^(a.length-i)%d,((a.length-i:Nat):Int)-1,fH 4294967296 a.length (qU 4294967296 (vl a) d (a.length-i)))) a.length (vl a%d,fH 4294967296 a.length (vl a/d)) ?_ (λi hi=>?_) (by simp[P7]) ?_
 ·simp only[Nat.sub_zero];rw[Vw (iQ a hA),zY a hA,Nat.div_eq_of_lt (iQ a hA),Nat.zero_mod]
 ·obtain⟨m,hm⟩:∃m,a.length-i=m+1:=⟨a.length-i-1,by omega⟩;have hm':a.length-(i+1)=m:=by omega
  have hml:m<a.length:=by omega
  rw[hm,hm'];have hy:vl a/4294967296^m%4294967296<4294967296:=Nat.mod_lt _ (by decide);have hr:vl a/4294967296^(m+1)%d<d:=Nat.mod_lt _ hd;have hq:=YY (B:=4294967296) (by decide) hd (vl a) m;have hqd:(vl a/4294967296^(m+1)%d*4294967296+vl a/4294967296^m%4294967296)/d<4294967296:=by rw[Nat.div_lt_iff_lt_mul hd,Nat.mul_comm 4294967296 d];exact hq
  have hg:=Vx (B:=4294967296) (by decide) (V:=vl a) (d:=d) (m:=m) (N:=a.length) hml;have hlt:vl a/4294967296^(m+1)%d*4294967296+vl a/4294967296^m%4294967296<18446744073709551616:=by omega
  have V8:vl a/4294967296^(m+1)%d*4294967296<18446744073709551616:=Nat.lt_of_le_of_lt (Nat.le_add_right _ _) hlt;have B0:vl a/4294967296^m%4294967296<18446744073709551616:=Nat.lt_of_le_of_lt (Nat.le_add_left _ _) hlt;have hi1:((m+1:Nat):Int)-1=(m:Int):=by omega
  simp only[hi1,show decide ((0:Int)<=(m:Int))=true by simp,cond_true,Option.bind_some];rw[cG (by rw[bT];omega),Option.bind_some,hg];simp only[Option.bind_some];rw[show(2:Nat)^32=4294967296 from rfl];rw[Nat.mod_eq_of_lt (a:=vl a/4294967296^(m+1)%d*4294967296) V8,Nat.mod_eq_of_lt (a:=vl a/4294967296^m%4294967296) (b:=18446744073709551616) B0,Jm hy,Nat.mod_eq_of_lt (a:=vl a/4294967296^(m+1)%d*4294967296+vl a/4294967296^m%4294967296) hlt,Em (by omega) hlt,zX (by omega)];simp only[Option.bind_some];rw[Nat.mod_eq_of_lt (b:=4294967296) (a:=(vl a/4294967296^(m+1)%d*4294967296+vl a/4294967296^m%4294967296)/d) hqd,fG (by rw[bT];omega),Option.bind_some,cU (by omega) (by omega)];rw[Qa (B:=4294967296) (by decide) hd hml,<-YX (B:=4294967296) (d:=d) (vl a) m]
 simp only;rw[qc (by rw[bT]),Option.bind_some]
theorem shiftLeft_eq(a:List Nat)(s:Nat)(ha:EJ a)(hs:s<32):fm a s=some (fH 4294967296 (a.length+1) (vl a*2^s)):=by
 obtain⟨hA,hla⟩:=ha;have hf:2^s<4294967296:=by
  have:2^s<2^32:=Nat.pow_lt_pow_right (by decide) hs;omega
 unfold fm;simp only[Option.bind_some];rw[bZ (by omega),BA (by decide) (by omega),Option.bind_some];refine bN (λi=>((i:Int),sC 4294967296 (vl a) (2^s) 0 i,fH 4294967296 i (vl a*2^s+0))) a.length (sC 4294967296 (vl a) (2^s) 0 a.length,fH 4294967296 a.length (vl a*2^s+0)) (by simp[Ji,fH]) (λi hi=>?_) (by simp) ?_
 ·have hx:vl a/4294967296^i%4294967296<4294967296:=Nat.mod_lt _ (by decide);have hc:=SS (B:=4294967296) (by decide) (V:=vl a) hf (show(0:Nat)<4294967296 by decide) i;have hxf:vl a/4294967296^i%4294967296*2^s<=4294967295*4294967295:=Nat.mul_le_mul (by omega) (by omega);have hg:a[i]? =some (vl a/4294967296^i%4294967296):=oZ hA hi;simp only[show decide ((i:Int)<(a.length:Int))=true by simp;omega,cond_true];rw[bL hg];simp only[Option.bind_some];rw[show min s 64=s by omega,Nat.mod_eq_of_lt (a:=vl a/4294967296^i%4294967296) (b:=18446744073709551616) (by omega),Nat.mod_eq_of_lt (b:=18446744073709551616) (by omega),gJ _ _ (by omega)];simp only[Option.bind_some];rw[Cz (by decide) (by rw[bT];omega),Option.bind_some,Jk (B:=4294967296) (by decide),NK (B:=4294967296) (by decide),bZ (by omega),<-ou]
 have hc:=SS (B:=4294967296) (by decide) (V:=vl a) hf (show(0:Nat)<4294967296 by decide) a.length;simp only;rw[gJ _ _ (by omega)];simp only[Option.bind_some];rw[Cz (by decide) (by rw[bT];omega),Option.bind_some,Nat.zero_add,Vv (iQ a hA),<-ou];simp
theorem CB(a:List Nat)(s:Nat):iw a s=fm a s:=rfl
def vM:Ox:=[0,1,2,2,3,3,3,3,4,4,4,4,4,4,4,4,5,5,5,5,5,5,5,5,5,5,5,5,5,5,5,5]++List.replicate 32 6++List.replicate 64 7++List.replicate 128 8
theorem Vy:∀y:Nat,y<256->uH vM (y:Int)=some ((uH vM (y:Int)).getD 0)/\(uH vM (y:Int)).getD 0<=8/\y<2^(uH vM (y:Int)).getD 0/\(y=0\/2^(uH vM (y:Int)).getD 0<=2*y):=by decide+kernel
set_option maxRecDepth 20000 in
theorem NO(x:Nat)(h:x<4294967296):∃n:Nat,gp x=some (n:Int)/\n<=32/\x<2^n/\(x=0\/2^n<=2*x):=by
 have key:∀(y k:Nat),y<256->y=x/2^k->k<=24->(x≠0->y≠0)->∃n:Nat,(((uH vM ((y%256:Nat):Int)).bind λgX=>(some (IntKind.i64.wrap (gX:Int))).bind λgM=>(some (IntKind.i64.wrap ((k:Int)+gM))).bind λfS=>some fS)=some (n:Int))/\n<=32/\x<2^n/\(x=0\/2^n<=2*x):=by
  intro y k hy hyx hk hnz;obtain⟨h1,h2,h3,h4⟩:=Vy y hy;rw[Nat.mod_eq_of_lt hy,h1];generalize (uH vM (y:Int)).getD 0=t at*;have hp:0<2^k:=Nat.two_pow_pos _;have e1:2^(k+t)=2^k*2^t:=Nat.pow_add ..;have e2:=Nat.div_add_mod x (2^k);have e3:=Nat.mod_lt x hp;rw[<-hyx]at e2;refine⟨k+t,?_,by omega,?_,?_⟩
  ·simp only[Option.bind_some];rw[tZ (by omega),ua (by omega)]
  ·rw[e1];have:2^k*(y+1)<=2^k*2^t:=Nat.mul_le_mul_left _ h3;rw[Nat.mul_add]at this;omega
  rcases h4 with h4|h4
  ·left;cases Nat.eq_zero_or_pos x with
   |inl h=>exact h
   |inr h=>exact absurd h4 (hnz (by omega))
  right;rw[e1];have:2^k*2^t<=2^k*(2*y):=Nat.mul_le_mul_left _ h4;rw[show 2^k*(2*y)=2*(2^k*y) by rw[Nat.mul_left_comm]]at this;omega
 unfold gp;simp only[cK,Option.bind_some];by_cases c1:65536<=x
 ·rw[show decide (65536<=x)=true by simpa using c1];simp only[cond_true];by_cases c2:256<=x/2^16
  ·rw[show decide (256<=x/2^16)=true by simpa using c2];simp only[cond_true];rw[show IntKind.i64.wrap (16+8)=((24:Nat):Int) by decide];exact key (x/2^16/2^8) 24 (by omega) (by omega) (by omega) (by omega)
  rw[show decide (256<=x/2^16)=false by simpa using c2];simp only[cond_false];exact key (x/2^16) 16 (by omega) Y (by omega) (by omega)
 rw[show decide (65536<=x)=false by simpa using c1];simp only[cond_false];by_cases c2:256<=x
 ·rw[show decide (256<=x)=true by simpa using c2];simp only[cond_true];rw[show IntKind.i64.wrap (0+8)=((8:Nat):Int) by decide];exact key (x/2^8) 8 (by omega) Y (by omega) (by omega)
 rw[show decide (256<=x)=false by simpa using c2];simp only[cond_false];exact key x 0 (by omega) (by simp) (by omega) (λh=>h)
theorem Y0(x:Nat)(h:x<4294967296)(h0:x≠0):∃s:Nat,dx x=some (s:Int)/\s<32/\2147483648<=x*2^s/\x*2^s<4294967296:=by
 obtain⟨n,h1,h2,h3,h4⟩:=NO x h;have h4:2^n<=2*x:=h4.resolve_left h0;have hn:n≠0:=by rintro rfl;simp at h3;omega
 refine⟨32-n,?_,by omega,?_,?_⟩
 ·unfold dx;rw[h1];simp only[Option.bind_some];rw[cU (by omega) (by omega)];congr 1;omega
 ·have:2^n*2^(32-n)<=2*x*2^(32-n):=Nat.mul_le_mul_right _ h4;rw[<-Nat.pow_add,show n+(32-n)=32 by omega,Nat.mul_assoc]at this;omega
 have:x*2^(32-n)<2^n*2^(32-n):=Nat.mul_lt_mul_of_pos_right h3 (Nat.two_pow_pos _);rw[<-Nat.pow_add,show n+(32-n)=32 by omega]at this;omega
end
end Go.Proofs.YtningmnklfpfjaaGreat
namespace Go.Fw
section
section Y1
variable {B V U W:Nat}
theorem Vz{P F T:Nat}(hP:0<P)(hF:0<F)(hV:F*P<=V)(hU:U<(T+1)*P):U/V<=T/F:=by
 have Qe:0<V:=Nat.lt_of_lt_of_le (Nat.mul_pos hF hP) hV;rw[Nat.le_div_iff_mul_le hF];rcases Nat.lt_or_ge T (U/V*F)with h|h
 ·exfalso;have h1:U/V*V<=U:=Nat.div_mul_le_self U V;have h2:U/V*(F*P)<=U/V*V:=Nat.mul_le_mul_left _ hV;have h3:(T+1)*P<=U/V*F*P:=Nat.mul_le_mul_right _ h;rw[Nat.mul_assoc]at h3;omega
 exact h
theorem Qf{P F S T u g r:Nat}(hV:(F*B+S)*P<=V)(hU:U<(T*B+u+1)*P)(WR:g*F+r=T)(h:r*B+u<g*S):U<g*V:=by
 have h1:g*((F*B+S)*P)<=g*V:=Nat.mul_le_mul_left _ hV;have h2:(T*B+u+1)*P<=g*(F*B+S)*P:=by
  apply Nat.mul_le_mul_right;rw[Nat.mul_add,<-Nat.mul_assoc,<-WR,Nat.add_mul];omega
 rw[Nat.mul_assoc]at h2;omega
theorem VA{P V2 U2 g:Nat}(hV:V<(V2+1)*P)(hU:U2*P<=U)(hq:U/V<B)(hB:B<=V2)(Qe:0<V)(h:g*V2<=U2):g<=U/V+1:=by
 rcases Nat.lt_or_ge (U/V+1) g with h'|h'
 ·exfalso;have h1:U<(U/V+1)*V:=by have:=Nat.lt_div_mul_add (a:=U) Qe;rw[Nat.add_mul,Nat.one_mul];exact this
  have h2:(U/V+1)*V<=(U/V+1)*((V2+1)*P):=Nat.mul_le_mul_left _ (Nat.le_of_lt hV);have h3:g*V2*P<=U2*P:=Nat.mul_le_mul_right _ h;have h4:(U/V+2)*V2<=g*V2:=Nat.mul_le_mul_right _ h';have h5:(U/V+2)*V2*P<=g*V2*P:=Nat.mul_le_mul_right _ h4;have h6:(U/V+1)*((V2+1)*P)<=(U/V+2)*V2*P:=by
   rw[<-Nat.mul_assoc];apply Nat.mul_le_mul_right;rw[Nat.mul_add,Nat.add_mul (U/V) 2 V2,Nat.add_mul (U/V) 1 V2];omega
  omega
 exact h'
end Y1
def mix(B o i X U A:Nat):Nat:=A%B^o+B^o*(X%B^i+B^i*(U/B^i))
theorem Jn(B o i X U A:Nat):mix B o i X U A%B^o=A%B^o:=by rw[mix,Nat.add_mul_mod_self_left,Nat.mod_mod]
section mix
variable {B:Nat}(hB:0<B)(o i X U A:Nat)
include hB
theorem w9:mix B o i X U A/B^o=X%B^i+B^i*(U/B^i):=by
 rw[mix,Nat.add_mul_div_left _ _ (Nat.pow_pos hB),Nat.div_eq_of_lt (Nat.mod_lt _ (Nat.pow_pos hB)),Nat.zero_add]
theorem xb:mix B o i X U A/B^(o+i)=U/B^i:=by
 rw[Nat.pow_add,<-Nat.div_div_eq_div_mul,w9 hB,Nat.add_mul_div_left _ _ (Nat.pow_pos hB),Nat.div_eq_of_lt (Nat.mod_lt _ (Nat.pow_pos hB)),Nat.zero_add]
theorem Qg:mix B o i X U A%B^(o+i)=A%B^o+B^o*(X%B^i):=by
 rw[Nat.pow_add,Nat.mod_mul,Jn,w9 hB,Nat.add_mul_mod_self_left,Nat.mod_mod]
theorem Eu{N:Nat}(h:o+i<N):(fH B N (mix B o i X U A)).set (o+i) (X/B^i%B)=fH B N (mix B o (i+1) X U A):=by
 apply uc hB h (Nat.mod_lt _ hB)
 ·rw[Qg hB,Nat.pow_add,Nat.mod_mul,Jn,w9 hB,Nat.pow_succ B i,Nat.mul_assoc,Nat.add_mul_mod_self_left,Nat.mod_mul,Nat.add_mul_mod_self_left,Nat.mod_mod]
 ·rw[Nat.pow_add,<-Nat.div_div_eq_div_mul,w9 hB,Nat.pow_succ B i,Nat.mod_mul,Nat.mul_assoc,Nat.add_assoc,<-Nat.mul_add,Nat.add_mul_div_left _ _ (Nat.pow_pos hB),Nat.div_eq_of_lt (Nat.mod_lt _ (Nat.pow_pos hB)),Nat.zero_add,Nat.add_mul_mod_self_left,Nat.mod_mod]
 have h1:=xb hB o (i+1) X U A;have h2:=xb hB o i X U A;rw[show o+i+1=o+(i+1) by omega,h1,show o+(i+1)=(o+i)+1 by omega,Nat.pow_succ B (o+i),<-Nat.div_div_eq_div_mul,h2,Nat.pow_succ,<-Nat.div_div_eq_div_mul]
end mix
theorem GQ{B o m X U A:Nat}(hU:U<B^m):mix B o m X U A=A%B^o+B^o*(X%B^m):=by rw[mix,Nat.div_eq_of_lt hU];simp
theorem GR{B:Nat}(o X A:Nat):mix B o 0 X (A/B^o) A=A:=by
 simp only[mix,Nat.pow_zero,Nat.mod_one,Nat.zero_add,Nat.one_mul,Nat.div_one];exact Nat.mod_add_div A (B^o)
theorem KA{B U U' T i:Nat}(h:U%B^i=U'%B^i):zy B U T i=zy B U' T i:=by rw[zy,zy,h]
theorem NP{B:Nat}(hB:0<B){U T m i:Nat}(hi:i<m)(hT:T<=U+B^m):(U/B^i%B+(B-1-T/B^i%B)+zy B U T i)%B=(U+B^m-T)/B^i%B:=by
 have e:B^m=B^i*(B*B^(m-i-1)):=by rw[<-Nat.pow_succ',<-Nat.pow_add];congr 1;omega
 have h1:(U+B^m)%B^i=U%B^i:=by rw[e,Nat.add_mul_mod_self_left]
 have h2:(U+B^m)/B^i%B=U/B^i%B:=by rw[e,Nat.add_mul_div_left _ _ (Nat.pow_pos hB),Nat.add_mul_mod_self_left]
 rw[<-h2,KA (U':=U+B^m) h1.symm,Jf hB hT]
theorem Qh{B m U T:Nat}(hB:0<B)(hU:U<B^m)(hT:T<B^m):zy B U T m=if U<T then 0 else 1:=by
 rw[zy,Nat.mod_eq_of_lt hU,Nat.mod_eq_of_lt hT];have hp:0<B^m:=Nat.pow_pos hB;split
 ·exact Nat.div_eq_of_lt (by omega)
 rw[show U+B^m-T=(U-T)+B^m by omega,Nat.add_div_right _ hp,Nat.div_eq_of_lt (by omega)]
end
end Go.Fw
namespace Go.Proofs.YtningmnklfpfjaaGreat
section
open Go.Fw
theorem mQ{N A j:Nat}(h:j<N):(fH 4294967296 N A)[j]? =some (A/4294967296^j%4294967296):=w7 N A j h
theorem two32:(2:Nat)^32=4294967296:=rfl
theorem Y2:(2:Nat)^63=9223372036854775808:=rfl
theorem Ev(A o j:Nat):A/4294967296^(o+j)=A/4294967296^o/4294967296^j:=by rw[Nat.pow_add,Nat.div_div_eq_div_mul]
theorem GS{N A o n:Nat}{v:List Nat}(hv:EJ v)(hn:v.length=n+2)(hN:N<=100000000001)(ho:o+(n+2)<N)
  (hU:A/4294967296^o<4294967296*vl v) (NQ:2147483648*4294967296^(n+1)<=vl v):
  ∃r,gZ (fH 4294967296 N A) o (n+3) v=some r/\r.2=fH 4294967296 N A/\A/4294967296^o/vl v<=r.1/\r.1<=A/4294967296^o/vl v+1:=by
 obtain⟨hV,hlv⟩:=hv;obtain⟨U,OG⟩:∃U,A/4294967296^o=U:=⟨_,Y⟩;obtain⟨V,OH⟩:∃V,vl v=V:=⟨_,Y⟩;have zA:V<4294967296^(n+2):=by rw[<-OH,<-hn];exact iQ v hV
 have SW:0<4294967296^(n+1):=Nat.pow_pos (by decide);have hP:0<4294967296^n:=Nat.pow_pos (by decide);have VB:4294967296^(n+1)=4294967296^n*4294967296:=Nat.pow_succ ..;have GU:4294967296^(n+2)=4294967296^(n+1)*4294967296:=Nat.pow_succ ..;rw[OG,OH]at hU⊢;rw[OH]at NQ;have Y3:U<4294967296^(n+1)*4294967296*4294967296:=by
  have:4294967296*V<4294967296*4294967296^(n+2):=Nat.mul_lt_mul_of_pos_left zA (by decide);rw[GU]at this;omega
 obtain⟨F,hF⟩:∃F,V/4294967296^(n+1)=F:=⟨_,Y⟩;obtain⟨S,hS⟩:∃S,V/4294967296^n%4294967296=S:=⟨_,Y⟩;obtain⟨T,hT⟩:∃T,U/4294967296^(n+1)=T:=⟨_,Y⟩;obtain⟨u,hu⟩:∃u,U/4294967296^n%4294967296=u:=⟨_,Y⟩;have afI:F<4294967296:=by rw[<-hF,Nat.div_lt_iff_lt_mul SW];rw[GU,Nat.mul_comm]at zA;exact zA
 have aiM:2147483648<=F:=by rw[<-hF,Nat.le_div_iff_mul_le SW];exact NQ
 have aiN:S<4294967296:=by rw[<-hS];exact Nat.mod_lt _ (by decide)
 have Y4:u<4294967296:=by rw[<-hu];exact Nat.mod_lt _ (by decide)
 have afJ:T<4294967296*4294967296:=by rw[<-hT,Nat.div_lt_iff_lt_mul SW];rw[Nat.mul_comm,<-Nat.mul_assoc];exact Y3
 have hV2:V/4294967296^n=F*4294967296+S:=by rw[<-hF,<-hS,VB,<-Nat.div_div_eq_div_mul,Nat.mul_comm,Nat.div_add_mod]
 have hU2:U/4294967296^n=T*4294967296+u:=by rw[<-hT,<-hu,VB,<-Nat.div_div_eq_div_mul,Nat.mul_comm,Nat.div_add_mod]
 have hq:U/V<4294967296:=by rw[Nat.div_lt_iff_lt_mul (by omega)];exact hU
 have Y5:(F*4294967296+S)*4294967296^n<=V:=by rw[<-hV2];exact Nat.div_mul_le_self _ _
 have Y6:V<(F*4294967296+S+1)*4294967296^n:=by rw[<-hV2,Nat.add_mul,Nat.one_mul];exact Nat.lt_div_mul_add hP
 have Y7:(T*4294967296+u)*4294967296^n<=U:=by rw[<-hU2];exact Nat.div_mul_le_self _ _
 have Y8:U<(T*4294967296+u+1)*4294967296^n:=by rw[<-hU2,Nat.add_mul,Nat.one_mul];exact Nat.lt_div_mul_add hP
 have SX:F*4294967296^(n+1)<=V:=by rw[<-hF];exact Nat.div_mul_le_self _ _
 have SY:U<(T+1)*4294967296^(n+1):=by rw[<-hT,Nat.add_mul,Nat.one_mul];exact Nat.lt_div_mul_add SW
 have SZ:V<(F+1)*4294967296^(n+1):=by rw[<-hF,Nat.add_mul,Nat.one_mul];exact Nat.lt_div_mul_add SW
 have hTF:T<4294967296*(F+1):=by
  rw[<-hT,Nat.div_lt_iff_lt_mul SW];have:4294967296*V<4294967296*((F+1)*4294967296^(n+1)):=Nat.mul_lt_mul_of_pos_left SZ (by decide);rw[Nat.mul_assoc];omega
 have g1:(fH 4294967296 N A)[o+(n+2)]? =some (U/4294967296^(n+2)%4294967296):=by rw[mQ (by omega),Ev,OG]
 have g2:(fH 4294967296 N A)[o+(n+1)]? =some (U/4294967296^(n+1)%4294967296):=by rw[mQ (by omega),Ev,OG]
 have g3:(fH 4294967296 N A)[o+n]? =some u:=by rw[mQ (by omega),Ev,OG,hu]
 have g4:v[n+1]? =some F:=by rw[oZ hV (by omega),show val 4294967296 v=V from OH,hF,Nat.mod_eq_of_lt afI]
 have g5:v[n]? =some S:=by rw[oZ hV (by omega),show val 4294967296 v=V from OH,hS]
 have hun:U/4294967296^(n+2)<4294967296:=by rw[GU,<-Nat.div_div_eq_div_mul,hT,Nat.div_lt_iff_lt_mul (by decide)];exact afJ
 have Io:U/4294967296^(n+2)%4294967296*4294967296+U/4294967296^(n+1)%4294967296=T:=by
  rw[Nat.mod_eq_of_lt hun,GU,<-Nat.div_div_eq_div_mul,hT,Nat.mul_comm,Nat.div_add_mod]
 obtain⟨t1,ht1⟩:∃t,U/4294967296^(n+2)%4294967296=t:=⟨_,Y⟩;obtain⟨t2,ht2⟩:∃t,U/4294967296^(n+1)%4294967296=t:=⟨_,Y⟩;have l1:t1<4294967296:=by rw[<-ht1];exact Nat.mod_lt _ (by decide)
 have l2:t2<4294967296:=by rw[<-ht2];exact Nat.mod_lt _ (by decide)
 rw[ht1]at g1 Io;rw[ht2]at g2 Io;clear ht1 ht2 hU2 hV2;have c1:((n+2:Nat):Int)-1=((n+1:Nat):Int):=by omega
 have c2:((n+2:Nat):Int)-2=(n:Int):=by omega
 unfold gZ;simp only[Option.bind_some,hn,c1,c2];rw[tZ (by omega),tZ (by omega),zW (by omega),zW (by omega),zW (by omega)];simp only[Option.bind_some];rw[g1,g2,bL g4,bL g5];simp only[Option.bind_some,two32];rw[Nat.mod_eq_of_lt (a:=t1) (by omega),Nat.mod_eq_of_lt (a:=t2) (by omega),Nat.mod_eq_of_lt (a:=t1*4294967296) (by omega),Jm l2,Io,Nat.mod_eq_of_lt (a:=T) (by omega),Nat.mod_eq_of_lt (a:=F) (by omega),Nat.mod_eq_of_lt (a:=S) (by omega),Em (by omega) (by omega),zX (by omega)];simp only[Option.bind_some];have afO:=Vz (V:=V) (U:=U) SW (show 0<F by omega) SX SY;have hle:∀g,g*(F*4294967296+S)<=T*4294967296+u->g<=U/V+1:=λg h=>VA (B:=4294967296) Y6 Y7 hq (by omega) (by omega) h;have afP:∀g r,g*F+r=T->r*4294967296+u<g*S->U/V<g:=λg r i1 ht=>(Nat.div_lt_iff_lt_mul (by omega)).2 (Qf Y5 Y8 i1 ht);have hg0:T/F<=4294967297:=by
  have:T/F<4294967298:=by
   rw[Nat.div_lt_iff_lt_mul (by omega)];omega
  omega
 generalize U/V=q at*;clear Y5 Y6 Y7 Y8 SX SY SZ hTF Y3 NQ zA VB GU hP SW hF hS hT hu OG OH hU;have hdm:=Nat.div_add_mod T F;have hml:=Nat.mod_lt T (show 0<F by omega);have afQ:T/F*F+T%F=T:=by rw[Nat.mul_comm];exact hdm
 clear hdm;refine nG (λx=>x.1*F+x.2=T/\q<=x.1/\x.2<4294967296/\x.1<=4294967297) (λe=>q<=e/\e<=q+1) (λx=>x.1) ?_ ⟨afQ,afO,by show T%F<_;omega,hg0⟩ ?_
 ·rintro⟨g,r⟩ ⟨i1,i2,i3,i4⟩;simp only at i1 i2 i3 i4;have down:q<g->(∃s',(bif decide ((r+F)%18446744073709551616/4294967296≠0)then some (.inr (oF 18446744073709551616 g 1))else some (.inl (oF 18446744073709551616 g 1,(r+F)%18446744073709551616)):Option ((Nat×Nat)⊕Nat))=some (.inl s')/\(s'.1*F+s'.2=T/\q<=s'.1/\s'.2<4294967296/\s'.1<=4294967297)/\s'.1<g)\/
    (∃e,(bif decide ((r+F)%18446744073709551616/4294967296≠0)then some (.inr (oF 18446744073709551616 g 1))else some (.inl (oF 18446744073709551616 g 1,(r+F)%18446744073709551616)):Option ((Nat×Nat)⊕Nat))=some (.inr e)/\q<=e/\e<=q+1):=by
   intro hlt;have e1:(g-1)*F+(r+F)=T:=by
    obtain⟨k,rfl⟩:∃k,g=k+1:=⟨g-1,by omega⟩;rw[Nat.add_sub_cancel];rw[Nat.add_mul]at i1;omega
   rw[rf (by omega) (by omega),Nat.mod_eq_of_lt (a:=r+F) (by omega)];by_cases hb:r+F<4294967296
   ·left;refine⟨(g-1,r+F),by simp[Nat.div_eq_of_lt hb],⟨e1,by simp only;omega,hb,by simp only;omega⟩,by simp only;omega⟩
   right;have hne:(r+F)/4294967296≠0:=by omega
   refine⟨g-1,by simp[hne],by omega,?_⟩;refine hle _ ?_;have m1:(g-1)*S<=4294967296*4294967295:=Nat.mul_le_mul (by omega) (by omega);rw[Nat.mul_add,<-Nat.mul_assoc];have m2:((g-1)*F+(r+F))*4294967296=T*4294967296:=by rw[e1]
   rw[Nat.add_mul]at m2;omega
  simp only[cK,cm];by_cases hg:g<4294967296
  ·rw[show decide (g/4294967296≠0)=false by simp;omega];have hgS:g*S<=4294967295*4294967295:=Nat.mul_le_mul (by omega) (by omega);simp only[jr];rw[g3];simp only[cm];rw[Nat.mod_eq_of_lt (a:=g*S) (by omega),Nat.mod_eq_of_lt (a:=r*4294967296) (by omega),Nat.mod_eq_of_lt (a:=u) (by omega),Jm Y4,Nat.mod_eq_of_lt (a:=r*4294967296+u) (by omega)];by_cases ht:r*4294967296+u<g*S
   ·rw[show decide (r*4294967296+u<g*S)=true by simpa using ht];simp only[cm,iP];exact down (afP _ _ i1 ht)
   rw[show decide (r*4294967296+u<g*S)=false by simpa using ht];right;refine⟨g,by simp,i2,?_⟩;refine hle _ ?_;rw[Nat.mul_add,<-Nat.mul_assoc,<-i1,Nat.add_mul];omega
  rw[show decide (g/4294967296≠0)=true by simp;omega];simp only[cm,iP];exact down (by omega)
 rintro e ⟨h2,h3⟩;exact⟨(e,fH 4294967296 N A),by rw[qc Y,Option.bind_some],Y,h2,h3⟩
end
section
open Go.Fw
theorem uB{N A o n f:Nat}{v:List Nat}(hv:EJ v)(hn:v.length=n)(hN:N<=100000000001)(ho:o+n<N)(hf:f<=4294967296)
  (hU:A/4294967296^o<4294967296^(n+1)):
  dh (fH 4294967296 N A) o (n+1) v f=some (decide (A/4294967296^o<vl v*f),fH 4294967296 N (A%4294967296^o+4294967296^o*((A/4294967296^o+4294967296^(n+1)-vl v*f)%4294967296^(n+1)))):=by
 obtain⟨hV,hlv⟩:=hv;obtain⟨U,OG⟩:∃U,A/4294967296^o=U:=⟨_,Y⟩;obtain⟨V,OH⟩:∃V,vl v=V:=⟨_,Y⟩;have zA:V<4294967296^n:=by rw[<-OH,<-hn];exact iQ v hV
 have Lq:4294967296^(n+1)=4294967296^n*4294967296:=Nat.pow_succ ..;have hT:V*f<4294967296^(n+1):=by
  rw[Lq]
  calc V*f<=V*4294967296:=Nat.mul_le_mul_left _ hf
   _<4294967296^n*4294967296:=Nat.mul_lt_mul_of_pos_right zA (by decide)
 rw[OG]at hU⊢;rw[OH];obtain⟨X,hX⟩:∃X,U+4294967296^(n+1)-V*f=X:=⟨_,Y⟩;rw[hX];unfold dh;simp only[cm];have VC:∀i,zy 4294967296 U (V*f) i<=1:=λi=>NJ (by decide) _ _ _;refine bN (λi=>(1-zy 4294967296 U (V*f) i,(i:Int),sC 4294967296 V f 0 i,fH 4294967296 N (mix 4294967296 o i X U A))) (n+1) (1-zy 4294967296 U (V*f) (n+1),fH 4294967296 N (mix 4294967296 o (n+1) X U A)) ?_ (λi hi=>?_) ?_ ?_
 ·rw[GL,Ji,<-OG,GR];rfl
 ·
  obtain⟨t,ht⟩:∃t,V*f/4294967296^i%4294967296=t:=⟨_,Y⟩;obtain⟨c,hc⟩:∃c,sC 4294967296 V f 0 i=c:=⟨_,Y⟩;obtain⟨p,hp⟩:∃p,V/4294967296^i%4294967296*f=p:=⟨_,Y⟩;have aiQ:c<4294967296:=by
   rw[<-hc,sC,sT,Nat.add_zero,Nat.div_lt_iff_lt_mul (Nat.pow_pos (by decide))]
   calc V%4294967296^i*f<=V%4294967296^i*4294967296:=Nat.mul_le_mul_left _ hf
    _<4294967296*4294967296^i:=by rw[Nat.mul_comm];exact Nat.mul_lt_mul_of_pos_left (Nat.mod_lt _ (Nat.pow_pos (by decide))) (by decide)
  have aiR:p<=4294967295*4294967296:=by
   rw[<-hp];exact Nat.mul_le_mul (by have:=Nat.mod_lt (V/4294967296^i) (show 0<4294967296 by decide);omega) hf
  have Vs:(p+c)%4294967296=t:=by rw[<-hp,<-hc,NK (B:=4294967296) (by decide),Nat.add_zero,ht]
  have hstep:(p+c)/4294967296=sC 4294967296 V f 0 (i+1):=by rw[<-hp,<-hc,Jk (B:=4294967296) (by decide)]
  have aiS:t<4294967296:=by rw[<-ht];exact Nat.mod_lt _ (by decide)
  obtain⟨u,hu⟩:∃u,U/4294967296^i%4294967296=u:=⟨_,Y⟩;have Y4:u<4294967296:=by rw[<-hu];exact Nat.mod_lt _ (by decide)
  have hg:(fH 4294967296 N (mix 4294967296 o i X U A))[o+i]? =some u:=by rw[mQ (by omega),xb (by decide),hu]
  have hl:=VC i;obtain⟨l,hle⟩:∃l,zy 4294967296 U (V*f) i=l:=⟨_,Y⟩;have hxd:(u+(4294967296-1-t)+l)%4294967296=X/4294967296^i%4294967296:=by rw[<-hu,<-ht,<-hle,NP (B:=4294967296) (by decide) hi (by omega),hX]
  have hls:(u+(4294967296-1-t)+l)/4294967296=zy 4294967296 U (V*f) (i+1):=by rw[<-hu,<-ht,<-hle,GM (B:=4294967296) (by decide)]
  rw[hle]at hl;have hput:=Eu (B:=4294967296) (by decide) o i X U A (N:=N) (by omega);rw[hle,hc,<-hls];simp only[show decide ((i:Int)<((n+1:Nat):Int))=true by simp;omega,iP,cm,cK];rw[zW (by omega)];simp only[cm,hg];have way:∀k:Nat->Option ((Nat×Int×Nat×List Nat)⊕(Nat×List Nat)),(bif decide ((i:Int)<(v.length:Int))then(cZ v (i:Int)).bind λiX=>k (iX%18446744073709551616*f%18446744073709551616)else k 0)=k p:=by
   intro k;by_cases hin:i<v.length
   ·rw[show decide ((i:Int)<(v.length:Int))=true by simp;omega,iP];have EF:v[i]? =some (V/4294967296^i%4294967296):=by rw[<-OH];exact oZ hV hin
    rw[bL EF,cm,Nat.mod_eq_of_lt (a:=V/4294967296^i%4294967296) (b:=18446744073709551616) (by have:=Nat.mod_lt (V/4294967296^i) (show 0<4294967296 by decide);omega),hp,Nat.mod_eq_of_lt (a:=p) (by omega)]
   rw[show decide ((i:Int)<(v.length:Int))=false by simp;omega,jr];have:V/4294967296^i=0:=Nat.div_eq_of_lt (Nat.lt_of_lt_of_le zA (Nat.pow_le_pow_right (by decide) (by omega)));rw[<-hp,this];simp
  refine(way (λy=>(bR y c).bind _)).trans ?_;rw[gJ _ _ (by omega)];simp only[cm];rw[Vs,hstep,Nat.mod_eq_of_lt (a:=u) (by omega),Nat.mod_eq_of_lt (a:=t) (by omega)];rw[fG (by rw[bT];omega),cm,bZ (by omega),Y2];by_cases Ts:u<t+(1-l)
  ·have e1:oF 18446744073709551616 (oF 18446744073709551616 u t) (1-l)=18446744073709551616+u-t-(1-l):=by
    by_cases h1:u<t
    ·rw[zV h1 (by omega),rf (by omega) (by omega)]
    rw[rf (a:=u) (b:=t) (by omega) (by omega),zV (by omega) (by omega)];omega
   rw[e1];have e2:(18446744073709551616+u-t-(1-l))%4294967296=X/4294967296^i%4294967296:=by rw[<-hxd];omega
   have e3:(18446744073709551616+u-t-(1-l))/9223372036854775808=1-(u+(4294967296-1-t)+l)/4294967296:=by omega
   rw[e2,e3,hput]
  have e1:oF 18446744073709551616 (oF 18446744073709551616 u t) (1-l)=u-t-(1-l):=by
   rw[rf (a:=u) (b:=t) (by omega) (by omega),rf (by omega) (by omega)]
  rw[e1];have e2:(u-t-(1-l))%4294967296=X/4294967296^i%4294967296:=by rw[<-hxd];omega
  have e3:(u-t-(1-l))/9223372036854775808=1-(u+(4294967296-1-t)+l)/4294967296:=by omega
  rw[e2,e3,hput]
 ·simp
 simp only[cm];rw[qc (by rw[bT,bT]),cm,GQ hU,Qh (by decide) hU hT];congr 2;by_cases h:U<V*f<;>simp[h]
end
section
open Go.Fw
theorem Y9{B V:Nat}(hB:0<B)(hV:0<V)(A k:Nat):A%(V*B^(k+1))/B^k<B*V:=by
 rw[Nat.div_lt_iff_lt_mul (Nat.pow_pos hB)];have:V*B^(k+1)=B*V*B^k:=by rw[Nat.pow_succ,Nat.mul_comm (B^k),<-Nat.mul_assoc,Nat.mul_comm V]
 rw[<-this];exact Nat.mod_lt _ (Nat.mul_pos hV (Nat.pow_pos hB))
theorem VD{B V:Nat}(A k:Nat):A%(V*B^(k+1))%B^k+B^k*(A%(V*B^(k+1))/B^k%V)=A%(V*B^k):=by
 rw[<-Nat.mod_mul,Nat.mul_comm (B^k),Nat.mod_mod_of_dvd];rw[Nat.pow_succ,<-Nat.mul_assoc];exact Nat.dvd_mul_right _ _
theorem VE{B V:Nat}(A k:Nat):A%(V*B^(k+1))/B^k/V=A/V/B^k%B:=by
 rw[Nat.div_div_eq_div_mul,Nat.mul_comm (B^k),Nat.pow_succ,<-Nat.mul_assoc,Nat.mod_mul_right_div_self,Nat.div_div_eq_div_mul]
theorem NR{B:Nat}(hB:0<B){N k:Nat}(h:k<N)(Q:Nat):(fH B N (Q/B^(k+1)*B^(k+1))).set k (Q/B^k%B)=fH B N (Q/B^k*B^k):=by
 have hP:0<B^k:=Nat.pow_pos hB;refine uc hB h (Nat.mod_lt _ hB) ?_ ?_ ?_
 ·rw[Nat.mul_mod_left,Nat.pow_succ,Nat.mul_comm (B^k),<-Nat.mul_assoc,Nat.mul_mod_left]
 ·rw[Nat.mul_div_cancel _ hP]
 rw[Nat.mul_div_cancel _ (Nat.pow_pos hB),Nat.pow_succ,<-Nat.div_div_eq_div_mul,Nat.mul_div_cancel _ hP,Nat.div_div_eq_div_mul]
theorem Jo{α:Type}{l:List α}{o n:Nat}(h:o<l.length)(h':o+n<=l.length):TD l (o:Int) ((o+n:Nat):Int)=some (o,n):=by
 unfold TD;rw[if_pos (by omega)];congr 2;omega
theorem Qi{U V g M:Nat}(hV:0<V)(h1:U/V<=g)(h2:g<=U/V+1)(hM:U<M)(hVM:V<=M):
  (V*g<=U/\g=U/V/\(U+M-V*g)%M=U%V)\/(U<V*g/\g=U/V+1/\U+M-V*g<M/\(U+M-V*g+V)%M=U%V):=by
 have hd:=Nat.div_add_mod U V;have hm:=Nat.mod_lt U hV
 revert h1 h2 hd hm
 generalize U/V=q;generalize U%V=r;intro h1 h2 hd hm;rcases Nat.lt_or_ge q g with h|h
 ·obtain rfl:g=q+1:=by omega
  have e:V*(q+1)=V*q+V:=Nat.mul_succ ..;right;refine⟨by omega,Y,by omega,?_⟩;rw[show U+M-V*(q+1)+V=r+M by omega,Nat.add_mod_right,Nat.mod_eq_of_lt (by omega)]
 obtain rfl:g=q:=by omega
 left;refine⟨by omega,Y,?_⟩;rw[show U+M-V*g=r+M by omega,Nat.add_mod_right,Nat.mod_eq_of_lt (by omega)]
theorem Qj{R D e i:Nat}(hD:0<D)(he:4294967296=D*e):(R*D/4294967296^(i+1)%4294967296*4294967296+R*D/4294967296^i%4294967296)/D%4294967296=R/4294967296^i%4294967296:=by
 have h1:R*D/4294967296^(i+1)%4294967296*4294967296+R*D/4294967296^i%4294967296=R*D/4294967296^i%(4294967296*4294967296):=by
  rw[Nat.mod_mul,Nat.div_div_eq_div_mul,show 4294967296^i*4294967296=4294967296^(i+1)from(Nat.pow_succ ..).symm,Nat.add_comm,Nat.mul_comm 4294967296]
 have h2:(4294967296*4294967296:Nat)=D*(e*4294967296):=by
  rw[<-Nat.mul_assoc,<-he]
 rw[h1,h2,Nat.mod_mul_right_div_self,Nat.mod_mul_left_mod,Nat.div_div_eq_div_mul,Nat.mul_comm (4294967296^i) D,<-Nat.div_div_eq_div_mul,Nat.mul_div_cancel _ hD]
theorem VF{B:Nat}(hB:0<B){N i R:Nat}(h:i<N):(fH B N (R%B^i)).set i (R/B^i%B)=fH B N (R%B^(i+1)):=by
 refine uc hB h (Nat.mod_lt _ hB) ?_ ?_ ?_
 ·rw[Nat.mod_mod,Nat.mod_mod_of_dvd _ (Nat.pow_dvd_pow _ (Nat.le_succ i))]
 ·rw[Nat.pow_succ,Nat.mod_mul_right_div_self,Nat.mod_mod]
 rw[Nat.div_eq_of_lt (Nat.mod_lt _ (Nat.pow_pos hB)),Nat.div_eq_of_lt];exact Nat.lt_of_lt_of_le (Nat.mod_lt _ (Nat.pow_pos hB)) (Nat.pow_le_pow_right hB (Nat.le_succ i))
theorem Ip(a b:List Nat)(ha:EJ a)(hb:EJ b){n:Nat}(hn:b.length=n+2)(hl:b.length<=a.length)(Io:b[n+1]? ≠some 0):
  iC a b=some (fH 4294967296 (a.length-b.length+1) (vl a/vl b),fH 4294967296 b.length (vl a%vl b)):=by
 obtain⟨hA,hla⟩:=ha;obtain⟨hB,hlb⟩:=hb;have hP:∀k,0<4294967296^k:=λk=>Nat.pow_pos (by decide);obtain⟨Va,hVa⟩:∃V,vl a=V:=⟨_,Y⟩;obtain⟨Vb,hVb⟩:∃V,vl b=V:=⟨_,Y⟩;have VG:Vb<4294967296^(n+2):=by rw[<-hVb,<-hn];exact iQ b hB
 have halt:Va<4294967296^a.length:=by rw[<-hVa];exact iQ a hA
 have GU:4294967296^(n+2)=4294967296^(n+1)*4294967296:=Nat.pow_succ ..;obtain⟨x,hx⟩:∃x,Vb/4294967296^(n+1)=x:=⟨_,Y⟩;have Za:x<4294967296:=by rw[<-hx,Nat.div_lt_iff_lt_mul (hP _)];rw[GU,Nat.mul_comm]at VG;exact VG
 have hgx:b[n+1]? =some x:=by rw[oZ hB (by omega),show val 4294967296 b=Vb from hVb,hx,Nat.mod_eq_of_lt Za]
 have hx0:x≠0:=λe=>Io (by rw[hgx,e]);obtain⟨s,V8,B0,ZU,hs4⟩:=Y0 x Za hx0;have Zb:0<2^s:=Nat.two_pow_pos s;have Zc:2^s<4294967296:=by
  have:2^s<2^32:=Nat.pow_lt_pow_right (by decide) B0;rw[two32]at this;exact this
 obtain⟨D,hD⟩:∃D,2^s=D:=⟨_,Y⟩;rw[hD]at ZU hs4 Zb Zc;obtain⟨V,hV⟩:∃V,Vb*D=V:=⟨_,Y⟩;obtain⟨A,hAe⟩:∃A,Va*D=A:=⟨_,Y⟩;have zA:V<4294967296^(n+2):=by
  have h1:Vb<(x+1)*4294967296^(n+1):=by rw[<-hx,Nat.add_mul,Nat.one_mul];exact Nat.lt_div_mul_add (hP _)
  have h2:(x+1)*D<=4294967296:=by
   obtain⟨e,he⟩:∃e,4294967296=D*e:=⟨2^(32-s),by rw[<-hD,<-Nat.pow_add,show s+(32-s)=32 by omega,two32]⟩;have h3:x<e:=by
    apply Nat.lt_of_mul_lt_mul_left (a:=D);rw[<-he,Nat.mul_comm];exact hs4
   calc (x+1)*D<=e*D:=Nat.mul_le_mul_right _ h3
    _=4294967296:=by rw[Nat.mul_comm,<-he]
  rw[<-hV,GU]
  calc Vb*D<(x+1)*4294967296^(n+1)*D:=Nat.mul_lt_mul_of_pos_right h1 Zb
   _=4294967296^(n+1)*((x+1)*D):=by rw[Nat.mul_comm (x+1),Nat.mul_assoc]
   _<=4294967296^(n+1)*4294967296:=Nat.mul_le_mul_left _ h2
 have NS:2147483648*4294967296^(n+1)<=V:=by
  have h1:x*4294967296^(n+1)<=Vb:=by rw[<-hx];exact Nat.div_mul_le_self _ _
  rw[<-hV]
  calc 2147483648*4294967296^(n+1)<=x*D*4294967296^(n+1):=Nat.mul_le_mul_right _ ZU
   _=x*4294967296^(n+1)*D:=by rw[Nat.mul_assoc,Nat.mul_comm D,<-Nat.mul_assoc]
   _<=Vb*D:=Nat.mul_le_mul_right _ h1
 have Qe:0<V:=Nat.lt_of_lt_of_le (Nat.mul_pos (by decide) (hP _)) NS;have hb0:0<Vb:=by
  rcases Nat.eq_zero_or_pos Vb with h|h
  ·rw[<-hV,h,Nat.zero_mul]at Qe;omega
  exact h
 have hAV:A/V=Va/Vb:=by rw[<-hAe,<-hV,Nat.mul_div_mul_right _ _ Zb]
 have afS:A%V=Va%Vb*D:=by rw[<-hAe,<-hV,Nat.mul_mod_mul_right]
 obtain⟨K,hK⟩:∃K,a.length=K+(n+2):=⟨a.length-(n+2),by omega⟩;have Zd:A<V*4294967296^(K+1):=by
  have h1:4294967296^(n+1)<=Vb:=by
   have:1*4294967296^(n+1)<=x*4294967296^(n+1):=Nat.mul_le_mul_right _ (by omega);have h2:x*4294967296^(n+1)<=Vb:=by rw[<-hx];exact Nat.div_mul_le_self _ _
   omega
  rw[<-hAe,<-hV]
  calc Va*D<4294967296^a.length*D:=Nat.mul_lt_mul_of_pos_right halt Zb
   _=4294967296^(n+1)*4294967296^(K+1)*D:=by rw[hK,<-Nat.pow_add];congr 2;omega
   _<=Vb*4294967296^(K+1)*D:=Nat.mul_le_mul_right _ (Nat.mul_le_mul_right _ h1)
   _=Vb*D*4294967296^(K+1):=by rw[Nat.mul_assoc,Nat.mul_comm _ D,<-Nat.mul_assoc]
 obtain⟨v,hve⟩:∃v,fH 4294967296 (n+2) V=v:=⟨_,Y⟩;have hvl:v.length=n+2:=by rw[<-hve,bT]
 have hvW:EJ v:=⟨λy hy=>by rw[<-hve]at hy;exact m7 (by decide) _ _ _ hy,by omega⟩;have Ze:vl v=V:=by rw[<-hve];show val _ _=_;rw[kZ,Nat.mod_eq_of_lt zA]
 have Zf:List.take b.length (fH 4294967296 (b.length+1) (Vb*2^s))=v:=by
  rw[hD,hV,hn,ou,List.take_append_of_le_length (by rw[bT];omega),List.take_of_length_le (by rw[bT];omega),hve]
 unfold iC;simp only[cm];rw[show((b.length:Nat):Int)-1=((n+1:Nat):Int) by omega,tZ (by omega),bL hgx,cm,V8,cm];rw[show((s:Int)%18446744073709551616).toNat=s by rw[Int.emod_eq_of_lt (by omega) (by omega)];simp];rw[CB,shiftLeft_eq a s ⟨hA,hla⟩ B0,cm,shiftLeft_eq b s ⟨hB,hlb⟩ B0,cm,qb (by rw[bT];omega),cm];obtain⟨Q,hQ⟩:∃Q,A/V=Q:=⟨_,Y⟩;have afU:Q<4294967296^(K+1):=by rw[<-hQ,Nat.div_lt_iff_lt_mul Qe,Nat.mul_comm];exact Zd
 rw[hVa,hVb,<-hAV,hQ,Zf,hD,hAe,hn];rw[show a.length-(n+2)+1=K+1 by omega];rw[cU (x:=(a.length:Int)-((n+2:Nat):Int)) (by omega) (by omega),cU (x:=(a.length:Int)-((n+2:Nat):Int)+1) (by omega) (by omega),show(a.length:Int)-((n+2:Nat):Int)+1=((K+1:Nat):Int) by omega,q9 (by decide) (by omega),cm,show(a.length:Int)-((n+2:Nat):Int)=(K:Int) by omega];refine bN (λj=>((K:Int)-(j:Int),fH 4294967296 (K+1) (Q/4294967296^(K+1-j)*4294967296^(K+1-j)),fH 4294967296 (a.length+1) (A%(V*4294967296^(K+1-j))))) (K+1) (fH 4294967296 (K+1) Q,fH 4294967296 (a.length+1) (A%V)) ?_ (λj hj=>?_) ?_ ?_
 ·rw[show K+1-0=K+1 by omega,Nat.mod_eq_of_lt Zd,Nat.div_eq_of_lt afU,Nat.zero_mul,th];simp
 ·
  obtain⟨k,hk⟩:∃k,K=k+j:=⟨K-j,by omega⟩;rw[show K+1-j=k+1 by omega,show K+1-(j+1)=k by omega,show(K:Int)-(j:Int)=(k:Int) by omega,show(K:Int)-((j+1:Nat):Int)=(k:Int)-1 by omega];have hU:=Y9 (B:=4294967296) (by decide) Qe A k;have Qk:=VD (B:=4294967296) (V:=V) A k;have VH:=VE (B:=4294967296) (V:=V) A k;obtain⟨N,hN⟩:∃N,a.length+1=N:=⟨_,Y⟩;obtain⟨A1,hA1⟩:∃A1,A%(V*4294967296^(k+1))=A1:=⟨_,Y⟩;rw[hN];rw[hA1]at hU Qk VH⊢;rw[hQ]at VH;obtain⟨⟨g,lg⟩,hge,hgl,hg1,OD⟩:=GS (N:=N) (A:=A1) (o:=k) (n:=n) (v:=v) hvW hvl (by omega) (by omega) (by rw[Ze];exact hU) (by rw[Ze];exact NS);simp only at hgl hg1 OD;rw[Ze]at hg1 OD;subst hgl;have hsub:=uB (N:=N) (A:=A1) (o:=k) (n:=n+2) (v:=v) (f:=g) hvW hvl (by omega) (by omega) ?_ ?_
  ·rw[Ze]at hsub;obtain⟨U,OG⟩:∃U,A1/4294967296^k=U:=⟨_,Y⟩;rw[OG]at hU Qk VH hg1 OD hsub;have Ql:4294967296^(n+2+1)=4294967296^(n+2)*4294967296:=Nat.pow_succ ..;have hUM:U<4294967296^(n+2+1):=by
    have:4294967296*V<4294967296*4294967296^(n+2):=Nat.mul_lt_mul_of_pos_left zA (by decide);rw[Ql];omega
   have NT:=Qi (M:=4294967296^(n+2+1)) Qe hg1 OD hUM (by rw[Ql];omega);have hql:U/V<4294967296:=by rw[VH];exact Nat.mod_lt _ (by decide)
   rw[show decide ((0:Int)<=(k:Int))=true by simp,iP];rw[ua (by omega),bZ (by omega),show k+(n+2)+1=k+(n+3) by omega,Jo (by rw[bT];omega) (by rw[bT];omega),cm,hge,cm,qc Y,cm,Jo (by rw[bT];omega) (by rw[bT];omega),cm];show(Option.bind (dh _ k (n+2+1) v g) _)=_;rw[hsub,cm,qc (by rw[bT,bT]),cm];simp only[cK];rcases NT with⟨hc1,ER,Zg⟩|⟨hc1,ER,Zg,hc4⟩
   ·rw[show decide (U<V*g)=false by simp;omega,jr,Zg,Qk,ER,Nat.mod_eq_of_lt hql,VH,cG (by rw[bT];omega),cm,fG (by rw[bT];omega),cm,NR (by decide) (by omega),cU (by omega) (by omega)]
   rw[show decide (U<V*g)=true by simp;omega,iP,rf (by omega) (by omega),show g-1=U/V by omega,Nat.mod_eq_of_lt hql,VH];rw[Nat.mod_eq_of_lt Zg];obtain⟨aa,hY⟩:∃aa,U+4294967296^(n+2+1)-V*g=aa:=⟨_,Y⟩;rw[hY]at Zg hc4⊢;obtain⟨A2,hA2⟩:∃A2,A1%4294967296^k+4294967296^k*aa=A2:=⟨_,Y⟩;rw[hA2];have hw2:A2/4294967296^k=aa:=by rw[<-hA2,Nat.add_mul_div_left _ _ (hP k),Nat.div_eq_of_lt (Nat.mod_lt _ (hP k)),Nat.zero_add]
   have La:A2%4294967296^k=A1%4294967296^k:=by rw[<-hA2,Nat.add_mul_mod_self_left,Nat.mod_mod]
   have hcr:∀i,EI 4294967296 aa V i<=1:=λi=>Il (by decide) _ _ _;refine bN (λi=>((i:Int),EI 4294967296 aa V i,fH 4294967296 N (mix 4294967296 k i (aa+V) aa A2))) (n+2) (EI 4294967296 aa V (n+2),fH 4294967296 N (mix 4294967296 k (n+2) (aa+V) aa A2)) ?_ (λi hi=>?_) ?_ ?_
   ·rw[GK,<-hw2,GR];rfl
   ·have EF:v[i]? =some (V/4294967296^i%4294967296):=by rw[<-Ze];exact oZ hvW.1 (by omega)
    have hgu:(fH 4294967296 N (mix 4294967296 k i (aa+V) aa A2))[k+i]? =some (aa/4294967296^i%4294967296):=by rw[mQ (by omega),xb (by decide)]
    have V8:=GJ (B:=4294967296) (by decide) aa V i;have B0:=Er (B:=4294967296) (by decide) aa V i;have hput:=Eu (B:=4294967296) (by decide) k i (aa+V) aa A2 (N:=N) (by omega);have hci:=hcr i;have hv1:=Nat.mod_lt (V/4294967296^i) (show 0<4294967296 by decide);have WC:=Nat.mod_lt (aa/4294967296^i) (show 0<4294967296 by decide);simp only[show decide ((i:Int)<(v.length:Int))=true by simp;omega,iP];rw[bL EF,cm,ua (by omega),cG (by rw[bT];omega),cm,hgu,cm,Nat.mod_eq_of_lt (a:=aa/4294967296^i%4294967296) (b:=18446744073709551616) (by omega),Nat.mod_eq_of_lt (a:=V/4294967296^i%4294967296) (b:=18446744073709551616) (by omega),Nat.mod_eq_of_lt (b:=18446744073709551616) (by omega),gJ _ _ (by omega),cm,cm,fG (by rw[bT];omega),cm,bZ (by omega)];rw[V8,B0,hput]
   ·simp[hvl]
   have hgu:(fH 4294967296 N (mix 4294967296 k (n+2) (aa+V) aa A2))[k+(n+2)]? =some (aa/4294967296^(n+2)%4294967296):=by rw[mQ (by omega),xb (by decide)]
   have B0:=Er (B:=4294967296) (by decide) aa V (n+2);have hput:=Eu (B:=4294967296) (by decide) k (n+2) (aa+V) aa A2 (N:=N) (by omega);have hci:=hcr (n+2);have WC:=Nat.mod_lt (aa/4294967296^(n+2)) (show 0<4294967296 by decide);rw[Nat.div_eq_of_lt zA,Nat.zero_mod,Nat.add_zero]at B0;simp only[];rw[cG (by rw[bT];omega),cm,hgu,cm,Nat.mod_eq_of_lt (a:=aa/4294967296^(n+2)%4294967296) (b:=18446744073709551616) (by omega),gJ _ _ (by omega),cm,cm,fG (by rw[bT];omega),cm,B0,hput,GQ Zg,La,hc4,Qk,cG (by rw[bT];omega),cm,fG (by rw[bT];omega),cm,NR (by decide) (by omega),cU (by omega) (by omega)]
  ·
   have hql:A1/4294967296^k/V<4294967296:=by rw[VH];exact Nat.mod_lt _ (by decide)
   omega
  have Ql:4294967296^(n+2+1)=4294967296^(n+2)*4294967296:=Nat.pow_succ ..;have:4294967296*V<4294967296*4294967296^(n+2):=Nat.mul_lt_mul_of_pos_left zA (by decide);rw[Ql];omega
 ·rw[show K+1-(K+1)=0 by omega,Nat.pow_zero,Nat.mul_one,Nat.mul_one,Nat.div_one,show decide (0<=(K:Int)-((K+1:Nat):Int))=false by simp;omega,jr]
 obtain⟨R,hR⟩:∃R,Va%Vb=R:=⟨_,Y⟩;rw[afS,hR];have afY:R<4294967296^(n+2):=by rw[<-hR];exact Nat.lt_trans (Nat.mod_lt _ hb0) VG
 rw[q9 (by decide) (by omega),cm];refine bN (λi=>((i:Int),fH 4294967296 (n+2) (R%4294967296^i))) (n+2) (fH 4294967296 (n+2) R) ?_ (λi hi=>?_) ?_ Y
 ·rw[Nat.pow_zero,Nat.mod_one,th];rfl
 ·obtain⟨e,he⟩:∃e,4294967296=D*e:=⟨2^(32-s),by rw[<-hD,<-Nat.pow_add,show s+(32-s)=32 by omega,two32]⟩;have Zh:=Qj (R:=R) (i:=i) Zb he;obtain⟨u,hu⟩:∃u,R*D/4294967296^i%4294967296=u:=⟨_,Y⟩;obtain⟨w,hw⟩:∃w,R*D/4294967296^(i+1)%4294967296=w:=⟨_,Y⟩;have WD:u<4294967296:=by rw[<-hu];exact Nat.mod_lt _ (by decide)
  have hw1:w<4294967296:=by rw[<-hw];exact Nat.mod_lt _ (by decide)
  rw[hu,hw]at Zh;simp only[show decide ((i:Int)<((n+2:Nat):Int))=true by simp;omega,iP];rw[cG (by rw[bT];omega),cm,mQ (by omega),cm,hu,bZ (by omega),cG (by rw[bT];omega),cm,mQ (by omega),cm,hw,Nat.mod_eq_of_lt (a:=u) (by omega),Nat.mod_eq_of_lt (a:=w) (by omega),two32,Nat.mod_eq_of_lt (a:=w*4294967296) (by omega),Nat.or_comm,Jm WD,Nat.mod_eq_of_lt (a:=w*4294967296+u) (by omega),show min s 64=s by omega,hD,Zh,cG (by rw[bT];omega),cm,fG (by rw[bT];omega),cm];rw[VF (by decide) hi]
 rw[Nat.mod_eq_of_lt afY];simp
end
section
open Go.Fw
def sv(n:Bool)(v:Nat):Int:=bif n then-(v:Int)else v
def zi(z:Zr):Int:=sv z.neg (vl z.w)
def zn(i:Int):Zr:=⟨decide (i<0),can 4294967296 i.natAbs⟩
def Wl(z:Zr):Prop:=(∀x∈z.w,x<4294967296)/\z.w.length<=10000000000
def Fit(L:Nat)(i:Int):Prop:=i.natAbs<4294967296^L
theorem NU(n:Bool)(v:Nat):(sv n v).natAbs=v:=by cases n<;>simp[sv]
theorem Ew(z:Zr):(zi z).natAbs=vl z.w:=NU _ _
theorem VI(n:Bool)(v:Nat):decide (sv n v<0)=(n&&v != 0):=by
 cases n
 ·have:¬((v:Int)<0):=by omega
  simp[sv,this]
 rcases v with _|v
 ·simp[sv]
 simp[sv]
theorem o5(n:Bool)(v:Nat):zc n v=zn (sv n v):=by rw[zc,zn,VI,NU]
theorem Qm(i:Int):sv (decide (i<0)) i.natAbs=i:=by
 by_cases h:i<0
 ·rw[show decide (i<0)=true by simp[h]];simp[sv];omega
 rw[show decide (i<0)=false by simp[h]];simp[sv];omega
theorem fN(i:Int):zi (zn i)=i:=by
 show sv (decide (i<0)) (vl (can 4294967296 i.natAbs))=i;rw[show vl (can 4294967296 i.natAbs)=i.natAbs from ru (by decide) _,Qm]
theorem Ex(n:Bool)(v:Nat):sv (!n) v=-sv n v:=by cases n<;>simp[sv]
theorem ow(v:Nat):sv false v=v:=rfl
theorem Fit.mono{L M:Nat}{i:Int}(h:Fit L i)(hl:L<=M):Fit M i:=Nat.lt_of_lt_of_le h (Nat.pow_le_pow_right (by decide) hl)
theorem Fit.neg{L:Nat}{i:Int}(h:Fit L i):Fit L (-i):=by unfold Fit at*;rw[Int.natAbs_neg];exact h
theorem Fit.add{L:Nat}{i j:Int}(h:Fit L i)(h':Fit L j):Fit (L+1) (i+j):=by
 unfold Fit at*;have:=Int.natAbs_add_le i j;rw[Nat.pow_succ];omega
theorem Fit.sub{L:Nat}{i j:Int}(h:Fit L i)(h':Fit L j):Fit (L+1) (i-j):=by
 rw[Int.sub_eq_add_neg];exact h.add h'.neg
theorem Fit.mul{L M:Nat}{i j:Int}(h:Fit L i)(h':Fit M j):Fit (L+M) (i*j):=by
 unfold Fit at*;rw[Int.natAbs_mul,Nat.pow_add];exact Nat.mul_lt_mul'' h h'
theorem Fit.i64{i:Int}(h: -9223372036854775808<=i)(h':i<=9223372036854775807):Fit 2 i:=by
 unfold Fit;rw[show(4294967296:Nat)^2=18446744073709551616 by decide];omega
theorem Fit.le{L:Nat}{i j:Int}(h:Fit L i)(h':j.natAbs<=i.natAbs):Fit L j:=Nat.lt_of_le_of_lt h' h
theorem jM{L:Nat}{i:Int}(h:Fit L i)(hL:L<=10000000000):Wl (zn i):=
 ⟨λ_ hx=>k7 (by decide) hx,Nat.le_trans ((ff (by decide)).2 h) hL⟩
theorem Wl.fit{z:Zr}(h:Wl z):Fit z.w.length (zi z):=by
 unfold Fit;rw[Ew];exact iQ z.w h.1
theorem Wl.lt{z:Zr}(h:Wl z):vl z.w<4294967296^z.w.length:=iQ z.w h.1
theorem Wl.cl{z:Zr}(h:Wl z):(can 4294967296 (vl z.w)).length<=10000000000:=
 Nat.le_trans ((ff (by decide)).2 (Wl.lt h)) h.2
theorem Wl.trim{z:Zr}(h:Wl z):bu z.w=some (can 4294967296 (vl z.w)):=by
 rw[z1 _ (by have:=h.2;omega),qe (by decide) h.1]
theorem gA{v:Nat}(h:(can 4294967296 v).length<=10000000001):EJ (can 4294967296 v):=⟨λ_ hx=>k7 (by decide) hx,by omega⟩
theorem eH(v:Nat):vl (can 4294967296 v)=v:=ru (by decide) v
theorem fV{v:Nat}:((can 4294967296 v).length:Int)<=2↔v<18446744073709551616:=by
 have:=ff (B:=4294967296) (by decide) (v:=v) (n:=2);rw[show(4294967296:Nat)^2=18446744073709551616 by decide]at this;omega
theorem k8{v:Nat}:((can 4294967296 v).length:Int)<=1↔v<4294967296:=by
 have:=ff (B:=4294967296) (by decide) (v:=v) (n:=1);rw[show(4294967296:Nat)^1=4294967296 by decide]at this;omega
theorem qh{v:Nat}:(can 4294967296 v).length=0↔v=0:=by
 constructor
 ·intro h;exact Eo (by decide) (List.length_eq_zero_iff.1 h)
 intro h;rw[h,tq];rfl
theorem xd(l:List Nat)(h:l.length<=1000000000000):ek l=some l:=by
 unfold ek;rw[YV (by decide) (by simp;omega)];simp
end
section
open Go.Fw
theorem GV(a b:Nat):decide (CA a b<0)=decide (a<b):=by
 rcases Nat.lt_trichotomy a b with h|h|h
 ·rw[w8 h];simp[h]
 ·rw[h,Et];simp
 rw[zZ h];simp;omega
theorem yS(a b:Nat)(ha:(can 4294967296 a).length<=10000000000)(hb:(can 4294967296 b).length<=10000000000)(h0:b≠0):
  ∃q r,fP (can 4294967296 a) (can 4294967296 b)=some (q,r)/\EJ q/\vl q=a/b/\EJ r/\vl r=a%b/\q.length<=10000000001/\r.length<=10000000001:=by
 unfold fP;rw[jO a b (by omega) (by omega)];simp only[cm];by_cases hlt:a<b
 ·rw[w8 hlt];simp only[show decide ((-1:Int)<0)=true by decide,iP];rw[xd _ (by omega)];refine⟨_,_,Y,⟨by simp,by simp⟩,?_,gA (by omega),?_,by simp,by omega⟩
  ·rw[Nat.div_eq_of_lt hlt];rfl
  rw[eH,Nat.mod_eq_of_lt hlt]
 rw[GV,show decide (a<b)=false by simp[hlt]];simp only[jr];by_cases h2:a<18446744073709551616
 ·rw[show decide (((can 4294967296 a).length:Int)<=2)=true by rw[decide_eq_true_eq];exact fV.2 h2];have BQ:b<18446744073709551616:=by omega
  simp only[iP];have l1:=low_eq (can 4294967296 a) (λ_ hx=>k7 (by decide) hx) (by have:=fV.2 h2;omega);have l2:=low_eq (can 4294967296 b) (λ_ hx=>k7 (by decide) hx) (by have:=fV.2 BQ;omega);rw[eH]at l1 l2;rw[l1,cm,l2,cm,Em h0 h2,cm,qg _ _ (Nat.lt_of_le_of_lt (Nat.div_le_self _ _) h2),cm,zX h0,cm,qg _ _ (Nat.lt_of_le_of_lt (Nat.mod_le _ _) h2),cm];have hq:a/b<18446744073709551616:=Nat.lt_of_le_of_lt (Nat.div_le_self _ _) h2;have hr:a%b<18446744073709551616:=Nat.lt_of_le_of_lt (Nat.mod_le _ _) h2;have c1:=fV.2 hq;have c2:=fV.2 hr;exact⟨_,_,Y,gA (by omega),eH _,gA (by omega),eH _,by show(can _ _).length<=_;omega,by show(can _ _).length<=_;omega⟩
 rw[show decide (((can 4294967296 a).length:Int)<=2)=false by rw[decide_eq_false_iff_not];exact λh=>h2 (fV.1 h)];simp only[jr];have yG:(can 4294967296 b).length≠0:=λh=>h0 (qh.1 h);by_cases h1:b<4294967296
 ·have h1':=k8.2 h1;rw[show decide (((can 4294967296 b).length:Int)=1)=true by simp;omega,iP];have hg:(can 4294967296 b)[0]? =some b:=by rw[Ep (by decide) (by omega)];simp;exact h1
  rw[xd _ (by omega),cm,ym hg,cm,Nat.mod_eq_of_lt (b:=18446744073709551616) (by omega),GP _ _ (gA (by omega)) (by omega) (by omega),cm,eH];simp only[];rw[qc (by rw[bT]),cm];have hm:a%b<b:=Nat.mod_lt _ (by omega);rw[Nat.mod_eq_of_lt (a:=a%b) (by omega)];refine⟨_,_,Y,⟨λx hx=>m7 (by decide) _ _ _ hx,by rw[bT];omega⟩,?_,⟨?_,by simp⟩,?_,by rw[bT];omega,by simp⟩
  ·show val _ _=_;rw[kZ,Nat.mod_eq_of_lt (Nat.lt_of_le_of_lt (Nat.div_le_self _ _) (dU (by decide) a))]
  ·intro x hx;simp at hx;omega
  simp[vl,val]
 have h1':¬(((can 4294967296 b).length:Int)<=1):=λh=>h1 (k8.1 h);rw[show decide (((can 4294967296 b).length:Int)=1)=false by simp;omega,jr];obtain⟨n,hn⟩:∃n,(can 4294967296 b).length=n+2:=⟨(can 4294967296 b).length-2,by omega⟩;have hl:(can 4294967296 b).length<=(can 4294967296 a).length:=(ff (by decide)).2 (Nat.lt_of_le_of_lt (by omega) (dU (by decide) a));obtain⟨l,x,hx,he⟩:=GI (B:=4294967296) (by decide) h0;have Io:(can 4294967296 b)[n+1]? ≠some 0:=by
  have:l.length=n+1:=by rw[he]at hn;simp at hn;omega
  rw[he,<-this];simp;exact hx
 rw[Ip _ _ (gA (by omega)) (gA (by omega)) hn hl Io,cm,eH,eH];have hbp:0<b:=by omega
 have e1:a<4294967296^(can 4294967296 a).length:=dU (by decide) a;have e2:b<4294967296^(can 4294967296 b).length:=dU (by decide) b;have e3:4294967296^(n+1)<=b:=uT (by decide) (by omega);refine⟨_,_,Y,⟨λx hx=>m7 (by decide) _ _ _ hx,by rw[bT];omega⟩,?_,⟨λx hx=>m7 (by decide) _ _ _ hx,by rw[bT];omega⟩,?_,by rw[bT];omega,by rw[bT];omega⟩
 ·show val _ _=_;rw[kZ,Nat.mod_eq_of_lt];rw[Nat.div_lt_iff_lt_mul hbp];have:4294967296^((can 4294967296 a).length-(can 4294967296 b).length+1)*4294967296^(n+1)=4294967296^(can 4294967296 a).length:=by rw[<-Nat.pow_add];congr 1;omega
  calc a<4294967296^((can 4294967296 a).length-(can 4294967296 b).length+1)*4294967296^(n+1):=by rw[this];exact e1
   _<=_:=Nat.mul_le_mul_left _ e3
 show val _ _=_;rw[kZ,Nat.mod_eq_of_lt (Nat.lt_trans (Nat.mod_lt _ hbp) e2)]
end
section
open Go.Fw
theorem lU{x:Int}(h1: -9223372036854775808<=x)(h2:x<=9223372036854775807):cf x=some (zn x):=by
 unfold cf;simp only[cm,cK];by_cases hx:x<0
 ·have e:(x%18446744073709551616).toNat=18446744073709551616-x.natAbs:=by omega
  rw[show decide (x<0)=true by simp[hx],iP,e,zV (by omega) (by omega),show 18446744073709551616+0-(18446744073709551616-x.natAbs)=x.natAbs by omega,qg _ _ (by omega),cm,o5,show sv true x.natAbs=x by simp[sv];omega]
 have e:(x%18446744073709551616).toNat=x.natAbs:=by omega
 rw[show decide (x<0)=false by simp[hx],jr,e,qg _ _ (by omega),cm,o5,show sv false x.natAbs=x by simp[sv];omega]
def fy(i:Int):Prop:=-9223372036854775808<=i/\i<=9223372036854775807
instance(i:Int):Decidable (fy i):=by unfold fy;infer_instance
def tu(i:Int):Int×Bool:=if fy i then(i,true)else(0,false)
theorem oz{z:Zr}(h:Wl z):dA z=some (tu (zi z)):=by
 obtain⟨n,w⟩:=z;unfold dA;have ht:=h.trim;have afZ:vl w<18446744073709551616->dJ (can 4294967296 (vl w))=some (vl w):=λh2=>by
  rw[low_eq _ (λ_ hx=>k7 (by decide) hx) (by have:=fV.2 h2;omega),eH]
 show(bu w).bind _=some (tu (sv n (vl w)));rw[show bu w=some (can 4294967296 (vl w))from ht];simp only[cm];generalize vl w=v at*;by_cases h2:v<18446744073709551616
 ·have:=fV.2 h2;rw[show decide ((2:Int)<((can 4294967296 v).length:Int))=false by simp;omega,jr,afZ h2,cm];cases n
  ·rw[jr,ow];by_cases h3:v<9223372036854775808
   ·rw[show decide (9223372036854775808<=v)=false by simp;omega,jr,tZ (by omega),tu,if_pos (by unfold fy;omega)]
   rw[show decide (9223372036854775808<=v)=true by simp;omega,iP,tu,if_neg (by unfold fy;omega)]
  rw[iP,show sv true v=-(v:Int)from rfl];by_cases h3:9223372036854775808<v
  ·rw[show decide (9223372036854775808<v)=true by simp;omega,iP,tu,if_neg (by unfold fy;omega)]
  rw[show decide (9223372036854775808<v)=false by simp;omega,jr,tu,if_pos (by unfold fy;omega)];by_cases h0:v=0
  ·subst h0;rfl
  rw[zV (by omega) (by omega)];rw[show IntKind.i64.wrap ((18446744073709551616+0-v:Nat):Int)=-(v:Int) by
   rw[IntKind.wrap];simp[IntKind.signed,IntKind.bits];omega]
 have:¬(((can 4294967296 v).length:Int)<=2):=λh=>h2 (fV.1 h);rw[show decide ((2:Int)<((can 4294967296 v).length:Int))=true by simp;omega,iP,tu,if_neg (by unfold fy;cases n<;>simp[sv]<;>omega)]
theorem sign_eq{z:Zr}(h:Wl z):c6 z=some (zi z).sign:=by
 obtain⟨n,w⟩:=z;unfold c6;show(bu w).bind _=some (sv n (vl w)).sign;rw[show bu w=some (can 4294967296 (vl w))from h.trim];simp only[cm];generalize vl w=v;by_cases h0:v=0
 ·subst h0;cases n<;>rfl
 have:(can 4294967296 v).length≠0:=λh=>h0 (qh.1 h);rw[show decide (((can 4294967296 v).length:Int)=0)=false by simp;intro e;rw[e]at this;exact this Y,jr];cases n
 ·rw[jr,ow,Int.sign_eq_one_of_pos (by omega)]
 rw[iP,show sv true v=-(v:Int)from Y,Int.sign_eq_neg_one_of_neg (by omega)]
def qi(i j:Int):Int:=if i<j then-1 else if i=j then 0 else 1
theorem l9{i j:Int}(h:i<j):qi i j=-1:=by simp[qi,h]
theorem mc{i j:Int}(h:j<i):qi i j=1:=by
 have h1:¬i<j:=by omega
 have h2:¬i=j:=by omega
 simp[qi,h1,h2]
theorem ud(i:Int):qi i i=0:=by simp[qi]
theorem GW(v w:Nat):CA v w=qi (v:Int) (w:Int):=by
 rcases Nat.lt_trichotomy v w with h|h|h
 ·rw[w8 h,l9 (by omega)]
 ·rw[h,Et,ud]
 rw[zZ h,mc (by omega)]
theorem NV(i j:Int):qi (-i) (-j)=qi j i:=by
 rcases Int.lt_trichotomy i j with h|h|h
 ·rw[mc h,mc (by omega)]
 ·rw[h,ud,ud]
 rw[l9 h,l9 (by omega)]
theorem VJ{x y:Zr}(hx:Wl x)(hy:Wl y):mD x y=some (qi (zi x) (zi y)):=by
 obtain⟨n,w⟩:=x;obtain⟨m,u⟩:=y;unfold mD;show(c6 ⟨n,w⟩).bind _=_;rw[sign_eq hx,cm];show(c6 ⟨m,u⟩).bind _=_;rw[sign_eq hy,cm,show bu w=some (can 4294967296 (vl w))from hx.trim,show bu u=some (can 4294967296 (vl u))from hy.trim];simp only[cm];rw[jO _ _ (Nat.le_trans hx.cl (by decide)) (Nat.le_trans hy.cl (by decide)),jO _ _ (Nat.le_trans hy.cl (by decide)) (Nat.le_trans hx.cl (by decide))];simp only[cm];rw[show zi ⟨n,w⟩=sv n (vl w)from Y,show zi ⟨m,u⟩=sv m (vl u)from rfl];generalize vl w=a;generalize vl u=b;rw[GW,GW];obtain⟨i,hi⟩:∃i,sv n a=i:=⟨_,Y⟩;obtain⟨j,hj⟩:∃j,sv m b=j:=⟨_,Y⟩;have V1:(i<0->i=-(a:Int))/\(0<=i->i=a):=by rw[<-hi];cases n<;>simp[sv]<;>omega
 have hjb:(j<0->j=-(b:Int))/\(0<=j->j=b):=by rw[<-hj];cases m<;>simp[sv]<;>omega
 rw[hi,hj];rcases Int.lt_trichotomy i 0 with h1|h1|h1<;>rcases Int.lt_trichotomy j 0 with h2|h2|h2
 ·rw[Int.sign_eq_neg_one_of_neg h1,Int.sign_eq_neg_one_of_neg h2,V1.1 h1,hjb.1 h2,NV];rfl
 ·rw[Int.sign_eq_neg_one_of_neg h1,show Int.sign j=0 by rw[h2];rfl,show qi i j=-1 from l9 (by omega)];rfl
 ·rw[Int.sign_eq_neg_one_of_neg h1,Int.sign_eq_one_of_pos h2,show qi i j=-1 from l9 (by omega)];rfl
 ·rw[show Int.sign i=0 by rw[h1];rfl,Int.sign_eq_neg_one_of_neg h2,show qi i j=1 from mc (by omega)];rfl
 ·rw[show Int.sign i=0 by rw[h1];rfl,show Int.sign j=0 by rw[h2];rfl,<-V1.2 (by omega),<-hjb.2 (by omega)];rfl
 ·rw[show Int.sign i=0 by rw[h1];rfl,Int.sign_eq_one_of_pos h2,show qi i j=-1 from l9 (by omega)];rfl
 ·rw[Int.sign_eq_one_of_pos h1,Int.sign_eq_neg_one_of_neg h2,show qi i j=1 from mc (by omega)];rfl
 ·rw[Int.sign_eq_one_of_pos h1,show Int.sign j=0 by rw[h2];rfl,show qi i j=1 from mc (by omega)];rfl
 rw[Int.sign_eq_one_of_pos h1,Int.sign_eq_one_of_pos h2,<-V1.2 (by omega),<-hjb.2 (by omega)];rfl
theorem neg_eq{x:Zr}(hx:Wl x):fJ x=some (zn (-zi x)):=by
 obtain⟨n,w⟩:=x;unfold fJ;have hc:(can 4294967296 (vl w)).length<=10000000000:=hx.cl;simp only[cm];rw[show bu w=some (can 4294967296 (vl w))from hx.trim,cm,xd _ (by omega),cm,jL _ _ (gA (by omega)),cm,eH,o5,Ex];rfl
end
section
open Go.Fw
theorem xe(n m:Bool)(a b:Nat)(ha:(can 4294967296 a).length<=10000000000)(hb:(can 4294967296 b).length<=10000000000):
  dr n (can 4294967296 a) m (can 4294967296 b)=some (zn (sv n a+sv m b)):=by
 have la:=dU (B:=4294967296) (by decide) a;have lb:=dU (B:=4294967296) (by decide) b;unfold dr;simp only[cm];by_cases hnm:n=m
 ·subst hnm;rw[show(n==n)=true by simp,iP,yQ _ _ (gA (by omega)) (gA (by omega)),cm,eH,eH,jL _ _ ⟨λx hx=>m7 (by decide) _ _ _ hx,by rw[bT];omega⟩,cm];have hv:vl (fH 4294967296 (max (can 4294967296 a).length (can 4294967296 b).length+1) (a+b))=a+b:=by
   show val _ _=_;rw[kZ,Nat.mod_eq_of_lt];have h1:a<4294967296^(max (can 4294967296 a).length (can 4294967296 b).length):=Nat.lt_of_lt_of_le la (Nat.pow_le_pow_right (by decide) (by omega));have h2:b<4294967296^(max (can 4294967296 a).length (can 4294967296 b).length):=Nat.lt_of_lt_of_le lb (Nat.pow_le_pow_right (by decide) (by omega));rw[Nat.pow_succ];omega
  rw[hv,o5,show sv n (a+b)=sv n a+sv n b by cases n<;>simp[sv];omega]
 rw[show(n==m)=false by simp[hnm],jr,jO _ _ (by omega) (by omega),cm,GV];have hm:m= !n:=by cases n<;>cases m<;>simp_all
 subst hm;have hv:∀c d,d<=c->(can 4294967296 c).length<=10000000000->dg (can 4294967296 c) (can 4294967296 d)=some (fH 4294967296 (can 4294967296 c).length (c-d))/\vl (fH 4294967296 (can 4294967296 c).length (c-d))=c-d:=by
  intro c d hdc uE;have lc:=dU (B:=4294967296) (by decide) c;have hdl:(can 4294967296 d).length<=(can 4294967296 c).length:=(ff (by decide)).2 (by omega);constructor
  ·rw[yR _ _ (gA (by omega)) (gA (by omega)) hdl (by rw[eH,eH];exact hdc),eH,eH]
  show val _ _=_;rw[kZ,Nat.mod_eq_of_lt (by omega)]
 by_cases hlt:a<b
 ·obtain⟨h1,h2⟩:=hv b a (by omega) hb;rw[show decide (a<b)=true by simp[hlt],iP,h1,cm,jL _ _ ⟨λx hx=>m7 (by decide) _ _ _ hx,by rw[bT];omega⟩,cm,h2,o5,show sv (!n) (b-a)=sv n a+sv (!n) b by cases n<;>simp[sv]<;>omega]
 obtain⟨h1,h2⟩:=hv a b (by omega) ha;rw[show decide (a<b)=false by simp[hlt],jr,h1,cm,jL _ _ ⟨λx hx=>m7 (by decide) _ _ _ hx,by rw[bT];omega⟩,cm,h2,o5,show sv n (a-b)=sv n a+sv (!n) b by cases n<;>simp[sv]<;>omega]
theorem Jp(v:BitVec 64):IntKind.i64.wrap (v.toNat:Int)=v.toInt:=by
 rw[BitVec.toInt_eq_toNat_cond];have:=v.isLt;rw[show(2:Nat)^64=18446744073709551616 by decide]at this⊢;split
 ·rw[tZ (by omega)]
 rw[IntKind.wrap];simp[IntKind.signed,IntKind.bits];omega
theorem Jq(v:BitVec 64):BitVec.ofInt 64 (IntKind.i64.wrap (v.toNat:Int))=v:=by rw[Jp,BitVec.ofInt_toInt]
theorem yo{x:Int}(h:fy x):(BitVec.ofInt 64 x).msb=decide (x<0):=by
 rw[BitVec.msb_eq_toInt,BitVec.toInt_ofInt];unfold fy at h;have:x.bmod (2^64)=x:=by
  rw[Int.bmod_def];simp only[show((2^64:Nat):Int)=18446744073709551616 by decide];split<;>omega
 rw[this]
theorem C6(v:BitVec 64):decide ((0:Int)<=IntKind.i64.wrap (v.toNat:Int))= !v.msb:=by
 rw[Jp,BitVec.msb_eq_toInt];by_cases h:v.toInt<0
 ·simp[h]
 simp[h];omega
theorem qj(x:Int):fy (IntKind.i64.wrap x):=by
 unfold fy;rw[IntKind.wrap];simp[IntKind.signed,IntKind.bits];split<;>omega
theorem BE{α:Type}(b:Bool)(x:α):(bif b then x else x)=x:=by cases b<;>rfl
theorem iE{i:Int}(h:fy i):tu i=(i,true):=if_pos h
theorem oA{i:Int}(h:¬fy i):tu i=(0,false):=if_neg h
theorem add_eq{x y:Zr}(hx:Wl x)(hy:Wl y):mA x y=some (zn (zi x+zi y)):=by
 obtain⟨n,w⟩:=x;obtain⟨m,u⟩:=y;unfold mA;simp only[oz hx,oz hy,cm,cK];have hK:((bu w).bind λxn=>(bu u).bind λvR=>(dr n xn m vR).bind λx=>some x)=some (zn (zi ⟨n,w⟩+zi ⟨m,u⟩)):=by
  rw[show bu w=some (can 4294967296 (vl w))from hx.trim,show bu u=some (can 4294967296 (vl u))from hy.trim,cm,cm,xe _ _ _ _ hx.cl hy.cl,cm];rfl
 have hK':((bu w).bind λxn=>(bu u).bind λvR=>(dr n xn m vR).bind λx=>some ⟨x.neg,x.w⟩)=some (zn (zi ⟨n,w⟩+zi ⟨m,u⟩)):=hK;rw[hK'];generalize zi ⟨n,w⟩=i;generalize zi ⟨m,u⟩=j;by_cases h1:fy i
 ·by_cases h2:fy j
  ·rw[iE h1,iE h2,iP,cm,iP,Jq,Jq,C6,BitVec.msb_and,BitVec.msb_xor,BitVec.msb_xor,yo h1,yo h2,yo (qj _),lU (qj _).1 (qj _).2,cm];by_cases hr:fy (i+j)
   ·rw[cU hr.1 hr.2];exact BE _ _
   have:(!((decide (i<0)^^decide (IntKind.i64.wrap (i+j)<0))&&(decide (j<0)^^decide (IntKind.i64.wrap (i+j)<0))))=false:=by
    unfold fy at*;by_cases hs:i<0
    ·have e:IntKind.i64.wrap (i+j)=i+j+18446744073709551616:=by rw[IntKind.wrap];simp[IntKind.signed,IntKind.bits];omega
     rw[e,show decide (i<0)=true by simp[hs],show decide (j<0)=true by simp;omega,show decide (i+j+18446744073709551616<0)=false by simp;omega];rfl
    have e:IntKind.i64.wrap (i+j)=i+j-18446744073709551616:=by rw[IntKind.wrap];simp[IntKind.signed,IntKind.bits];omega
    rw[e,show decide (i<0)=false by simp[hs],show decide (j<0)=false by simp;omega,show decide (i+j-18446744073709551616<0)=true by simp;omega];rfl
   rw[this,jr]
  rw[iE h1,oA h2,iP,cm,jr]
 rw[oA h1,jr,cm,jr]
theorem sub_eq{x y:Zr}(hx:Wl x)(hy:Wl y):mB x y=some (zn (zi x-zi y)):=by
 obtain⟨n,w⟩:=x;obtain⟨m,u⟩:=y;unfold mB;simp only[oz hx,oz hy,cm,cK];have hK':((bu w).bind λxn=>(bu u).bind λvR=>(dr n xn (!m) vR).bind λx=>some ⟨x.neg,x.w⟩)=some (zn (zi ⟨n,w⟩-zi ⟨m,u⟩)):=by
  rw[show bu w=some (can 4294967296 (vl w))from hx.trim,show bu u=some (can 4294967296 (vl u))from hy.trim,cm,cm,xe _ _ _ _ hx.cl hy.cl,cm,Ex,<-Int.sub_eq_add_neg];rfl
 rw[hK'];generalize zi ⟨n,w⟩=i;generalize zi ⟨m,u⟩=j;by_cases h1:fy i
 ·by_cases h2:fy j
  ·rw[iE h1,iE h2,iP,cm,iP,Jq,Jq,C6,BitVec.msb_and,BitVec.msb_xor,BitVec.msb_xor,yo h1,yo h2,yo (qj _),lU (qj _).1 (qj _).2,cm];by_cases hr:fy (i-j)
   ·rw[cU hr.1 hr.2];exact BE _ _
   have:(!((decide (i<0)^^decide (j<0))&&(decide (i<0)^^decide (IntKind.i64.wrap (i-j)<0))))=false:=by
    unfold fy at*;by_cases hs:i<0
    ·have e:IntKind.i64.wrap (i-j)=i-j+18446744073709551616:=by rw[IntKind.wrap];simp[IntKind.signed,IntKind.bits];omega
     rw[e,show decide (i<0)=true by simp[hs],show decide (j<0)=false by simp;omega,show decide (i-j+18446744073709551616<0)=false by simp;omega];rfl
    have e:IntKind.i64.wrap (i-j)=i-j-18446744073709551616:=by rw[IntKind.wrap];simp[IntKind.signed,IntKind.bits];omega
    rw[e,show decide (i<0)=false by simp[hs],show decide (j<0)=true by simp;omega,show decide (i-j-18446744073709551616<0)=true by simp;omega];rfl
   rw[this,jr]
  rw[iE h1,oA h2,iP,cm,jr]
 rw[oA h1,jr,cm,jr]
theorem NW(n m:Bool)(a b:Nat):sv (!(n==m)) (a*b)=sv n a*sv m b:=by
 cases n<;>cases m<;>simp[sv,Int.neg_mul,Int.mul_neg]
theorem mul_eq{x y:Zr}(hx:Wl x)(hy:Wl y):cX x y=some (zn (zi x*zi y)):=by
 obtain⟨n,w⟩:=x;obtain⟨m,u⟩:=y;unfold cX;have hcx:(can 4294967296 (vl w)).length<=10000000000:=hx.cl;have Zi:(can 4294967296 (vl u)).length<=10000000000:=hy.cl;simp only[];rw[show bu w=some (can 4294967296 (vl w))from hx.trim,show bu u=some (can 4294967296 (vl u))from hy.trim,cm,cm,show zi ⟨n,w⟩=sv n (vl w)from Y,show zi ⟨m,u⟩=sv m (vl u)from rfl];simp only[cm,cK];generalize vl w=a at*;generalize vl u=b at*;have la:=dU (B:=4294967296) (by decide) a;have lb:=dU (B:=4294967296) (by decide) b;have hK:((fO (can 4294967296 a) (can 4294967296 b)).bind λsq=>(cu (!(n==m)) sq).bind λx=>some ⟨x.neg,x.w⟩)=some (zn (sv n a*sv m b)):=by
  rw[GO _ _ (gA (by omega)) (gA (by omega)),cm,eH,eH,jL _ _ ⟨λx hx=>m7 (by decide) _ _ _ hx,by rw[bT];omega⟩,cm,o5];have hv:vl (fH 4294967296 ((can 4294967296 a).length+(can 4294967296 b).length) (a*b))=a*b:=by
   show val _ _=_;rw[kZ,Nat.mod_eq_of_lt];rw[Nat.pow_add];exact Nat.mul_lt_mul'' la lb
  rw[hv,NW]
 rw[hK];by_cases h1:a<4294967296
 ·by_cases h2:b<4294967296
  ·have l1:=low_eq (can 4294967296 a) (λ_ hx=>k7 (by decide) hx) (by have:=k8.2 h1;omega);have l2:=low_eq (can 4294967296 b) (λ_ hx=>k7 (by decide) hx) (by have:=k8.2 h2;omega);rw[eH]at l1 l2;have hlt:a*b<18446744073709551616:=Nat.mul_lt_mul'' h1 h2;rw[show decide (((can 4294967296 a).length:Int)<=1)=true by rw[decide_eq_true_eq];exact k8.2 h1,iP,cm,show decide (((can 4294967296 b).length:Int)<=1)=true by rw[decide_eq_true_eq];exact k8.2 h2,iP,l1,l2,cm,cm,Nat.mod_eq_of_lt hlt,qg _ _ hlt,cm,o5,NW]
  rw[show decide (((can 4294967296 a).length:Int)<=1)=true by rw[decide_eq_true_eq];exact k8.2 h1,iP,cm,show decide (((can 4294967296 b).length:Int)<=1)=false by rw[decide_eq_false_iff_not];exact λh=>h2 (k8.1 h),jr]
 rw[show decide (((can 4294967296 a).length:Int)<=1)=false by rw[decide_eq_false_iff_not];exact λh=>h1 (k8.1 h),jr,cm,jr]
end
section
open Go.Fw
theorem VK(n m:Bool){a b:Nat}(hb:0<b):
  sv n a/sv m b=(if n=true/\0<a%b then sv (!(n==m)) (a/b+1)else sv (!(n==m)) (a/b))/\
  sv n a%sv m b=(if n=true/\0<a%b then((b-a%b:Nat):Int)else((a%b:Nat):Int)):=by
 have hd:=Nat.div_add_mod a b;have hm:=Nat.mod_lt a hb
 revert hd hm
 generalize a/b=q;generalize a%b=r;intro hd hm;have hd':(b:Int)*q+r=a:=by exact_mod_cast hd
 have pos:∀n,sv n a/(b:Int)=(if n=true/\0<r then sv n (q+1)else sv n q)/\sv n a%(b:Int)=(if n=true/\0<r then((b-r:Nat):Int)else(r:Int)):=by
  intro n;apply(Int.ediv_emod_unique (by omega)).2;cases n
  ·simp[sv];omega
  by_cases hr:0<r
  ·simp only[hr,and_self,if_true,sv,cond_true];have:(b:Int)* -((q+1:Nat):Int)=-((b:Int)*q)-b:=by
    rw[Int.mul_neg,Int.natCast_add,Int.mul_add];simp;omega
   rw[this];omega
  have:r=0:=by omega
  subst this;simp[sv,Int.mul_neg];omega
 cases m
 ·have:=pos n;rw[ow,show(!(n==false))=n by cases n<;>rfl];exact this
 have:=pos n;rw[show sv true b=-(b:Int)from rfl,Int.ediv_neg,Int.emod_neg,this.1,this.2,show(!(n==true))= !n by cases n<;>rfl,Ex,Ex];refine⟨?_,Y⟩;split<;>rfl
theorem VL{a b:Nat}(hba:b<=a)(uE:(can 4294967296 a).length<=10000000000):dg (can 4294967296 a) (can 4294967296 b)=some (fH 4294967296 (can 4294967296 a).length (a-b))/\vl (fH 4294967296 (can 4294967296 a).length (a-b))=a-b:=by
 have lc:=dU (B:=4294967296) (by decide) a;have hdl:(can 4294967296 b).length<=(can 4294967296 a).length:=(ff (by decide)).2 (by omega);constructor
 ·rw[yR _ _ (gA (by omega)) (gA (by omega)) hdl (by rw[eH,eH];exact hba),eH,eH]
 show val _ _=_;rw[kZ,Nat.mod_eq_of_lt (by omega)]
def Qn(i j:Int):Zr×Zr×Int:=if j=0 then(⟨false,[]⟩,⟨false,[]⟩,7)else(zn (i/j),zn (i%j),0)
theorem divMod_eq{x y:Zr}(hx:Wl x)(hy:Wl y):eV x y=some (Qn (zi x) (zi y)):=by
 obtain⟨n,w⟩:=x;obtain⟨m,u⟩:=y;unfold eV;have hcx:(can 4294967296 (vl w)).length<=10000000000:=hx.cl;have Zi:(can 4294967296 (vl u)).length<=10000000000:=hy.cl;simp only[];rw[show bu w=some (can 4294967296 (vl w))from hx.trim,show bu u=some (can 4294967296 (vl u))from hy.trim,cm,cm,show zi ⟨n,w⟩=sv n (vl w)from Y,show zi ⟨m,u⟩=sv m (vl u)from rfl];simp only[cm,cK];generalize vl w=a at*;generalize vl u=b at*;by_cases h0:b=0
 ·subst h0;rw[show sv m 0=0 by cases m<;>rfl];rfl
 have yG:(can 4294967296 b).length≠0:=λh=>h0 (qh.1 h);rw[show decide (((can 4294967296 b).length:Int)=0)=false by simp;intro e;rw[e]at yG;exact yG Y,jr];obtain⟨q,r,hqr,hq1,hq2,UG,Yh,hq3,hr3⟩:=yS a b hcx Zi h0;have hm:a%b<b:=Nat.mod_lt _ (by omega);obtain⟨e1,e2⟩:=VK n m (a:=a) (show 0<b by omega);have hj:sv m b≠0:=by cases m<;>simp[sv]<;>omega
 rw[hqr,cm];simp only[];rw[z1 r (by have:=UG.2;omega),qe (by decide) UG.1,show val 4294967296 r=a%b from Yh,cm,Qn,if_neg hj,e1,e2];have NX:(can 4294967296 (a%b)).length<=(can 4294967296 b).length:=(ff (by decide)).2 (Nat.lt_trans hm (dU (by decide) b));have hK:∀c:Bool,(decide (n=true/\0<a%b)=c)->(bif c then(eF q [1]).bind λsq=>(dg (can 4294967296 b) (can 4294967296 (a%b))).bind λsj=>(cu (!(n==m)) sq).bind λx=>(cu false sj).bind λx_1=>some ((⟨x.neg,x.w⟩:Zr),(⟨x_1.neg,x_1.w⟩:Zr),(0:Int))
   else(cu (!(n==m)) q).bind λx=>(cu false (can 4294967296 (a%b))).bind λx_1=>some ((⟨x.neg,x.w⟩:Zr),(⟨x_1.neg,x_1.w⟩:Zr),(0:Int)))=
   some (zn (if n=true/\0<a%b then sv (!(n==m)) (a/b+1)else sv (!(n==m)) (a/b)),zn (if n=true/\0<a%b then((b-a%b:Nat):Int)else((a%b:Nat):Int)),0):=by
  intro c hc;cases c
  ·have Zj:=of_decide_eq_false hc;rw[jr,if_neg Zj,if_neg Zj,jL _ _ hq1,cm,jL _ _ (gA (by omega)),cm,eH,hq2,o5,o5,ow]
  have Zj:=of_decide_eq_true hc;obtain⟨s1,s2⟩:=VL (a:=b) (b:=a%b) (by omega) Zi;have w1:EJ [1]:=⟨by simp,by simp⟩;rw[iP,if_pos Zj,if_pos Zj,yQ _ _ hq1 w1,cm,s1,cm,jL _ _ ⟨λx hx=>m7 (by decide) _ _ _ hx,by rw[bT];simp;omega⟩,cm,jL _ _ ⟨λx hx=>m7 (by decide) _ _ _ hx,by rw[bT];omega⟩,cm,s2,o5,o5,ow];have:vl (fH 4294967296 (max q.length [1].length+1) (vl q+vl [1]))=a/b+1:=by
   show val _ _=_;rw[kZ,show vl [1]=1 by decide,hq2,Nat.mod_eq_of_lt];have h1:vl q<4294967296^q.length:=iQ q hq1.1;rw[hq2]at h1;have h2:4294967296^q.length<=4294967296^(max q.length [1].length):=Nat.pow_le_pow_right (by decide) (by omega);have h3:0<4294967296^(max q.length [1].length):=Nat.pow_pos (by decide);rw[Nat.pow_succ];omega
  rw[this]
 have hz:(0<(can 4294967296 (a%b)).length)↔0<a%b:=by
  have:=qh (v:=a%b);omega
 cases n
 ·rw[jr,cm];exact hK false (by simp)
 rw[iP,cm];refine hK _ ?_;simp only[true_and];by_cases h:0<a%b
 ·simp[h,hz.2 h]
 have h':¬0<(can 4294967296 (a%b)).length:=λe=>h (hz.1 e);have h'':¬((0:Int)<((can 4294967296 (a%b)).length:Int)):=by omega
 simp only[h,h'',decide_false]
theorem VM{x y:Zr}(hx:Wl x)(hy:Wl y):kq x y=some (zn (Int.gcd (zi x) (zi y):Int)):=by
 obtain⟨n,w⟩:=x;obtain⟨m,u⟩:=y;unfold kq;have hcx:(can 4294967296 (vl w)).length<=10000000000:=hx.cl;have Zi:(can 4294967296 (vl u)).length<=10000000000:=hy.cl;simp only[];rw[show bu w=some (can 4294967296 (vl w))from hx.trim,show bu u=some (can 4294967296 (vl u))from hy.trim,cm,cm,Int.gcd,Ew,Ew];show _=some (zn ((Nat.gcd (vl w) (vl u):Nat):Int));generalize vl w=a at*;generalize vl u=b at*;refine nK (λs=>∃c d,s=(can 4294967296 c,can 4294967296 d)/\Nat.gcd c d=Nat.gcd a b/\(can 4294967296 c).length<=10000000000/\(can 4294967296 d).length<=10000000000)
  (λs=>∃c d,s=(can 4294967296 c,can 4294967296 d)/\Nat.gcd c d=Nat.gcd a b/\(can 4294967296 c).length<=10000000000/\(d=0\/(c<18446744073709551616/\d<18446744073709551616))) (λs=>vl s.2) ?_ ⟨a,b,Y,Y,hcx,Zi⟩ ?_
 ·rintro _ ⟨c,d,rfl,hg,hc,hd⟩;simp only[cm,cK];by_cases h0:d=0
  ·right;subst h0;exact⟨_,Y,c,0,Y,hg,hc,.inl Y⟩
  have yG:(can 4294967296 d).length≠0:=λh=>h0 (qh.1 h);rw[show decide ((0:Int)<((can 4294967296 d).length:Int))=true by simp;omega,iP];by_cases h2:c<18446744073709551616/\d<18446744073709551616
  ·right;have c1:=fV.2 h2.1;have c2:=fV.2 h2.2;rw[show decide ((2:Int)<((can 4294967296 c).length:Int))=false by simp;omega,jr,show decide ((2:Int)<((can 4294967296 d).length:Int))=false by simp;omega];exact⟨_,Y,c,d,Y,hg,hc,.inr h2⟩
  left;have hm:c%d<d:=Nat.mod_lt _ (by omega);obtain⟨q,r,hqr,hq1,hq2,UG,Yh,-,-⟩:=yS c d hc hd h0;have Lp:((bif decide ((2:Int)<((can 4294967296 c).length:Int))then some true else some (decide ((2:Int)<((can 4294967296 d).length:Int)))):Option Bool)=some true:=by
   by_cases ER:c<18446744073709551616
   ·have hd2:¬d<18446744073709551616:=λh=>h2 ⟨ER,h⟩;have:¬(((can 4294967296 d).length:Int)<=2):=λh=>hd2 (fV.1 h);rw[show decide ((2:Int)<((can 4294967296 d).length:Int))=true by simp;omega];exact BE _ _
   have:¬(((can 4294967296 c).length:Int)<=2):=λh=>ER (fV.1 h);rw[show decide ((2:Int)<((can 4294967296 c).length:Int))=true by simp;omega,iP]
  rw[Lp,cm,cm,iP,hqr,cm];simp only[];rw[z1 r (by have:=UG.2;omega),qe (by decide) UG.1,show val 4294967296 r=c%d from Yh,cm];refine⟨_,Y,⟨d,c%d,Y,?_,hd,?_⟩,?_⟩
  ·rw[<-hg,Nat.gcd_comm d,<-Nat.gcd_rec,Nat.gcd_comm]
  ·exact Nat.le_trans ((ff (by decide)).2 (Nat.lt_trans hm (dU (by decide) d))) hd
  simp only[eH];exact hm
 rintro _ ⟨c,d,rfl,hg,hc,NT⟩;simp only[cm];by_cases h0:d=0
 ·subst h0;rw[show decide (((can 4294967296 0).length:Int)=0)=true by simp[tq],iP,xd _ (by omega),cm,jL _ _ (gA (by omega)),cm,eH,o5,ow,<-hg,Nat.gcd_zero_right]
 have h2:=NT.resolve_left h0;have yG:(can 4294967296 d).length≠0:=λh=>h0 (qh.1 h);have c1:=fV.2 h2.1;have c2:=fV.2 h2.2;rw[show decide (((can 4294967296 d).length:Int)=0)=false by simp;intro e;rw[e]at yG;exact yG Y,jr,low_eq _ (λ_ hx=>k7 (by decide) hx) (by omega),cm,low_eq _ (λ_ hx=>k7 (by decide) hx) (by omega),cm,eH,eH];refine nK (λs=>Nat.gcd s.1 s.2=Nat.gcd a b/\s.1<18446744073709551616/\s.2<18446744073709551616) (λe=>e=Nat.gcd a b/\e<18446744073709551616) (λs=>s.2) ?_ ⟨hg,h2.1,h2.2⟩ ?_
 ·rintro⟨s,t⟩ ⟨i1,i2,i3⟩;simp only at i1 i2 i3⊢;by_cases ht:0<t
  ·left;rw[show decide (0<t)=true by simp[ht],iP,zX (by omega),cm];refine⟨_,Y,⟨?_,i3,?_⟩,Nat.mod_lt _ ht⟩
   ·rw[<-i1,Nat.gcd_comm t,<-Nat.gcd_rec,Nat.gcd_comm]
   exact Nat.lt_trans (Nat.mod_lt _ ht) i3
  right;rw[show decide (0<t)=false by simp[ht],jr];refine⟨_,Y,?_,i2⟩;rw[<-i1,show t=0 by omega,Nat.gcd_zero_right]
 rintro e ⟨rfl,he⟩;rw[qg _ _ he,cm,o5,ow]
end
section
open Go.Fw
def zl(l:List Nat):List Int:=l.map (λ(n:Nat)=>(n:Int))
abbrev Wq(l:List Nat):Nat:=val 65536 l
end
section
open Go.Fw
theorem p9(k:Nat):10^(9*(k+1))=10^(9*k)*1000000000:=by
 rw[show 9*(k+1)=9*k+9 by omega,Nat.pow_add]
end
section
open Go.Fw
def body(s:Ox):Ox:=if s.head?=some 45 then s.tail else s
def dv(s:Ox):Nat:=s.foldl (λa c=>a*10+(c.toNat-48)) 0
def z0:Zr:=⟨false,[]⟩
end
section
open Go.Fw
theorem zeta'(z:Zr):(⟨z.neg,z.w⟩:Zr)=z:=by cases z;rfl
theorem KB{i:Int}(h:fy i):Fit 2 i:=Fit.i64 h.1 h.2
end
section
open Go.Fw
theorem Qo(l:List Zr)(hl:l.length<=100):∃b,kT l=some b/\(b=false->∀z∈l,z.w.length<=12):=by
 unfold kT;simp only[cm];refine nG (λy=>∃i:Nat,y=(i:Int)/\i<=l.length/\∀z∈l.take i,z.w.length<=12) (λe=>(∃c,e=.inl c/\∀z∈l,z.w.length<=12)\/e=.inr true) (λy=>l.length-y.toNat) ?_ ⟨0,Y,by omega,by simp⟩ ?_
 ·rintro _ ⟨i,rfl,hi,ht⟩;by_cases hlt:i<l.length
  ·have g:l[i]? =some l[i]:=by simp
   rw[show decide ((i:Int)<(l.length:Int))=true by simp[hlt],iP,bL g,cm];by_cases gu:l[i].w.length<=12
   ·left;rw[show decide ((12:Int)<(l[i].w.length:Int))=false by rw[decide_eq_false_iff_not];omega,jr,bZ (by omega)];refine⟨_,Y,⟨i+1,Y,hlt,?_⟩,by omega⟩;rw[List.take_add_one,g];intro z hz;rcases List.mem_append.1 hz with h|h
    ·exact ht z h
    simp at h;rw[h];exact gu
   right;rw[show decide ((12:Int)<(l[i].w.length:Int))=true by rw[decide_eq_true_eq];omega,iP];exact⟨_,Y,.inr Y⟩
  right;rw[show decide ((i:Int)<(l.length:Int))=false by simp;omega,jr];rw[List.take_of_length_le (by omega)]at ht;exact⟨_,Y,.inl ⟨_,Y,ht⟩⟩
 rintro e (⟨c,rfl,he⟩|rfl)
 ·exact⟨false,Y,λ_=>he⟩
 exact⟨true,rfl,λh=>by cases h⟩
theorem NY(i j:Int):(i-j).sign=qi i j:=by
 rcases Int.lt_trichotomy i j with h|h|h
 ·rw[l9 h,Int.sign_eq_neg_one_of_neg (by omega)]
 ·rw[h,ud,Int.sub_self];rfl
 rw[mc h,Int.sign_eq_one_of_pos (by omega)]
abbrev OkZ(z:Zr):Prop:=True/\(z.w.length<=9223372036854775807/\∀x∈z.w,x<4294967296)
end
section
open Go.Fw
def qd(q:Qr):Int:=if zi q.den=0 then 1 else zi q.den
def qv(q:Qr):Rat:=Rat.divInt (zi q.num) (qd q)
def qn(r:Rat):Qr:=⟨zn r.num,if r.den=1 then⟨false,[]⟩else zn (r.den:Int)⟩
def FQ(L:Nat)(r:Rat):Prop:=Fit L r.num/\Fit L (r.den:Int)
structure kn (L:Nat) (q:Qr) (r:Rat):Prop where
 n:∀x∈q.num.w,x<4294967296
 d:∀x∈q.den.w,x<4294967296
 ln:q.num.w.length<=L
 ld:q.den.w.length<=L
 l1:1<=L
 v:qv q=r
theorem Zk(q:Qr):qd q≠0:=by
 unfold qd;by_cases h:zi q.den=0
 ·rw[if_pos h];decide
 rw[if_neg h];exact h
theorem Zl(r:Rat):qv (qn r)=r:=by
 unfold qv qd qn;by_cases h:r.den=1
 ·rw[if_pos h];show Rat.divInt (zi (zn r.num)) (if zi ⟨false,[]⟩=0 then 1 else zi ⟨false,[]⟩)=r;rw[if_pos (show zi ⟨false,[]⟩=0 from rfl),fN];have:=Rat.num_divInt_den r;rw[h]at this;exact this
 rw[if_neg h];show Rat.divInt (zi (zn r.num)) (if zi (zn (r.den:Int))=0 then 1 else zi (zn (r.den:Int)))=r;have:=r.den_nz;rw[fN,fN,if_neg (by omega),Rat.num_divInt_den]
theorem Jr{w:List Nat}{n:Bool}{L:Nat}(h:∀x∈w,x<4294967296)(hl:w.length<=L):Fit L (zi ⟨n,w⟩):=by
 unfold Fit;rw[Ew];exact Nat.lt_of_lt_of_le (iQ w h) (Nat.pow_le_pow_right (by decide) hl)
theorem z3{L:Nat}(h:1<=L):Fit L 1:=by
 unfold Fit;exact Nat.lt_of_lt_of_le (show(1:Int).natAbs<4294967296^1 by decide) (Nat.pow_le_pow_right (by decide) h)
theorem FQ.rep{L:Nat}{r:Rat}(h:FQ L r)(h1:1<=L):kn L (qn r) r:=by
 refine⟨λx hx=>k7 (by decide) hx,?_,(ff (by decide)).2 h.1,?_,h1,Zl r⟩
 ·unfold qn;by_cases e:r.den=1
  ·rw[if_pos e];simp
  rw[if_neg e];exact λx hx=>k7 (by decide) hx
 unfold qn;by_cases e:r.den=1
 ·rw[if_pos e];simp
 rw[if_neg e];exact(ff (by decide)).2 h.2
theorem kn.wn{L:Nat}{q:Qr}{r:Rat}(h:kn L q r)(hL:L<=10000000000):Wl q.num:=⟨h.n,Nat.le_trans h.ln hL⟩
theorem kn.wd{L:Nat}{q:Qr}{r:Rat}(h:kn L q r)(hL:L<=10000000000):Wl q.den:=⟨h.d,Nat.le_trans h.ld hL⟩
theorem kn.fn{L:Nat}{q:Qr}{r:Rat}(h:kn L q r):Fit L (zi q.num):=Jr (n:=q.num.neg) h.n h.ln
theorem kn.fd{L:Nat}{q:Qr}{r:Rat}(h:kn L q r):Fit L (zi q.den):=Jr (n:=q.den.neg) h.d h.ld
theorem kn.fqd{L:Nat}{q:Qr}{r:Rat}(h:kn L q r):Fit L (qd q):=by
 unfold qd;by_cases e:zi q.den=0
 ·rw[if_pos e];exact z3 h.l1
 rw[if_neg e];exact h.fd
theorem kn.mono{L M:Nat}{q:Qr}{r:Rat}(h:kn L q r)(hl:L<=M):kn M q r:=⟨h.n,h.d,Nat.le_trans h.ln hl,Nat.le_trans h.ld hl,Nat.le_trans h.l1 hl,h.v⟩
theorem FQ.mono{L M:Nat}{r:Rat}(h:FQ L r)(hl:L<=M):FQ M r:=⟨h.1.mono hl,h.2.mono hl⟩
theorem qk{L:Nat}{a d:Int}(h0:d≠0)(ha:Fit L a)(hd:Fit L d):FQ L (Rat.divInt a d):=by
 generalize hr:Rat.divInt a d=r;obtain⟨n',d',z',c⟩:=r;obtain⟨m,hm,h1,h2⟩:=Rat.divInt_num_den h0 hr;have hm':0<m.natAbs:=Int.natAbs_pos.2 hm;refine⟨ha.le ?_,hd.le ?_⟩
 ·rw[h1,Int.natAbs_mul];exact Nat.le_mul_of_pos_right _ hm'
 rw[h2,Int.natAbs_mul];exact Nat.le_mul_of_pos_right _ hm'
theorem kn.fq{L:Nat}{q:Qr}{r:Rat}(h:kn L q r):FQ L r:=by rw[<-h.v];exact qk (Zk q) h.fn h.fqd
theorem ue(r:Rat):r=Rat.divInt r.num (r.den:Int):=(Rat.num_divInt_den r).symm
theorem pE(r:Rat):(r.den:Int)≠0:=by have:=r.den_nz;omega
theorem FQ.add{L M:Nat}{x y:Rat}(hx:FQ L x)(hy:FQ M y):FQ (L+M+1) (x+y):=by
 have e:x+y=Rat.divInt (x.num*y.den+y.num*x.den) (x.den*y.den):=by
  conv=>lhs;rw[ue x,ue y,Rat.divInt_add_divInt _ _ (pE x) (pE y)]
 rw[e];refine qk (Int.mul_ne_zero (pE x) (pE y)) ?_ ?_
 ·exact(hx.1.mul hy.2).add (by rw[Nat.add_comm L M];exact hy.1.mul hx.2)
 exact(hx.2.mul hy.2).mono (by omega)
theorem FQ.sub{L M:Nat}{x y:Rat}(hx:FQ L x)(hy:FQ M y):FQ (L+M+1) (x-y):=by
 have e:x-y=Rat.divInt (x.num*y.den-y.num*x.den) (x.den*y.den):=by
  conv=>lhs;rw[ue x,ue y,Rat.divInt_sub_divInt _ _ (pE x) (pE y)]
 rw[e];refine qk (Int.mul_ne_zero (pE x) (pE y)) ?_ ?_
 ·exact(hx.1.mul hy.2).sub (by rw[Nat.add_comm L M];exact hy.1.mul hx.2)
 exact(hx.2.mul hy.2).mono (by omega)
theorem FQ.mul{L M:Nat}{x y:Rat}(hx:FQ L x)(hy:FQ M y):FQ (L+M) (x*y):=by
 have e:x*y=Rat.divInt (x.num*y.num) (x.den*y.den):=by
  conv=>lhs;rw[ue x,ue y,Rat.divInt_mul_divInt]
 rw[e];exact qk (Int.mul_ne_zero (pE x) (pE y)) (hx.1.mul hy.1) (hx.2.mul hy.2)
theorem FQ.neg{L:Nat}{x:Rat}(hx:FQ L x):FQ L (-x):=⟨hx.1.neg,hx.2⟩
theorem FQ.inv{L:Nat}{x:Rat}(hx:FQ L x)(h:x≠0):FQ L x⁻¹:=by
 have hn:x.num≠0:=λe=>h (Rat.num_eq_zero.1 e);rw[Rat.inv_def];exact qk hn hx.2 hx.1
theorem FQ.div{L M:Nat}{x y:Rat}(hx:FQ L x)(hy:FQ M y)(h:y≠0):FQ (L+M) (x/y):=by rw[Rat.div_def];exact hx.mul (hy.inv h)
theorem FQ.int{L:Nat}{i:Int}(h:Fit L i)(h1:1<=L):FQ L (i:Rat):=⟨h,z3 h1⟩
def lf(x y:Rat):Int:=if x<y then-1 else if x=y then 0 else 1
theorem yp(x:Rat):lf x x=0:=by unfold lf;rw[if_neg Rat.lt_irrefl,if_pos rfl]
theorem Js{x y:Rat}(h:x<y):lf x y=-1:=if_pos h
theorem Qp{x y:Rat}(h:y<x):lf x y=1:=by
 unfold lf;rw[if_neg (λh'=>by grind),if_neg (λh'=>by grind)]
theorem KC{a b c d:Int}(hb:0<b)(hd:0<d):Rat.divInt a b<Rat.divInt c d↔a*d<c*b:=by
 have hb':(0:Rat)<(b:Rat):=Rat.intCast_pos.2 hb;have hd':(0:Rat)<(d:Rat):=Rat.intCast_pos.2 hd;rw[Rat.divInt_eq_div,Rat.divInt_eq_div,Rat.div_lt_iff hb',Rat.div_def,Rat.mul_assoc,Rat.mul_comm (d:Rat)⁻¹,<-Rat.mul_assoc,<-Rat.div_def,Rat.lt_div_iff hd',<-Rat.intCast_mul,<-Rat.intCast_mul,Rat.intCast_lt_intCast]
theorem GX{a b c d:Int}(hb:0<b)(hd:0<d):lf (Rat.divInt a b) (Rat.divInt c d)=qi (a*d) (c*b):=by
 unfold lf qi;have e1:=KC (a:=a) (c:=c) hb hd;have e2:=Rat.divInt_eq_divInt_iff (n₁:=a) (d₁:=b) (n₂:=c) (d₂:=d) (by omega) (by omega);by_cases h1:a*d<c*b
 ·rw[if_pos (e1.2 h1),if_pos h1]
 rw[if_neg (λh=>h1 (e1.1 h)),if_neg h1];by_cases h2:a*d=c*b
 ·rw[if_pos (e2.2 h2),if_pos h2]
 rw[if_neg (λh=>h2 (e2.1 h)),if_neg h2]
theorem tw{a b:Int}(hb:0<b):a.sign=lf (Rat.divInt a b) 0:=by
 have:(0:Rat)=Rat.divInt 0 1:=rfl;rw[this,GX hb (by decide),Int.mul_one,Int.zero_mul,<-NY,Int.sub_zero]
theorem C7{a d:Int}(hd:0<d):qn (Rat.divInt a d)=⟨zn (a/(Int.gcd a d:Int)),if d/(Int.gcd a d:Int)=1 then⟨false,[]⟩else zn (d/(Int.gcd a d:Int))⟩:=by
 have h1:(Rat.divInt a d).num=a/(Int.gcd a d:Int):=by rw[Rat.num_divInt,Int.sign_eq_one_of_pos hd,Int.one_mul,Int.gcd_comm]
 have h2:((Rat.divInt a d).den:Int)=d/(Int.gcd a d:Int):=by
  rw[Rat.den_divInt,if_neg (by omega),Int.gcd_comm];have:(d.natAbs:Int)=d:=by omega
  rw[Int.natCast_ediv,this]
 unfold qn;rw[h1,h2];by_cases e:(Rat.divInt a d).den=1
 ·rw[if_pos e,if_pos (by omega)]
 rw[if_neg e,if_neg (by omega)]
theorem Qq(k:Int):((bif(tu k).2 then some (decide ((tu k).1=1))else some false):Option Bool)=some (decide (k=1)):=by
 by_cases h:fy k
 ·rw[iE h];rfl
 rw[oA h];have:¬k=1:=by rintro rfl;exact h (by decide)
 rw[decide_eq_false this];rfl
theorem BF{n d:Zr}(hn:Wl n)(hd:Wl d)(h:0<zi d):((kq n d).bind λg=>(eV n g).bind λa=>(eV d g).bind λb=>(dA b.1).bind λc=>
  (bif c.2 then some (decide (c.1=1))else some false).bind λe=>bif e then some (⟨a.1,⟨false,[]⟩⟩:Qr)else some ⟨a.1,b.1⟩)=some (qn (Rat.divInt (zi n) (zi d))):=by
 have g0:(Int.gcd (zi n) (zi d):Int)≠0:=by
  have:0<Int.gcd (zi n) (zi d):=Int.gcd_pos_of_ne_zero_right _ (by omega);omega
 have wg:Wl (zn (Int.gcd (zi n) (zi d):Int)):=jM ((Wl.fit hd).le (by
  have:=Nat.le_of_dvd (Int.natAbs_pos.2 (show zi d≠0 by omega)) (Int.gcd_dvd_natAbs_right (zi n) (zi d));simpa using this)) hd.2
 have wq:Wl (zn (zi d/(Int.gcd (zi n) (zi d):Int))):=jM ((Wl.fit hd).le (Int.natAbs_ediv_le_natAbs _ _)) hd.2;rw[VM hn hd,cm,divMod_eq hn wg,cm,divMod_eq hd wg,cm,fN,Qn,if_neg g0,Qn,if_neg g0];simp only[];rw[oz wq,cm,fN,Qq,cm,C7 h];by_cases e:zi d/(Int.gcd (zi n) (zi d):Int)=1
 ·rw[decide_eq_true e,iP,if_pos e]
 rw[decide_eq_false e,jr,if_neg e]
theorem reduce_eq{x y:Zr}(hx:Wl x)(hy:Wl y)(h0:zi y≠0):eO x y=some (qn (Rat.divInt (zi x) (zi y))):=by
 unfold eO;simp only[cK,cm,zeta',sign_eq hy];by_cases h:zi y<0
 ·rw[show decide ((zi y).sign<0)=true by rw[Int.sign_eq_neg_one_of_neg h];rfl,iP,neg_eq hx,cm,neg_eq hy,cm];have hp:=BF (jM (Wl.fit hx).neg hx.2) (jM (Wl.fit hy).neg hy.2) (by rw[fN];omega);rw[fN,fN,Rat.neg_divInt_neg]at hp;exact hp
 rw[show decide ((zi y).sign<0)=false by rw[Int.sign_eq_one_of_pos (by omega)];rfl,jr];exact BF hx hy (by omega)
end
section
open Go.Fw
theorem tB(q:Qr):(⟨⟨q.num.neg,q.num.w⟩,⟨q.den.neg,q.den.w⟩⟩:Qr)=q:=by cases q;rfl
theorem tC(q:Qr):(⟨q.num,q.den⟩:Qr)=q:=by cases q;rfl
theorem parts_eq{L:Nat}{q:Qr}{r:Rat}(h:kn L q r)(hL:L<=10000000000):∃n d:Zr,c7 q=some (n,d)/\Wl n/\Wl d/\0<zi d/\Rat.divInt (zi n) (zi d)=r/\Fit L (zi n)/\Fit L (zi d):=by
 have wn:=h.wn hL;have wd:=h.wd hL;have hv:=h.v;unfold c7;simp only[zeta',cm,sign_eq wd,lU (x:=1) (by decide) (by decide),neg_eq wn,neg_eq wd];unfold qv qd at hv;rcases Int.lt_trichotomy (zi q.den) 0 with h1|h1|h1
 ·refine⟨_,_,?_,jM h.fn.neg hL,jM h.fd.neg hL,by rw[fN];omega,?_,by rw[fN];exact h.fn.neg,by rw[fN];exact h.fd.neg⟩
  ·rw[Int.sign_eq_neg_one_of_neg h1];rfl
  rw[fN,fN,Rat.neg_divInt_neg,<-hv,if_neg (by omega)]
 ·refine⟨_,_,?_,wn,jM (z3 h.l1) hL,by rw[fN];decide,?_,h.fn,by rw[fN];exact z3 h.l1⟩
  ·rw[h1];rfl
  rw[fN,<-hv,if_pos h1]
 refine⟨_,_,?_,wn,wd,h1,?_,h.fn,h.fd⟩
 ·rw[Int.sign_eq_one_of_pos h1];rfl
 rw[<-hv,if_neg (by omega)]
def Sm(a:Int):Prop:=-2147483648<a/\a<2147483648
theorem Sm.ok{a:Int}(h:Sm a):fy a:=by unfold Sm at h;unfold fy;omega
theorem lj{L:Nat}{q:Qr}{r:Rat}(h:kn L q r)(hL:L<=10000000000):∃a b c,dD q=some (a,b,c)/\(c=true->Sm a/\0<b/\Sm b/\Rat.divInt a b=r):=by
 have wn:=h.wn hL;have wd:=h.wd hL;have hv:=h.v;unfold dD;simp only[zeta',cm,cK,oz wn,oz wd];unfold qv qd at hv;generalize zi q.num=n at*;generalize zi q.den=d at*;by_cases hs:Sm n/\Sm d
 ·obtain⟨h1,h2⟩:=hs;rw[iE h1.ok,iE h2.ok];unfold Sm at h1 h2;simp only[];rw[decide_eq_false (show ¬n<=-2147483648 by omega),decide_eq_false (show ¬2147483648<=n by omega),decide_eq_false (show ¬d<=-2147483648 by omega),decide_eq_false (show ¬2147483648<=d by omega)];simp only[Bool.not_true,jr,cm];by_cases h0:d=0
  ·rw[decide_eq_true h0,iP];refine⟨_,_,_,Y,λ_=>⟨h1,by decide,⟨by decide,by decide⟩,?_⟩⟩;rw[<-hv,if_pos h0]
  rw[decide_eq_false h0,jr];rw[if_neg h0]at hv;by_cases hneg:d<0
  ·rw[decide_eq_true hneg,iP,cU (by omega) (by omega),cU (by omega) (by omega)];refine⟨_,_,_,Y,λ_=>⟨⟨by omega,by omega⟩,by omega,⟨by omega,by omega⟩,?_⟩⟩;rw[Int.zero_sub,Int.zero_sub,Rat.neg_divInt_neg,hv]
  rw[decide_eq_false hneg,jr];exact⟨_,_,_,Y,λ_=>⟨h1,by omega,h2,hv⟩⟩
 refine⟨0,0,false,?_,λe=>by cases e⟩;by_cases o1:fy n
 ·by_cases o2:fy d
  ·rw[iE o1,iE o2];simp only[Bool.not_true,jr,cm];unfold Sm at hs;by_cases c1:n<=-2147483648
   ·rw[decide_eq_true c1];simp only[cm,iP]
   rw[decide_eq_false c1];simp only[cm,jr];by_cases c2:2147483648<=n
   ·rw[decide_eq_true c2];simp only[cm,iP]
   rw[decide_eq_false c2];simp only[cm,jr];by_cases c3:d<=-2147483648
   ·rw[decide_eq_true c3];simp only[cm,iP]
   rw[decide_eq_false c3];simp only[cm,jr];rw[decide_eq_true (show 2147483648<=d by omega)];simp only[iP]
  rw[iE o1,oA o2];simp only[Bool.not_true,Bool.not_false,jr,cm,iP]
 rw[oA o1];simp only[Bool.not_false,cm,iP]
theorem GY{a g:Int}(hg:0<g)(h:g∣a):Int.tdiv a g=a/g:=by
 obtain⟨k,rfl⟩:=h;rw[Int.mul_tdiv_cancel_left _ (by omega),Int.mul_ediv_cancel_left _ (by omega)]
theorem ql{n d:Int}(hd:0<d)(hd':d<=9223372036854775807)(hn: -9223372036854775807<=n)(hn':n<=9223372036854775807):eP n d=some (qn (Rat.divInt n d)):=by
 unfold eP;simp only[cm,cK];refine nK (λs=>Int.gcd s.1 s.2=Int.gcd n d/\s.1.natAbs<=9223372036854775807/\s.2.natAbs<=9223372036854775807) (λe=>e.natAbs=Int.gcd n d/\e.natAbs<=9223372036854775807) (λs=>s.2.natAbs) ?_ ⟨Y,by simp only[];omega,by simp only[];omega⟩ ?_
 ·rintro⟨a,b⟩ ⟨i1,i2,i3⟩;simp only at i1 i2 i3⊢;by_cases hb:b=0
  ·right;subst hb;refine⟨a,by simp,?_,i2⟩;rw[<-i1];simp[Int.gcd]
  left;rw[decide_eq_true hb,iP,JV,if_neg hb,cm];have hm:(Int.tmod a b).natAbs=a.natAbs%b.natAbs:=Int.natAbs_tmod a b;have hlt:=Nat.mod_lt a.natAbs (Int.natAbs_pos.2 hb);refine⟨_,Y,⟨?_,i3,by simp only[];omega⟩,by simp only[];omega⟩;simp only[];rw[<-i1,Int.gcd,Int.gcd,hm,Nat.gcd_comm b.natAbs,<-Nat.gcd_rec,Nat.gcd_comm]
 rintro e ⟨he,hle⟩;obtain⟨g,hg⟩:∃g:Int,(Int.gcd n d:Int)=g:=⟨_,Y⟩;have hgp:0<g:=by have:=Int.gcd_pos_of_ne_zero_right n (show d≠0 by omega);omega
 have hgn:g∣n:=hg▸Int.gcd_dvd_left ..;have hgd:g∣d:=hg▸Int.gcd_dvd_right ..;have hK:∀m:Int,m=g->(bif decide (m=d)then(we n m).bind λiX=>(cf iX).bind λx=>some (⟨⟨x.neg,x.w⟩,⟨false,[]⟩⟩:Qr)else(we n m).bind λiG=>(cf iG).bind λx=>(we d m).bind λtO=>(cf tO).bind λy=>some ⟨⟨x.neg,x.w⟩,⟨y.neg,y.w⟩⟩)=some (qn (Rat.divInt n d)):=by
  rintro m rfl;have b1:(n/m).natAbs<=n.natAbs:=Int.natAbs_ediv_le_natAbs _ _;have b2:(d/m).natAbs<=d.natAbs:=Int.natAbs_ediv_le_natAbs _ _;have q1:we n m=some (n/m):=by
   rw[we,if_neg (by omega),GY hgp hgn,cU (by omega) (by omega)]
  have q2:we d m=some (d/m):=by
   rw[we,if_neg (by omega),GY hgp hgd,cU (by omega) (by omega)]
  rw[C7 hd,hg,q1,q2];simp only[cm,lU (x:=n/m) (by omega) (by omega),lU (x:=d/m) (by omega) (by omega),zeta'];by_cases e1:m=d
  ·rw[decide_eq_true e1,iP,if_pos (by rw[e1];exact Int.ediv_self (by omega))]
  rw[decide_eq_false e1,jr,if_neg];intro e2;have:=Int.ediv_mul_cancel hgd;rw[e2]at this;omega
 by_cases hneg:e<0
 ·rw[decide_eq_true hneg,iP,cU (by omega) (by omega)];exact hK _ (by omega)
 rw[decide_eq_false hneg,jr];exact hK _ (by omega)
theorem iL{a b:Int}(ha:Sm a)(hb:Sm b): -4611686018427387904<a*b/\a*b<4611686018427387904:=by
 unfold Sm at ha hb;have h1:(a*b).natAbs=a.natAbs*b.natAbs:=Int.natAbs_mul a b;have h2:a.natAbs*b.natAbs<=2147483647*2147483647:=Nat.mul_le_mul (by omega) (by omega);omega
theorem o6{a b:Int}(ha:0<a)(hb:0<b):0<a*b:=Int.mul_pos ha hb
section ops
variable {L M:Nat}{a b:Qr}{x y:Rat}
theorem kn.add(ha:kn L a x)(hb:kn M b y)(h:L+M<=4000000000):kf a b=some (qn (x+y))/\kn (L+M+1) (qn (x+y)) (x+y):=by
 refine⟨?_,(ha.fq.add hb.fq).rep (by omega)⟩;obtain⟨n1,d1,c1,e1,k1⟩:=lj ha (by omega);obtain⟨n2,d2,c2,e2,k2⟩:=lj hb (by omega);obtain⟨p1,q1,f1,w1,w2,g1,v1,t1,t2⟩:=parts_eq ha (by omega);obtain⟨p2,q2,f2,w3,w4,g2,v2,t3,t4⟩:=parts_eq hb (by omega);have BG:ji a b=some (qn (x+y)):=by
  unfold ji gO;have u1:=jM (t1.mul t4) (by omega);have u2:=jM (t3.mul t2) (by omega);have u3:=jM (t2.mul t4) (by omega);have u4:=jM ((t1.mul t4).add ((t3.mul t2).mono (by omega))) (by omega);simp only[zeta',tB,tC,f1,f2,cm,mul_eq w1 w4,mul_eq w3 w2,add_eq u1 u2,mul_eq w2 w4,fN];rw[reduce_eq u4 u3 (by rw[fN];have:=o6 g1 g2;omega),cm,fN,fN,<-v1,<-v2,Rat.divInt_add_divInt _ _ (by omega) (by omega)]
 unfold kf;simp only[zeta',tB,tC,e1,e2,cm,cK,BG];cases c1
 ·rw[jr,cm,jr]
 cases c2
 ·rw[iP,cm,jr]
 obtain⟨s1,s2,s3,s4⟩:=k1 Y;obtain⟨s5,s6,s7,s8⟩:=k2 Y;have m1:=iL s1 s7;have m2:=iL s5 s3;have m3:=iL s3 s7;have m4:=o6 s2 s6;rw[iP,cm,iP,cU (x:=n1*d2) (by omega) (by omega),cU (x:=n2*d1) (by omega) (by omega),cU (x:=d1*d2) (by omega) (by omega),cU (by omega) (by omega),ql m4 (by omega) (by omega) (by omega),cm,<-s4,<-s8,Rat.divInt_add_divInt _ _ (by omega) (by omega)]
theorem kn.sub(ha:kn L a x)(hb:kn M b y)(h:L+M<=4000000000):nY a b=some (qn (x-y))/\kn (L+M+1) (qn (x-y)) (x-y):=by
 refine⟨?_,(ha.fq.sub hb.fq).rep (by omega)⟩;obtain⟨n1,d1,c1,e1,k1⟩:=lj ha (by omega);obtain⟨n2,d2,c2,e2,k2⟩:=lj hb (by omega);obtain⟨p1,q1,f1,w1,w2,g1,v1,t1,t2⟩:=parts_eq ha (by omega);obtain⟨p2,q2,f2,w3,w4,g2,v2,t3,t4⟩:=parts_eq hb (by omega);have BG:jk a b=some (qn (x-y)):=by
  unfold jk gP;have u1:=jM (t1.mul t4) (by omega);have u2:=jM (t3.mul t2) (by omega);have u3:=jM (t2.mul t4) (by omega);have u4:=jM ((t1.mul t4).sub ((t3.mul t2).mono (by omega))) (by omega);simp only[zeta',tB,tC,f1,f2,cm,mul_eq w1 w4,mul_eq w3 w2,sub_eq u1 u2,mul_eq w2 w4,fN];rw[reduce_eq u4 u3 (by rw[fN];have:=o6 g1 g2;omega),cm,fN,fN,<-v1,<-v2,Rat.divInt_sub_divInt _ _ (by omega) (by omega)]
 unfold nY;simp only[zeta',tB,tC,e1,e2,cm,cK,BG];cases c1
 ·rw[jr,cm,jr]
 cases c2
 ·rw[iP,cm,jr]
 obtain⟨s1,s2,s3,s4⟩:=k1 Y;obtain⟨s5,s6,s7,s8⟩:=k2 Y;have m1:=iL s1 s7;have m2:=iL s5 s3;have m3:=iL s3 s7;have m4:=o6 s2 s6;rw[iP,cm,iP,cU (x:=n1*d2) (by omega) (by omega),cU (x:=n2*d1) (by omega) (by omega),cU (x:=d1*d2) (by omega) (by omega),cU (by omega) (by omega),ql m4 (by omega) (by omega) (by omega),cm,<-s4,<-s8,Rat.divInt_sub_divInt _ _ (by omega) (by omega)]
theorem kn.mul(ha:kn L a x)(hb:kn M b y)(h:L+M<=4000000000):jm a b=some (qn (x*y))/\kn (L+M) (qn (x*y)) (x*y):=by
 have l1:=ha.l1;refine⟨?_,(ha.fq.mul hb.fq).rep (by omega)⟩;obtain⟨n1,d1,c1,e1,k1⟩:=lj ha (by omega);obtain⟨n2,d2,c2,e2,k2⟩:=lj hb (by omega);obtain⟨p1,q1,f1,w1,w2,g1,v1,t1,t2⟩:=parts_eq ha (by omega);obtain⟨p2,q2,f2,w3,w4,g2,v2,t3,t4⟩:=parts_eq hb (by omega);have BG:jl a b=some (qn (x*y)):=by
  unfold jl gQ;have u1:=jM (t1.mul t3) (by omega);have u3:=jM (t2.mul t4) (by omega);simp only[zeta',tB,tC,f1,f2,cm,mul_eq w1 w3,mul_eq w2 w4];rw[reduce_eq u1 u3 (by rw[fN];have:=o6 g1 g2;omega),cm,fN,fN,<-v1,<-v2,Rat.divInt_mul_divInt]
 unfold jm;simp only[zeta',tB,tC,e1,e2,cm,cK,BG];cases c1
 ·rw[jr,cm,jr]
 cases c2
 ·rw[iP,cm,jr]
 obtain⟨s1,s2,s3,s4⟩:=k1 Y;obtain⟨s5,s6,s7,s8⟩:=k2 Y;have m1:=iL s1 s5;have m3:=iL s3 s7;have m4:=o6 s2 s6;rw[iP,cm,iP,cU (by omega) (by omega),cU (x:=d1*d2) (by omega) (by omega),ql m4 (by omega) (by omega) (by omega),cm,<-s4,<-s8,Rat.divInt_mul_divInt]
theorem kn.sign(ha:kn L a x)(h:L<=10000000000):eA a=some (lf x 0):=by
 unfold eA;have wn:=ha.wn h;have wd:=ha.wd h;have hv:=ha.v;simp only[zeta',cm,sign_eq wn,sign_eq wd];unfold qv qd at hv;rcases Int.lt_trichotomy (zi a.den) 0 with h1|h1|h1
 ·rw[Int.sign_eq_neg_one_of_neg h1];rw[if_neg (by omega),<-Rat.neg_divInt_neg]at hv;rw[<-hv,<-tw (by omega),Int.sign_neg];show some (IntKind.i64.wrap (0-(zi a.num).sign))=_;have:(zi a.num).sign=-1\/(zi a.num).sign=0\/(zi a.num).sign=1:=by
   rcases Int.lt_trichotomy (zi a.num) 0 with e|e|e
   ·left;exact Int.sign_eq_neg_one_of_neg e
   ·right;left;rw[e];rfl
   right;right;exact Int.sign_eq_one_of_pos e
  rw[cU (by omega) (by omega),Int.zero_sub]
 ·rw[if_pos h1]at hv;rw[<-hv,<-tw (by omega),h1];rfl
 rw[if_neg (by omega)]at hv;rw[Int.sign_eq_one_of_pos h1,<-hv,<-tw h1];rfl
theorem jD{x:Rat}:lf x 0=0↔x=0:=by
 unfold lf;by_cases h:x<0
 ·rw[if_pos h];refine⟨λe=>absurd e (by decide),λe=>?_⟩;rw[e]at h;exact absurd h Rat.lt_irrefl
 rw[if_neg h];by_cases h2:x=0
 ·rw[if_pos h2];simp[h2]
 rw[if_neg h2];simp[h2]
theorem kn.div(ha:kn L a x)(hb:kn M b y)(h:L+M<=4000000000)(h0:y≠0):nZ a b=some (qn (x/y),0)/\kn (L+M) (qn (x/y)) (x/y):=by
 have l1:=ha.l1;refine⟨?_,(ha.fq.div hb.fq h0).rep (by omega)⟩;obtain⟨n1,d1,c1,e1,k1⟩:=lj ha (by omega);obtain⟨n2,d2,c2,e2,k2⟩:=lj hb (by omega);obtain⟨p1,q1,f1,w1,w2,g1,v1,t1,t2⟩:=parts_eq ha (by omega);obtain⟨p2,q2,f2,w3,w4,g2,v2,t3,t4⟩:=parts_eq hb (by omega);have hdiv:∀a b c d:Int,Rat.divInt a b/Rat.divInt c d=Rat.divInt (a*d) (b*c):=λa b c d=>by rw[Rat.div_def,Rat.inv_divInt,Rat.divInt_mul_divInt]
 have hnz:∀a b:Int,Rat.divInt a b=y->a≠0:=λa b e e'=>h0 (by rw[<-e,e',Rat.zero_divInt]);have BG:hG a b=some (qn (x/y)):=by
  unfold hG gR;have u1:=jM (t1.mul t4) (by omega);have u3:=jM (t2.mul t3) (by omega);simp only[zeta',tB,tC,f1,f2,cm,mul_eq w1 w4,mul_eq w2 w3];rw[reduce_eq u1 u3 (by rw[fN];exact Int.mul_ne_zero (by omega) (hnz _ _ v2)),cm,fN,fN,<-v1,<-v2,hdiv]
 unfold nZ;simp only[zeta',tB,tC,hb.sign (by omega),e1,e2,cm,cK,BG];rw[decide_eq_false (λe=>h0 (jD.1 e)),jr];cases c1
 ·rw[jr,cm,jr]
 cases c2
 ·rw[iP,cm,jr]
 obtain⟨s1,s2,s3,s4⟩:=k1 Y;obtain⟨s5,s6,s7,s8⟩:=k2 Y;have hn2:=hnz _ _ s8;have m1:=iL s1 s7;have m3:=iL s3 s5;rw[iP,cm,iP];unfold Sm at s1 s3 s5 s7;by_cases hneg:n2<0
 ·have m4:=o6 s2 (show 0< -n2 by omega);have m5:(-n1)*d2=-(n1*d2):=Int.neg_mul _ _;have m6:d1*(-n2)=-(d1*n2):=Int.mul_neg _ _;rw[decide_eq_true hneg,iP,cU (x:=0-n1) (by omega) (by omega),cU (x:=0-n2) (by omega) (by omega),Int.zero_sub,Int.zero_sub,cU (by omega) (by omega),cU (by omega) (by omega),ql m4 (by omega) (by omega) (by omega),cm,m5,m6,Rat.neg_divInt_neg,<-s4,<-s8,hdiv]
 have m4:=o6 s2 (show 0<n2 by omega);rw[decide_eq_false hneg,jr,cU (by omega) (by omega),cU (by omega) (by omega),ql m4 (by omega) (by omega) (by omega),cm,<-s4,<-s8,hdiv]
theorem kn.canon(ha:kn L a x)(h:L<=10000000000):cQ a=some (qn x)/\kn L (qn x) x:=by
 refine⟨?_,ha.fq.rep ha.l1⟩;obtain⟨n1,d1,c1,e1,k1⟩:=lj ha (by omega);obtain⟨p1,q1,f1,w1,w2,g1,v1,t1,t2⟩:=parts_eq ha (by omega);unfold cQ;simp only[zeta',tB,tC,e1,cm,f1];cases c1
 ·rw[jr,reduce_eq w1 w2 (by omega),cm,v1]
 obtain⟨s1,s2,s3,s4⟩:=k1 Y;unfold Sm at s1 s3;rw[iP,ql s2 (by omega) (by omega) (by omega),cm,s4]
end ops
end
section
open Go.Fw
theorem C8{p q u v:Int}(hq:0<q)(hv:0<v)(h:p.sign≠u.sign\/p.sign=0):oT (IntKind.i64.wrap (p.sign-u.sign))=some (qi (p*v) (u*q)):=by
 have pv:0<p->0<p*v:=λh=>Int.mul_pos h hv;have pv':p<0->p*v<0:=λh=>Int.mul_neg_of_neg_of_pos h hv;have uq:0<u->0<u*q:=λh=>Int.mul_pos h hq;have uq':u<0->u*q<0:=λh=>Int.mul_neg_of_neg_of_pos h hq;rcases Int.lt_trichotomy p 0 with e1|e1|e1<;>rcases Int.lt_trichotomy u 0 with e2|e2|e2
 ·rw[Int.sign_eq_neg_one_of_neg e1,Int.sign_eq_neg_one_of_neg e2]at h;simp at h
 ·have:=pv' e1;rw[Int.sign_eq_neg_one_of_neg e1,e2,Int.zero_mul,l9 this];rfl
 ·have:=pv' e1;have:=uq e2;rw[Int.sign_eq_neg_one_of_neg e1,Int.sign_eq_one_of_pos e2,l9 (by omega)];rfl
 ·have:=uq' e2;rw[Int.sign_eq_neg_one_of_neg e2,e1,Int.zero_mul,mc this];rfl
 ·rw[e1,e2,Int.zero_mul,Int.zero_mul];rfl
 ·have:=uq e2;rw[Int.sign_eq_one_of_pos e2,e1,Int.zero_mul,l9 this];rfl
 ·have:=pv e1;have:=uq' e2;rw[Int.sign_eq_one_of_pos e1,Int.sign_eq_neg_one_of_neg e2,mc (by omega)];rfl
 ·have:=pv e1;rw[Int.sign_eq_one_of_pos e1,e2,Int.zero_mul,mc this];rfl
 rw[Int.sign_eq_one_of_pos e1,Int.sign_eq_one_of_pos e2]at h;simp at h
theorem NZ{x y:Rat}:lf x y=0↔x=y:=by
 unfold lf;by_cases h:x<y
 ·rw[if_pos h];refine⟨λe=>absurd e (by decide),λe=>?_⟩;rw[e]at h;exact absurd h Rat.lt_irrefl
 rw[if_neg h];by_cases h2:x=y
 ·rw[if_pos h2];simp[h2]
 rw[if_neg h2];simp[h2]
theorem xg{x y:Rat}:lf x y<0↔x<y:=by
 unfold lf;by_cases h:x<y
 ·rw[if_pos h];simp[h]
 rw[if_neg h];by_cases h2:x=y
 ·rw[if_pos h2];simp[h2,Rat.lt_irrefl]
 rw[if_neg h2];simp[h]
theorem N0{x y:Rat}:0<lf x y↔y<x:=by
 unfold lf;by_cases h:x<y
 ·rw[if_pos h];have:¬y<x:=by grind
  simp[this]
 rw[if_neg h];by_cases h2:x=y
 ·rw[if_pos h2];simp[h2,Rat.lt_irrefl]
 rw[if_neg h2];have:y<x:=by grind
 simp[this]
theorem VN(i:Int):qn (i:Rat)=⟨zn i,⟨false,[]⟩⟩:=by
 unfold qn;rw[Rat.den_intCast,if_pos Y,Rat.num_intCast]
section ops
variable {L M:Nat}{a b:Qr}{x y:Rat}
theorem kn.neg(ha:kn L a x)(h:L<=10000000000):lO a=some (qn (-x))/\kn L (qn (-x)) (-x):=by
 refine⟨?_,ha.fq.neg.rep ha.l1⟩;unfold lO;have r:=(ha.canon h).2;simp only[zeta',tB,tC,(ha.canon h).1,cm,neg_eq (r.wn h)];show some (⟨zn (-zi (zn x.num)),_⟩:Qr)=some (qn (-x));rw[fN];rfl
theorem kn.cmp(ha:kn L a x)(hb:kn M b y)(h:L+M<=4000000000):lP a b=some (lf x y):=by
 obtain⟨p1,q1,f1,w1,w2,g1,v1,t1,t2⟩:=parts_eq ha (by omega);obtain⟨p2,q2,f2,w3,w4,g2,v2,t3,t4⟩:=parts_eq hb (by omega);unfold lP;have u1:=jM (t1.mul t4) (by omega);have u2:=jM (t3.mul t2) (by omega);simp only[zeta',tB,tC,f1,f2,cm,cK,sign_eq w1,sign_eq w3,mul_eq w1 w4,mul_eq w3 w2,VJ u1 u2,fN];rw[<-v1,<-v2,GX g1 g2];by_cases e1:(zi p1).sign=(zi p2).sign
 ·rw[show decide ((zi p1).sign≠(zi p2).sign)=false by simp[e1],jr,cm];by_cases e2:(zi p1).sign=0
  ·rw[decide_eq_true e2,iP,C8 g1 g2 (.inr e2),cm]
  rw[decide_eq_false e2,jr]
 rw[show decide ((zi p1).sign≠(zi p2).sign)=true by simp[e1],iP,cm,iP,C8 g1 g2 (.inl e1),cm]
theorem lp{n:Int}(hn:fy n):cD n=some (qn (n:Rat))/\kn 2 (qn (n:Rat)) (n:Rat):=by
 refine⟨?_,(FQ.int (KB hn) (by decide)).rep (by decide)⟩;unfold cD;simp only[zeta',cm,lU hn.1 hn.2];rw[VN]
end ops
end
section
open Go.Fw
def vq(n:Nat)(h:Nat->Rat):List Qr:=(List.range n).map λi=>qn (h i)
structure dI (L:Nat) (v:List Qr) (f:Nat->Rat):Prop where
 e:∀i (h:i<v.length),kn L v[i] (f i)
 z:∀i,v.length<=i->f i=0
 l1:1<=L
theorem ct(n:Nat)(h:Nat->Rat):(vq n h).length=n:=by simp[vq]
theorem lW{n i:Nat}{h:Nat->Rat}(hi:i<n):(vq n h)[i]? =some (qn (h i)):=by simp[vq,hi]
theorem Qs{n i:Nat}{h:Nat->Rat}(hi:i<(vq n h).length):(vq n h)[i]=qn (h i):=by simp[vq]
theorem z4(n:Nat)(h:Nat->Rat):vq (n+1) h=vq n h++[qn (h n)]:=by simp[vq,List.range_succ]
theorem ic{n:Nat}{h k:Nat->Rat}(e:∀i,i<n->h i=k i):vq n h=vq n k:=by
 unfold vq;apply List.map_congr_left;intro i hi;rw[e i (List.mem_range.1 hi)]
theorem m8{L n:Nat}{h:Nat->Rat}(hf:∀i,i<n->FQ L (h i))(hz:∀i,n<=i->h i=0)(h1:1<=L):dI L (vq n h) h:=by
 refine⟨λi hi=>?_,λi hi=>hz i (by rwa[ct]at hi),h1⟩;rw[Qs hi];exact(hf i (by rwa[ct]at hi)).rep h1
def qz:Qr:=⟨⟨false,[]⟩,⟨false,[]⟩⟩
theorem Qt:qn 0=qz:=rfl
theorem GZ{L:Nat}(h:1<=L):kn L qz 0:=⟨by simp[qz],by simp[qz],by simp[qz],by simp[qz],h,by decide⟩
theorem uf{L:Nat}(h:1<=L):FQ L 0:=(GZ h).fq
def Wx(v:List Qr)(i:Nat):Qr:=v.getD i qz
theorem dI.at{L:Nat}{v:List Qr}{f:Nat->Rat}(h:dI L v f)(i:Nat):kn L (Wx v i) (f i):=by
 unfold Wx;by_cases hi:i<v.length
 ·rw[List.getD_eq_getElem?_getD,List.getElem?_eq_getElem hi];exact h.e i hi
 rw[List.getD_eq_getElem?_getD,List.getElem?_eq_none (by omega),h.z i (by omega)];exact GZ h.l1
theorem dI.fq{L:Nat}{v:List Qr}{f:Nat->Rat}(h:dI L v f)(i:Nat):FQ L (f i):=(h.at i).fq
theorem dI.mono{L M:Nat}{v:List Qr}{f:Nat->Rat}(h:dI L v f)(hl:L<=M):dI M v f:=⟨λi hi=>(h.e i hi).mono hl,h.z,Nat.le_trans h.l1 hl⟩
theorem dI.nil{L:Nat}(h:1<=L):dI L [] (λ_=>0):=⟨λi hi=>by simp at hi,λ_ _=>Y,h⟩
theorem dI.get{L:Nat}{v:List Qr}{f:Nat->Rat}(h:dI L v f){i:Nat}(hi:i<v.length):∃q,v[i]? =some q/\kn L q (f i):=⟨v[i],by simp,h.e i hi⟩
theorem dI.congr{L:Nat}{v:List Qr}{f g:Nat->Rat}(h:dI L v f)(e:∀i,f i=g i):dI L v g:=by
 have:f=g:=funext e;rw[<-this];exact h
def CC(v:List Qr)(i:Nat):Rat:=qv (Wx v i)
theorem Jt{L:Nat}{v:List Qr}(h:∀q∈v,kn L q (qv q))(h1:1<=L):dI L v (CC v):=by
 refine⟨λi hi=>?_,λi hi=>?_,h1⟩
 ·have e:Wx v i=v[i]:=by unfold Wx;rw[List.getD_eq_getElem?_getD,List.getElem?_eq_getElem hi];rfl
  unfold CC;rw[e];exact h _ (List.getElem_mem hi)
 unfold CC Wx;rw[List.getD_eq_getElem?_getD,List.getElem?_eq_none hi];decide
def bX(h:Nat->Rat):Nat->Rat
 |0=>0
 |n+1=>bX h n+h n
theorem cA{h k:Nat->Rat}:∀{n:Nat},(∀i,i<n->h i=k i)->bX h n=bX k n
 |0,_=>rfl
 |n+1,e=>by rw[bX,bX,cA (λi hi=>e i (by omega)),e n (by omega)]
theorem G0(h k:Nat->Rat):∀n,bX (λi=>h i+k i) n=bX h n+bX k n
 |0=>by simp only[bX];grind
 |n+1=>by rw[bX,bX,bX,G0 h k n];grind
theorem BH(h k:Nat->Rat):∀n,bX (λi=>h i-k i) n=bX h n-bX k n
 |0=>by simp only[bX];grind
 |n+1=>by rw[bX,bX,bX,BH h k n];grind
theorem oB(c:Rat)(h:Nat->Rat):∀n,bX (λi=>c*h i) n=c*bX h n
 |0=>by simp[bX]
 |n+1=>by rw[bX,bX,oB c h n];grind
theorem kx:∀n,bX (λ_=>0) n=0
 |0=>rfl
 |n+1=>by rw[bX,kx n];grind
theorem N1{h:Nat->Rat}{n m:Nat}(hnm:n<=m)(hz:∀i,n<=i->i<m->h i=0):bX h m=bX h n:=by
 induction m with
 |zero=>rw[show n=0 by omega]
 |succ m ih=>
  rcases Nat.lt_or_ge m n with q|q
  ·rw[show n=m+1 by omega]
  rw[bX,ih q (λi h1 h2=>hz i h1 (by omega)),hz m q (by omega)];grind
theorem Ju{L:Nat}{h:Nat->Rat}:∀{n:Nat},(∀i,i<n->FQ L (h i))->FQ (n*(L+1)+1) (bX h n)
 |0,_=>uf (by omega)
 |n+1,e=>by
  rw[bX];exact((Ju (λi hi=>e i (by omega))).add (e n (by omega))).mono (by rw[Nat.add_mul];omega)
theorem mR{h:Nat->Rat}{n k:Nat}(hk:k<n)(hz:∀i,i<n->i≠k->h i=0):bX h n=h k:=by
 induction n with
 |zero=>omega
 |succ n ih=>
  rw[bX];rcases Nat.lt_or_ge k n with q|q
  ·rw[ih q (λi h1 h2=>hz i (by omega) h2),hz n (by omega) (by omega)];grind
  obtain rfl:k=n:=by omega
  rw[cA (k:=λ_=>0) (λi hi=>hz i (by omega) (by omega)),kx];grind
theorem yT{h:Nat->Rat}:∀{n:Nat},(∀i,i<n->0<=h i)->0<=bX h n
 |0,_=>Rat.le_refl
 |n+1,e=>by
  rw[bX];have h1:=yT (λi (hi:i<n)=>e i (by omega));have h2:=e n (by omega);grind
end
section
open Go.Fw
theorem Jv{α β:Type}(a:List α)(b:List β):max (a.length:Int) (b.length:Int)=((max a.length b.length:Nat):Int):=by omega
theorem Jw{α β:Type}(a:List α)(b:List β):min (a.length:Int) (b.length:Int)=((min a.length b.length:Nat):Int):=by omega
theorem dI.gd{L:Nat}{v:List Qr}{f:Nat->Rat}(h:dI L v f)(k:Nat):kn L (v.getD k (⟨⟨false,[]⟩,⟨false,[]⟩⟩:Qr)) (f k):=h.at k
theorem Ey{n k:Nat}{h:Nat->Rat}(hk:k<n):(vq k h++List.replicate (n-k) qz).set k (qn (h k))=vq (k+1) h++List.replicate (n-(k+1)) qz:=by
 rw[show n-k=(n-(k+1))+1 by omega,List.replicate_succ,List.set_append_right _ _ (by rw[ct];exact Nat.le_refl _),ct,Nat.sub_self,z4,List.append_assoc];rfl
theorem VO{n c:Nat}{h:Nat->Rat}(hc:c<=n)(hz:∀i,c<=i->i<n->h i=0):vq c h++List.replicate (n-c) qz=vq n h:=by
 induction n with
 |zero=>rw[show c=0 by omega];rfl
 |succ n ih=>
  rcases Nat.lt_or_ge n c with q|q
  ·rw[show c=n+1 by omega,Nat.sub_self];simp
  rw[show n+1-c=(n-c)+1 by omega,List.replicate_succ',<-List.append_assoc,ih q (λi h1 h2=>hz i h1 (by omega)),z4,hz n q (by omega),Qt]
theorem rz{n k:Nat}{h:Nat->Rat}(hk:k<=n):(vq k h++List.replicate (n-k) qz).length=n:=by rw[List.length_append,ct,List.length_replicate];omega
section ops
variable {K L M:Nat}{c:Qr}{a b:List Qr}{k:Rat}{f g:Nat->Rat}
theorem af4(ha:dI L a f)(hb:dI M b g)(h:L+M<=4000000000)(la:a.length<=1000000)(lb:b.length<=1000000):pP a b=some (vq (max a.length b.length) λi=>f i-g i)/\dI (L+M+1) (vq (max a.length b.length) λi=>f i-g i) (λi=>f i-g i):=by
 refine⟨?_,m8 (λi _=>(ha.fq i).sub (hb.fq i)) (λi hi=>?_) (by omega)⟩
 ·unfold pP lZ;refine aA (a:=vq (max a.length b.length) (λi=>f i-g i)) ?_ Y;refine aA Y<|aA Y<|aA (congrArg some (Jv a b))<|aA (BA (by omega) (by omega)) ?_;refine ot (λk=>vq k (λi=>f i-g i)) Y (λk hk=>?_) Y;have e3:=((ha.gd k).sub (hb.gd k) h).1;generalize a.getD k (⟨⟨false,[]⟩,⟨false,[]⟩⟩:Qr)=q1 at e3⊢;generalize b.getD k (⟨⟨false,[]⟩,⟨false,[]⟩⟩:Qr)=q2 at e3⊢;obtain⟨⟨_,_⟩,⟨_,_⟩⟩:=q1;obtain⟨⟨_,_⟩,⟨_,_⟩⟩:=q2;obtain⟨q3,h3⟩:∃q,qn (f k-g k)=q:=⟨_,Y⟩;rw[z4,h3];rw[h3]at e3;obtain⟨⟨_,_⟩,⟨_,_⟩⟩:=q3;refine aA Y<|aA Y<|aA e3<|aA (Cz (by omega) (by rw[ct];omega)) Y
 rw[ha.z i (by omega),hb.z i (by omega)];grind
theorem S0(hc:kn K c k)(ha:dI L a f)(hb:dI M b g)(h:K+L+M<=4000000000)(la:a.length<=1000000)(lb:b.length<=1000000):fz c a b=some (vq (max a.length b.length) λi=>k*f i+g i)/\dI (K+L+M+1) (vq (max a.length b.length) λi=>k*f i+g i) (λi=>k*f i+g i):=by
 refine⟨?_,m8 (λi _=>(hc.fq.mul (ha.fq i)).add (hb.fq i)) (λi hi=>?_) (by omega)⟩
 ·unfold fz jv;obtain⟨⟨_,_⟩,⟨_,_⟩⟩:=c;refine aA (a:=vq (max a.length b.length) (λi=>k*f i+g i)) ?_ Y;refine aA Y<|aA Y<|aA (congrArg some (Jv a b))<|aA (BA (by omega) (by omega)) ?_;refine ot (λj=>vq j (λi=>k*f i+g i)) Y (λj hj=>?_) Y;have e1:=hc.mul (ha.gd j) (by omega);have e3:=(e1.2.add (hb.gd j) (by omega)).1;replace e1:=e1.1;generalize a.getD j (⟨⟨false,[]⟩,⟨false,[]⟩⟩:Qr)=q1 at e1⊢;generalize b.getD j (⟨⟨false,[]⟩,⟨false,[]⟩⟩:Qr)=q2 at e3⊢;obtain⟨⟨_,_⟩,⟨_,_⟩⟩:=q1;obtain⟨⟨_,_⟩,⟨_,_⟩⟩:=q2;generalize qn (k*f j)=q4 at e1 e3;obtain⟨⟨_,_⟩,⟨_,_⟩⟩:=q4;obtain⟨q3,h3⟩:∃q,qn (k*f j+g j)=q:=⟨_,Y⟩;rw[z4,h3];rw[h3]at e3;obtain⟨⟨_,_⟩,⟨_,_⟩⟩:=q3;refine aA Y<|aA Y<|aA (aA e1<|aA e3 Y)<|aA (Cz (by omega) (by rw[ct];omega)) Y
 rw[ha.z i (by omega),hb.z i (by omega)];grind
theorem N2(hc:kn K c k)(ha:dI L a f)(h:K+L<=4000000000)(la:a.length<=1000000):jo c a=some (vq a.length λi=>k*f i)/\dI (K+L) (vq a.length λi=>k*f i) (λi=>k*f i):=by
 have Th:=ha.l1;refine⟨?_,m8 (λi _=>hc.fq.mul (ha.fq i)) (λi hi=>?_) (by omega)⟩
 ·unfold jo;obtain⟨⟨_,_⟩,⟨_,_⟩⟩:=c;refine aA Y<|aA (q9 (by omega) (by omega))<|aA Y ?_;refine bN (λj=>((j:Int),vq j (λi=>k*f i)++List.replicate (a.length-j) qz)) a.length (vq a.length λi=>k*f i) Y (λj hj=>?_) ?_ Y
  ·obtain⟨q,hq,rq⟩:=ha.get hj;have e3:=(hc.mul rq h).1;obtain⟨q3,h3⟩:∃q,qn (k*f j)=q:=⟨_,Y⟩;have h4:=Ey (h:=λi=>k*f i) hj;rw[h3]at e3 h4;obtain⟨⟨_,_⟩,⟨_,_⟩⟩:=q;obtain⟨⟨_,_⟩,⟨_,_⟩⟩:=q3;refine aA Y<|bP (decide_eq_true (by omega))<|aA (bL hq)<|aA e3<|aA (cG (by rw[rz (by omega)];exact hj))<|aA (fG (by rw[rz (by omega)];exact hj))<|aA Y ?_;rw[bZ (by omega),h4]
  refine aA Y<|bJ (decide_eq_false (by omega)) ?_;simp
 rw[ha.z i hi];grind
end ops
end
section
open Go.Fw
def iA(f g:Nat->Rat):Nat->Int
 |0=>0
 |n+1=>if iA f g n≠0 then iA f g n else lf (f n) (g n)
theorem KD{f g:Nat->Rat}{i n:Nat}(h0:iA f g i=0)(hi:i<n)(hc:lf (f i) (g i)≠0):iA f g n=lf (f i) (g i):=by
 induction n with
 |zero=>omega
 |succ n ih=>
  rw[iA];rcases Nat.lt_or_ge i n with q|q
  ·rw[ih q,if_pos hc]
  obtain rfl:i=n:=by omega
  rw[h0];simp
theorem oC{f g:Nat->Rat}:∀{n:Nat},iA f g n=0↔∀i,i<n->f i=g i
 |0=>by simp[iA]
 |n+1=>by
  rw[iA];by_cases h:iA f g n=0
  ·rw[if_neg (by simpa using h),NZ];have:=oC.1 h;refine⟨λe i hi=>?_,λe=>e n (by omega)⟩;rcases Nat.lt_or_ge i n with q|q
   ·exact this i q
   obtain rfl:i=n:=by omega
   exact e
  rw[if_pos h];refine⟨λe=>absurd e h,λe=>absurd (oC.2 (λi hi=>e i (by omega))) h⟩
section ops
variable {K L M:Nat}{c:Qr}{a b:List Qr}{k:Rat}{f g:Nat->Rat}
theorem af5{x y z:Rat}{p q r:Qr}(hp:kn K p x)(hq:kn L q y)(hr:kn M r z)(hz:r=qn z)(h:K+L+M<=4000000000):mG p q r=some (qn (z+x*y)):=by
 have e1:=hp.mul hq (by omega);have e2:=(hr.add e1.2 (by omega)).1;have s1:=hp.sign (by omega);have s2:=hq.sign (by omega);replace e1:=e1.1;obtain⟨⟨_,_⟩,⟨_,_⟩⟩:=p;obtain⟨⟨_,_⟩,⟨_,_⟩⟩:=q;obtain⟨⟨_,_⟩,⟨_,_⟩⟩:=r;generalize qn (x*y)=w at e1 e2;obtain⟨⟨_,_⟩,⟨_,_⟩⟩:=w;unfold mG;refine aA s1<|aA Y ?_;by_cases h1:x=0
 ·refine aA (bJ (decide_eq_false (by rw[h1,yp];simp)) Y) ?_;rw[show z+x*y=z by rw[h1];grind,<-hz];rfl
 by_cases h2:y=0
 ·refine aA (bP (decide_eq_true (λe=>h1 (jD.1 e))) (aA s2 (aA Y Y))) ?_;refine bJ (decide_eq_false (by rw[h2,yp];simp)) ?_;rw[show z+x*y=z by rw[h2];grind,<-hz]
 refine aA (bP (decide_eq_true (λe=>h1 (jD.1 e))) (aA s2 (aA Y Y))) ?_;refine bP (decide_eq_true (λe=>h2 (jD.1 e))) ?_;obtain⟨w3,h3⟩:∃w,qn (z+x*y)=w:=⟨_,Y⟩;rw[h3]at e2⊢;obtain⟨⟨_,_⟩,⟨_,_⟩⟩:=w3;exact aA e1<|aA e2 Y
theorem Jx{n i:Nat}(hi:i<n):(a.take n).getD i (⟨⟨false,[]⟩,⟨false,[]⟩⟩:Qr)=a.getD i (⟨⟨false,[]⟩,⟨false,[]⟩⟩:Qr):=by
 simp[List.getD,List.getElem?_take,hi]
theorem yu(q:Qr):(⟨⟨(q.num.neg,q.num.w,q.den.neg,q.den.w).1,(q.num.neg,q.num.w,q.den.neg,q.den.w).2.1⟩,⟨(q.num.neg,q.num.w,q.den.neg,q.den.w).2.2.1,(q.num.neg,q.num.w,q.den.neg,q.den.w).2.2.2⟩⟩:Qr)=q:=by cases q;rfl
theorem Zm(ha:dI L a f)(hb:dI M b g)(h:(min a.length b.length+2)*(L+M+1)<=4000000000):jw a b=some (qn (bX (λi=>f i*g i) (min a.length b.length)))/\kn (min a.length b.length*(L+M+1)+1) (qn (bX (λi=>f i*g i) (min a.length b.length))) (bX (λi=>f i*g i) (min a.length b.length)):=by
 have hs:∀n,FQ (n*(L+M+1)+1) (bX (λi=>f i*g i) n):=λn=>Ju (λi _=>(ha.fq i).mul (hb.fq i));refine⟨?_,(hs _).rep (by omega)⟩;unfold jw;have hm:∀n:Nat,n<=min a.length b.length->n*(L+M+1)<=min a.length b.length*(L+M+1):=λn hn=>Nat.mul_le_mul_right _ hn;rw[Nat.add_mul]at h;refine aA Y<|aA Y<|aA (congrArg some (Jw a b))<|aA (qb (by omega))<|aA (qb (by omega)) ?_;rw[show max (a.take (min a.length b.length)).length (b.take (min a.length b.length)).length=min a.length b.length by simp only[List.length_take];omega];refine ot (λj=>((qn (bX (λi=>f i*g i) j)).num.neg,(qn (bX (λi=>f i*g i) j)).num.w,(qn (bX (λi=>f i*g i) j)).den.neg,(qn (bX (λi=>f i*g i) j)).den.w)) Y (λj hj=>?_) Y;have hmj:=hm j (by omega);have e1:=af5 (ha.gd j) (hb.gd j) ((hs j).rep (by omega)) Y (by omega);simp only[bX];generalize hq0:qn (bX (λi=>f i*g i) j)=q0 at e1⊢;generalize hq3:qn (bX (λi=>f i*g i) j+f j*g j)=q3 at e1⊢;rw[<-Jx (a:=a) hj,<-Jx (a:=b) hj]at e1;generalize (a.take (min a.length b.length)).getD j (⟨⟨false,[]⟩,⟨false,[]⟩⟩:Qr)=q1 at e1⊢;generalize (b.take (min a.length b.length)).getD j (⟨⟨false,[]⟩,⟨false,[]⟩⟩:Qr)=q2 at e1⊢;obtain⟨⟨_,_⟩,⟨_,_⟩⟩:=q0;obtain⟨⟨_,_⟩,⟨_,_⟩⟩:=q1;obtain⟨⟨_,_⟩,⟨_,_⟩⟩:=q2
 obtain⟨⟨_,_⟩,⟨_,_⟩⟩:=q3;exact aA Y<|aA Y<|aA e1 Y
theorem Qu(ha:dI L a f)(hb:dI M b g)(h:L+M<=4000000000):fK a b=some (iA f g (max a.length b.length)):=by
 unfold fK;generalize max a.length b.length=n;refine aA (a:=if iA f g n≠0 then .inr (iA f g n)else .inl ()) ?_ ?_
 ·induction n with
  |zero=>rfl
  |succ n ih=>
   rw[lN];refine aA ih ?_;by_cases h0:iA f g n=0
   ·have hl:iA f g (n+1)=lf (f n) (g n):=by rw[iA,if_neg (by simpa using h0)]
    rw[hl,if_neg (show ¬iA f g n≠0 by simpa using h0)];have e1:=(ha.gd n).cmp (hb.gd n) h;generalize a.getD n (⟨⟨false,[]⟩,⟨false,[]⟩⟩:Qr)=q1 at e1⊢;generalize b.getD n (⟨⟨false,[]⟩,⟨false,[]⟩⟩:Qr)=q2 at e1⊢;obtain⟨⟨_,_⟩,⟨_,_⟩⟩:=q1;obtain⟨⟨_,_⟩,⟨_,_⟩⟩:=q2;refine aA Y<|aA Y<|aA e1<|aA Y ?_;by_cases h1:lf (f n) (g n)=0
    ·rw[if_neg (by simpa using h1)];exact bJ (decide_eq_false (by simpa using h1)) Y
    rw[if_pos h1];exact bP (decide_eq_true h1) Y
   have hl:iA f g (n+1)=iA f g n:=by rw[iA,if_pos h0]
   rw[hl,if_pos h0]
 by_cases h0:iA f g n=0
 ·rw[if_neg (by simpa using h0),h0]
 rw[if_pos h0]
theorem Zn(ha:dI L a f)(h:L+1<=4000000000):n7 a=some (iA f (λ_=>0) a.length):=by
 unfold n7;refine aA (Qu ha (dI.nil (L:=1) (by omega)) h) ?_;simp
theorem veq(ha:dI L a f)(hb:dI M b g)(h:L+M<=4000000000):dy a b=some (decide (∀i,i<max a.length b.length->f i=g i)):=by
 unfold dy;refine aA (Qu ha hb h)<|aA Y ?_;congr 1;rw[decide_eq_decide];exact oC
theorem af7(ha:dI L a f)(hb:dI M b g)(h:L+M<=4000000000)(e:∀i,f i=g i):dy a b=some true:=by
 rw[veq ha hb h,decide_eq_true (λi _=>e i)]
end ops
end
section
open Go.Fw
theorem tm{a:Nat}:Int.tmod (a:Int) 65536=((a%65536:Nat):Int):=by
 rw[Int.tmod_eq_emod_of_nonneg (by omega)];omega
end
section
open Go.Fw
theorem bU{J R:Type}{f:J->Option R}{g:(J->Option R)->Option R}{r:Option R}(h:g f=r):cK f g=r:=h
section ops
variable {K L M:Nat}{c:Qr}{a b:List Qr}{k:Rat}{f g:Nat->Rat}
theorem G1(ha:dI L a f)(h:L<=10000000000)(m:Nat)(hm:m<=65536){body:Int×List Qr->Option ((Int×List Qr)⊕List Qr)}
  (hb:∀s,body s=(some (decide (s.1<((min a.length m:Nat):Int)))).bind λfS=>(bif fS then(cZ a s.1).bind λq=>(cQ q).bind λw=>(oM s.2 s.1).bind λlD=>(stM s.2 lD w).bind λuo=>(some (IntKind.i64.wrap (s.1+1))).bind λnT=>some (.inl (nT,uo))else some (.inr s.2))):
  (cy body (0,List.replicate m qz)).bind (λr=>some r)=some (vq m f):=by
 refine bN (λj=>((j:Int),vq j f++List.replicate (m-j) qz)) (min a.length m) (vq m f) Y (λj hj=>?_) ?_ Y
 ·obtain⟨q,hq,rq⟩:=ha.get (show j<a.length by omega);rw[hb];refine aA Y<|bP (decide_eq_true (by show(j:Int)<_;omega))<|aA (bL hq)<|aA (rq.canon h).1<|aA (cG (by rw[rz (by omega)];omega))<|aA (fG (by rw[rz (by omega)];omega))<|aA Y ?_;rw[Ey (by omega),bZ (by omega)]
 rw[hb];refine aA Y<|bJ (decide_eq_false (by show ¬((min a.length m:Nat):Int)<_;omega)) ?_;rw[VO (by omega) (λi h1 h2=>ha.z i (by omega))]
theorem Qv(ha:dI L a f)(h:L<=10000000000)(la:a.length<=1000000)(n:Int):jx a n=some (vq (min n 65536).toNat f):=by
 unfold jx;refine aA Y ?_;by_cases hn:n<1
 ·refine bP (decide_eq_true hn) ?_;rw[show(min n 65536).toNat=0 by omega];rfl
 refine bJ (decide_eq_false hn) ?_;obtain⟨m,hm⟩:∃m:Nat,min n 65536=(m:Int):=⟨(min n 65536).toNat,by omega⟩;rw[hm];refine aA Y<|aA (q9 (by omega) (by omega))<|aA Y<|aA Y<|aA (congrArg some (Jw a _)) ?_;rw[List.length_replicate];refine G1 ha h m (by omega) (λs=>?_);obtain⟨i,l⟩:=s;rfl
theorem xh{l:List Int}(hl:∀x∈l,fy x)(h:l.length<=1000000):cS l=some (vq l.length λi=>((l.getD i 0:Int):Rat))/\dI 2 (vq l.length λi=>((l.getD i 0:Int):Rat)) (λi=>((l.getD i 0:Int):Rat)):=by
 have hx:∀i,fy (l.getD i 0):=λi=>by
  by_cases hi:i<l.length
  ·rw[List.getD_eq_getElem?_getD,List.getElem?_eq_getElem hi];exact hl _ (List.getElem_mem hi)
  rw[List.getD_eq_getElem?_getD,List.getElem?_eq_none (by omega)];decide
 refine⟨?_,m8 (λi _=>(lp (hx i)).2.fq) (λi hi=>?_) (by decide)⟩
 ·unfold cS;refine aA Y<|aA (q9 (by omega) (by omega))<|aA Y ?_;refine bN (λj=>((j:Int),vq j (λi=>((l.getD i 0:Int):Rat))++List.replicate (l.length-j) qz)) l.length (vq l.length λi=>((l.getD i 0:Int):Rat)) Y (λj hj=>?_) ?_ Y
  ·have e3:=(lp (hx j)).1;have h4:=Ey (h:=λi=>((l.getD i 0:Int):Rat)) hj;obtain⟨q3,h3⟩:∃q,qn ((l.getD j 0:Int):Rat)=q:=⟨_,Y⟩;rw[h3]at e3 h4;obtain⟨⟨_,_⟩,⟨_,_⟩⟩:=q3;refine aA Y<|bP (decide_eq_true (by omega))<|aA (bL (ew hj))<|aA e3<|aA (cG (by rw[rz (by omega)];exact hj))<|aA (fG (by rw[rz (by omega)];exact hj))<|aA Y ?_;rw[bZ (by omega),h4]
  refine aA Y<|bJ (decide_eq_false (by omega)) ?_;simp
 show((l.getD i 0:Int):Rat)=0;rw[ij hi];rfl
end ops
end
section
open Go.Fw
theorem N3(l:List Qr)(hl:l.length<=1000000):∃b,kU l=some b/\(b=false->∀q∈l,q.num.w.length<=6/\q.den.w.length<=6):=by
 unfold kU;simp only[cm];refine nG (λy=>∃i:Nat,y=(i:Int)/\i<=l.length/\∀z∈l.take i,z.num.w.length<=6/\z.den.w.length<=6) (λe=>(∃c,e=.inl c/\∀z∈l,z.num.w.length<=6/\z.den.w.length<=6)\/e=.inr true) (λy=>l.length-y.toNat) ?_ ⟨0,Y,by omega,by simp⟩ ?_
 ·rintro _ ⟨i,rfl,hi,ht⟩;by_cases hlt:i<l.length
  ·have g:l[i]? =some l[i]:=by simp
   obtain⟨q,hq⟩:∃q,l[i]=q:=⟨_,Y⟩;rw[hq]at g;obtain⟨z,w⟩:=q;obtain⟨b,hb,-⟩:=Qo [z,w] (by simp);rw[show decide ((i:Int)<(l.length:Int))=true by simp[hlt],iP];simp only[bL g,cm,zeta',cK,hb];cases b
   ·rw[jr,cm];by_cases h1:6<z.w.length
    ·right;rw[decide_eq_true (by omega),iP,cm,iP];exact⟨_,Y,.inr Y⟩
    rw[decide_eq_false (by omega),jr,cm];by_cases h2:6<w.w.length
    ·right;rw[decide_eq_true (by omega),iP];exact⟨_,Y,.inr Y⟩
    left;rw[decide_eq_false (by omega),jr,bZ (by omega)];refine⟨_,Y,⟨i+1,Y,hlt,?_⟩,by omega⟩;rw[List.take_add_one,g];intro u hu;rcases List.mem_append.1 hu with h|h
    ·exact ht u h
    simp at h;rw[h];exact⟨by simp only[];omega,by simp only[];omega⟩
   right;exact⟨_,Y,.inr Y⟩
  right;rw[show decide ((i:Int)<(l.length:Int))=false by simp;omega,jr];rw[List.take_of_length_le (by omega)]at ht;exact⟨_,Y,.inl ⟨_,Y,ht⟩⟩
 rintro e (⟨c,rfl,he⟩|rfl)
 ·exact⟨false,Y,λ_=>he⟩
 exact⟨true,rfl,λh=>by cases h⟩
abbrev OkQ(q:Qr):Prop:=OkZ q.num/\OkZ q.den
theorem N4{q:Qr}{L:Nat}(h:OkQ q)(h1:q.num.w.length<=L)(h2:q.den.w.length<=L)(hL:1<=L):kn L q (qv q):=⟨h.1.2.2,h.2.2.2,h1,h2,hL,Y⟩
end
section
open Go.Fw
theorem af8(x y:Rat):x<y\/x=y\/y<x:=by grind
end
section
open Go.Fw
theorem dT{p:Prop}[Decidable p](h:p):(some (decide p):Option Bool)=some true:=congrArg some (decide_eq_true h)
theorem dF{p:Prop}[Decidable p](h:¬p):(some (decide p):Option Bool)=some false:=congrArg some (decide_eq_false h)
theorem Iq{β:Type}{x:Option Bool}{f:Bool->Option β}{r:Option β}{y:Option Bool}(h:x=some true)(hf:f true=r):(bif true then x else y).bind f=r:=by rw[iP,h];exact hf
theorem xj{β:Type}{b c:Bool}{x:Option Bool}{f:Bool->Option β}{r:Option β}(h:b=false->x=some c)(hf:f (b||c)=r):(bif b then some true else x).bind f=r:=by
 cases b
 ·rw[jr,h rfl];exact hf
 rw[iP];exact hf
theorem N5{β:Type}{b c:Bool}{x:Option Bool}{f:Bool->Option β}{r:Option β}(h:b=true->x=some c)(hf:f (b&&c)=r):(bif b then x else some false).bind f=r:=by
 cases b
 ·rw[jr];exact hf
 rw[iP,h rfl];exact hf
section ops
variable {K L M:Nat}{a b c:Qr}{x y z:Rat}
end ops
theorem dI.val{L:Nat}{v:List Qr}{f:Nat->Rat}(h:dI L v f)(i:Nat):f i=CC v i:=(h.at i).v.symm
abbrev Zo(v:List Qr):Prop:=v.length<=9223372036854775807/\∀q∈v,OkQ q
end
section
open Go.Fw
def oD{α:Type}(f:Nat->α)(n k:Nat)(z:α):List α:=(List.range k).map f++List.replicate (n-k) z
theorem C9{α:Type}{f:Nat->α}{n k:Nat}{z:α}(hk:k<=n):(oD f n k z).length=n:=by simp[oD];omega
theorem BI{α:Type}{f:Nat->α}{n:Nat}{z:α}:oD f n 0 z=List.replicate n z:=by simp[oD]
theorem Da{α:Type}{f:Nat->α}{n:Nat}{z:α}:oD f n n z=(List.range n).map f:=by simp[oD]
theorem Db{α:Type}{f:Nat->α}{n k:Nat}{z:α}(hk:k<n):(oD f n k z).set k (f k)=oD f n (k+1) z:=by
 unfold oD;rw[show n-k=(n-(k+1))+1 by omega,List.replicate_succ,List.set_append_right _ _ (by simp),List.length_map,List.length_range,Nat.sub_self,List.range_succ,List.map_append,List.append_assoc];rfl
def mq(n:Nat)(ln:Nat->Nat)(F:Nat->Nat->Rat):List (List Qr):=(List.range n).map λi=>vq (ln i) (F i)
theorem gK(n:Nat)(ln:Nat->Nat)(F:Nat->Nat->Rat):(mq n ln F).length=n:=by simp[mq]
theorem oE{n i:Nat}{ln:Nat->Nat}{F:Nat->Nat->Rat}(hi:i<n):(mq n ln F)[i]? =some (vq (ln i) (F i)):=by simp[mq,hi]
theorem xk{n:Nat}{ln ln':Nat->Nat}{F G:Nat->Nat->Rat}(h:∀i,i<n->ln i=ln' i/\∀k,k<ln i->F i k=G i k):mq n ln F=mq n ln' G:=by
 unfold mq;apply List.map_congr_left;intro i hi;obtain⟨h1,h2⟩:=h i (List.mem_range.1 hi);rw[ic h2,h1]
structure uC (L:Nat) (m:List (List Qr)) (F:Nat->Nat->Rat):Prop where
 e:∀i v,m[i]? =some v->dI L v (F i)
 z:∀i,m.length<=i->∀k,F i k=0
 l1:1<=L
theorem uC.row{L:Nat}{m:List (List Qr)}{F:Nat->Nat->Rat}(h:uC L m F)(i:Nat):dI L (m.getD i []) (F i):=by
 by_cases hi:i<m.length
 ·rw[List.getD_eq_getElem?_getD,List.getElem?_eq_getElem hi];exact h.e i _ (List.getElem?_eq_getElem hi)
 rw[List.getD_eq_getElem?_getD,List.getElem?_eq_none (by omega)];exact(dI.nil h.l1).congr (λk=>(h.z i (by omega) k).symm)
theorem VP{L n:Nat}{ln:Nat->Nat}{F:Nat->Nat->Rat}(hf:∀i,i<n->∀k,k<ln i->FQ L (F i k))(hz:∀i,i<n->∀k,ln i<=k->F i k=0)(ZF:∀i,n<=i->∀k,F i k=0)(h1:1<=L):uC L (mq n ln F) F:=by
 refine⟨λi v e=>?_,λi hi=>ZF i (by rwa[gK]at hi),h1⟩;have hi:i<n:=by have:=(List.getElem?_eq_some_iff.1 e).1;rwa[gK]at this
 rw[oE hi]at e;cases e;exact m8 (hf i hi) (hz i hi) h1
def Ir(m:List (List Qr))(i:Nat):Nat->Rat:=CC (m.getD i [])
theorem Qw{L:Nat}{m:List (List Qr)}(h:∀v∈m,dI L v (CC v))(h1:1<=L):uC L m (Ir m):=by
 refine⟨λi v e=>?_,λi hi k=>?_,h1⟩
 ·have:Ir m i=CC v:=by unfold Ir;rw[List.getD_eq_getElem?_getD,e];rfl
  rw[this];exact h v (List.mem_of_getElem? e)
 unfold Ir;rw[List.getD_eq_getElem?_getD,List.getElem?_eq_none hi];exact(dI.nil (L:=1) (by decide)).val k |>.symm
theorem mkm{n:Nat}(h:n<=1000000):BS 24 ((n:Nat):Int) ([]:List Qr)=some (List.replicate n []):=q9 (by decide) (by omega)
theorem KE(n:Nat)(h:n<=1000000):BS 64 ((n:Nat):Int) (⟨⟨false,[]⟩,⟨false,[]⟩⟩:Qr)=some (List.replicate n ⟨⟨false,[]⟩,⟨false,[]⟩⟩):=q9 (by omega) (by omega)
theorem Jy{L M N:Nat}{a b:List Qr}{f g:Nat->Rat}(ha:dI L a f)(hb:dI M b g)(h:min a.length b.length<=N):bX (λi=>f i*g i) (min a.length b.length)=bX (λi=>f i*g i) N:=by
 rw[N1 h (λi h1 _=>by
  rcases Nat.lt_or_ge i a.length with q|q
  ·rw[hb.z i (by omega)];grind
  rw[ha.z i q];grind)]
theorem BJ{E:Type}{body:Nat->Unit->Option (Unit⊕E)}{n:Nat}{p:Nat->Prop}[DecidablePred p]{e:E}(h:∀k,k<n->body k ()=some (if p k then .inl ()else .inr e)):lN body n ()=some (if ∀k,k<n->p k then .inl ()else .inr e):=by
 induction n with
 |zero=>rw[lN,if_pos (λk hk=>by omega)]
 |succ n ih=>
  rw[lN,ih (λk hk=>h k (by omega))];by_cases h1:∀k,k<n->p k
  ·rw[if_pos h1];show body n ()=_;rw[h n (by omega)];by_cases h2:p n
   ·rw[if_pos h2,if_pos];intro k hk;rcases Nat.lt_or_ge k n with q|q
    ·exact h1 k q
    obtain rfl:k=n:=by omega
    exact h2
   rw[if_neg h2,if_neg (λq=>h2 (q n (by omega)))]
  rw[if_neg h1,if_neg (λq=>h1 (λk hk=>q k (by omega)))];rfl
section ops
variable {K L M:Nat}{c:Qr}{k:Rat}{a b:List (List Qr)}{F G:Nat->Nat->Rat}{x:List Qr}{f:Nat->Rat}
theorem Qx(a:List (List Qr))(i:Nat):pW a (i:Int)=some (a.getD i []):=by
 unfold pW;refine bU<|aA (dF (by omega)) ?_;by_cases h:i<a.length
 ·exact aA (a:=false) (bJ Y<|aA Y<|aA (dF (by omega)) Y)<|bJ Y<|aA (bL (ew h)) Y
 rw[ij (by omega)];exact aA (a:=true) (bJ Y<|aA Y<|aA (dT (by omega)) Y)<|bP Y Y
def qm(m:List (List Qr)):Nat:=m.foldl (λn v=>max n v.length) 0
theorem qo{m:List (List Qr)}{n:Nat}:qm m<=n↔∀v∈m,v.length<=n:=by
 have key:∀(l:List (List Qr)) (s:Nat),l.foldl (λn v=>max n v.length) s<=n↔s<=n/\∀v∈l,v.length<=n:=by
  intro l
  induction l with
  |nil=>intro s;simp
  |cons v l ih=>
   intro s;rw[List.foldl_cons,ih];simp only[List.mem_cons,forall_eq_or_imp];constructor
   ·rintro⟨h1,h2⟩;exact⟨by omega,by omega,h2⟩
   rintro⟨h1,h2,h3⟩;exact⟨by omega,h3⟩
 unfold qm;rw[key];simp
theorem Jz(m:List (List Qr))(h:m.length<=9223372036854775806):lS m=some (qm m:Int):=by
 unfold lS;refine aA Y ?_;refine bN (λj=>(((m.take j).foldl (λn v=>max n v.length) 0:Nat),(j:Int))) m.length ((qm m:Nat):Int) (by simp) (λj hj=>?_) ?_ Y
 ·refine aA (dT (by omega))<|bP Y<|aA (bL (List.getElem?_eq_getElem hj))<|aA Y<|aA Y<|aA (congrArg some (bZ (by omega))) ?_;rw[List.take_add_one,List.getElem?_eq_getElem hj,List.foldl_append];simp only[Option.toList_some,List.foldl_cons,List.foldl_nil];congr 3;omega
 refine aA (dF (by omega))<|bJ Y ?_;rw[List.take_length];rfl
theorem VQ(h:uC L a F)(hL:L<=10000000000)(i j:Nat):sQ a (i:Int) (j:Int)=some (qn (F i j)):=by
 unfold sQ;refine aA (Qx a i)<|bU<|aA (dF (by omega)) ?_;have hr:=h.row i;generalize a.getD i []=v at hr;by_cases hj:j<v.length
 ·obtain⟨q,e1,r1⟩:=hr.get hj;have e2:=(r1.canon hL).1;exact aA (a:=false) (bJ Y<|aA Y<|aA (dF (by omega)) Y)<|bJ Y<|aA (bL e1)<|aA e2 Y
 rw[hr.z j (by omega)];exact aA (a:=true) (bJ Y<|aA Y<|aA (dT (by omega)) Y)<|bP Y Y
theorem af9(h:uC L a F)(hx:dI M x f){N:Nat}(hN:∀v∈a,min v.length x.length<=N)(hL:(N+2)*(L+M+1)<=4000000000)(hn:a.length<=1000000):
  kP a x=some (vq a.length (λi=>bX (λj=>F i j*f j) N))/\dI (N*(L+M+1)+1) (vq a.length (λi=>bX (λj=>F i j*f j) N)) (λi=>bX (λj=>F i j*f j) N):=by
 have row:∀i,i<a.length->jw (a.getD i []) x=some (qn (bX (λj=>F i j*f j) N))/\kn (N*(L+M+1)+1) (qn (bX (λj=>F i j*f j) N)) (bX (λj=>F i j*f j) N):=λi hi=>by
  have hm:=hN _ (List.mem_of_getElem? (ew (d:=[]) hi));have h1:=Zm (h.row i) hx (Nat.le_trans (Nat.mul_le_mul_right _ (by omega)) hL);rw[Jy (h.row i) hx hm]at h1;exact⟨h1.1,h1.2.mono (Nat.add_le_add_right (Nat.mul_le_mul_right _ hm) 1)⟩
 constructor
 ·unfold kP;refine aA Y<|aA (KE _ hn)<|aA Y ?_;refine bN (λj=>((j:Int),oD (λi=>qn (bX (λj=>F i j*f j) N)) a.length j ⟨⟨false,[]⟩,⟨false,[]⟩⟩)) a.length (vq a.length (λi=>bX (λj=>F i j*f j) N)) (by rw[BI];rfl) (λj hj=>?_) ?_ Y
  ·have e1:=(row j hj).1;have hl:(oD (λi=>qn (bX (λj=>F i j*f j) N)) a.length j ⟨⟨false,[]⟩,⟨false,[]⟩⟩).length=a.length:=C9 (by omega);have hst:∀q,qn (bX (λi=>F j i*f i) N)=q->(oD (λi=>qn (bX (λj=>F i j*f j) N)) a.length j ⟨⟨false,[]⟩,⟨false,[]⟩⟩).set j q=oD (λi=>qn (bX (λj=>F i j*f j) N)) a.length (j+1) ⟨⟨false,[]⟩,⟨false,[]⟩⟩:=by rintro q rfl;exact Db hj
   generalize hq:qn (bX (λi=>F j i*f i) N)=q at e1;have hst:=hst q hq;refine aA (dT (by omega))<|bP Y<|aA (bL (ew (d:=[]) hj))<|aA e1<|aA (cG (show j<_ by rw[hl];exact hj))<|aA (fG (show j<_ by rw[hl];exact hj))<|aA (congrArg some (bZ (by omega))) ?_;rw[<-hst]
  refine aA (dF (by omega))<|bJ Y ?_;rw[Da];rfl
 refine m8 (λi hi=>(row i hi).2.fq) (λi hi=>?_) (by omega);rw[cA (k:=λ_=>0) (λj _=>by rw[h.z i hi j];grind),kx]
theorem S3{l:List (List Int)}(hl:∀v∈l,v.length<=1000/\∀y∈v,fy y)(hn:l.length<=1000):hH l=some (mq l.length (λi=>(l.getD i []).length) (λi j=>(((l.getD i []).getD j 0:Int):Rat)))/\uC 2 (mq l.length (λi=>(l.getD i []).length) (λi j=>(((l.getD i []).getD j 0:Int):Rat))) (λi j=>(((l.getD i []).getD j 0:Int):Rat)):=by
 have hw:∀i,(l.getD i []).length<=1000/\∀y∈l.getD i [],fy y:=λi=>by
  by_cases hi:i<l.length
  ·exact hl _ (List.mem_of_getElem? (ew (d:=[]) hi))
  rw[ij (by omega)];simp
 constructor
 ·unfold hH;refine aA Y<|aA (mkm (by omega))<|aA Y ?_;refine bN (λj=>((j:Int),oD (λi=>vq (l.getD i []).length (λj=>(((l.getD i []).getD j 0:Int):Rat))) l.length j [])) l.length (mq l.length (λi=>(l.getD i []).length) (λi j=>(((l.getD i []).getD j 0:Int):Rat))) (by rw[BI];rfl) (λj hj=>?_) ?_ Y
  ·have e1:=(xh (hw j).2 (by have:=(hw j).1;omega)).1;have hl:(oD (λi=>vq (l.getD i []).length (λj=>(((l.getD i []).getD j 0:Int):Rat))) l.length j []).length=l.length:=C9 (by omega);refine aA (dT (by omega))<|bP Y<|aA (bL (ew (d:=[]) hj))<|aA e1<|aA (cG (show j<_ by rw[hl];exact hj))<|aA (fG (show j<_ by rw[hl];exact hj))<|aA (congrArg some (bZ (by omega))) ?_;rw[<-Db hj]
  refine aA (dF (by omega))<|bJ Y ?_;rw[Da];rfl
 refine VP (λi hi j hj=>(xh (hw i).2 (by have:=(hw i).1;omega)).2.fq j) (λi hi j hj=>by rw[ij hj];rfl) (λi hi j=>by rw[ij hi];rfl) (by decide)
end ops
end
section
open Go.Fw
theorem yU{α:Type}{b:Bool}{x y r:α}(ht:b=true->x=r)(hf:b=false->y=r):(bif b then x else y)=r:=by
 cases b
 ·rw[jr];exact hf Y
 rw[iP];exact ht Y
theorem ug{E:Type}{body:Int->Option (Int⊕(Unit⊕E))}{n:Nat}{p:Nat->Prop}[DecidablePred p]{e:E}(h:∀k:Nat,k<n->body (k:Int)=some (if p k then .inl ((k+1:Nat):Int)else .inr (.inr e)))(hn:body (n:Int)=some (.inr (.inl ()))):
  cy body 0=some (if ∀k,k<n->p k then .inl ()else .inr e):=by
 obtain⟨r,h1,h2⟩:=xD (body:=body) (s:=0) (λs=>∃k:Nat,s=(k:Int)/\k<=n/\∀i,i<k->p i) (λr=>(r=.inl ()/\∀k,k<n->p k)\/(r=.inr e/\¬∀k,k<n->p k)) (λs=>n-s.toNat) (by
  rintro _ ⟨k,rfl,hk,hp⟩;by_cases hlt:k<n
  ·by_cases hpk:p k
   ·refine .inl ⟨_,by rw[h k hlt,if_pos hpk],⟨k+1,Y,hlt,λi hi=>?_⟩,by simp only[Int.toNat_natCast];omega⟩;rcases Nat.lt_or_ge i k with q|q
    ·exact hp i q
    obtain rfl:i=k:=by omega
    exact hpk
   exact .inr ⟨_,by rw[h k hlt,if_neg hpk],.inr ⟨Y,λq=>hpk (q k hlt)⟩⟩
  obtain rfl:k=n:=by omega
  exact .inr ⟨_,hn,.inl ⟨Y,hp⟩⟩) ⟨0,Y,by omega,λi hi=>by omega⟩
 rw[h1];rcases h2 with⟨rfl,h2⟩|⟨rfl,h2⟩
 ·rw[if_pos h2]
 rw[if_neg h2]
def Qy(n:Nat)(f:Nat->Rat)(i:Nat):Rat:=if i<n then f i else 0
theorem Ez{n i:Nat}{f:Nat->Rat}(h:i<n):Qy n f i=f i:=if_pos h
theorem Qz{n i:Nat}{f:Nat->Rat}(h:n<=i):Qy n f i=0:=if_neg (by omega)
theorem VR(n:Nat)(f:Nat->Rat):vq n f=vq n (Qy n f):=ic (λi hi=>(Ez hi).symm)
theorem QA{L n:Nat}{f:Nat->Rat}(h:∀i,i<n->FQ L (f i))(h1:1<=L):dI L (vq n f) (Qy n f):=by
 rw[VR];exact m8 (λi hi=>by rw[Ez hi];exact h i hi) (λi hi=>Qz hi) h1
def BU(n:Int)(ob rw:List (List Qr))(bd:List Qr):Prop:=0<=n/\n<=64/\1<=ob.length/\ob.length<=4/\rw.length<=128/\bd.length=rw.length/\(qm ob:Int)<=n/\(qm rw:Int)<=n
instance(n:Int)(ob rw:List (List Qr))(bd:List Qr):Decidable (BU n ob rw bd):=by unfold BU;exact inferInstance
theorem BK{n:Int}{ob rw:List (List Qr)}{bd:List Qr}(h1:ob.length<=9223372036854775806)(h2:rw.length<=9223372036854775806):fB ⟨n,ob,rw,bd⟩=some (decide (BU n ob rw bd)):=by
 unfold fB kQ;refine aA (aA Y<|aA Y<|aA Y Y)<|bU<|aA Y<|xj (λ_=>aA Y Y)<|xj (λ_=>aA Y Y)<|xj (λ_=>aA Y Y)<|yU (λh=>?_) (λh=>bU<|aA Y<|xj (λ_=>aA Y Y)<|yU (λh'=>?_) (λh'=>bU<|aA (Jz ob h1)<|aA Y<|N5 (λ_=>aA (Jz rw h2)<|aA Y Y) ?_))
 ·congr 1;symm;rw[decide_eq_false_iff_not];simp only[Bool.or_eq_true,decide_eq_true_eq]at h;unfold BU;omega
 ·congr 1;symm;rw[decide_eq_false_iff_not];simp only[Bool.or_eq_true,decide_eq_true_eq]at h';unfold BU;omega
 congr 1;simp only[Bool.or_eq_false_iff,decide_eq_false_iff_not]at h h';rw[<-Bool.decide_and,decide_eq_decide];unfold BU;omega
theorem VS{n:Int}{ob rw:List (List Qr)}{bd:List Qr}:fB ⟨n,ob,rw,bd⟩=some (decide (BU n ob rw bd)):=by
 unfold fB kQ;refine aA (aA Y<|aA Y<|aA Y Y)<|bU<|aA Y<|xj (λ_=>aA Y Y)<|xj (λ_=>aA Y Y)<|xj (λ_=>aA Y Y)<|yU (λh=>?_) (λh=>bU<|aA Y<|xj (λ_=>aA Y Y)<|yU (λh'=>?_) (λh'=>bU<|aA (Jz ob (by simp only[Bool.or_eq_false_iff,decide_eq_false_iff_not]at h h';omega))<|aA Y<|N5 (λ_=>aA (Jz rw (by simp only[Bool.or_eq_false_iff,decide_eq_false_iff_not]at h h';omega))<|aA Y Y) ?_))
 ·congr 1;symm;rw[decide_eq_false_iff_not];simp only[Bool.or_eq_true,decide_eq_true_eq]at h;unfold BU;omega
 ·congr 1;symm;rw[decide_eq_false_iff_not];simp only[Bool.or_eq_true,decide_eq_true_eq]at h';unfold BU;omega
 congr 1;simp only[Bool.or_eq_false_iff,decide_eq_false_iff_not]at h h';rw[<-Bool.decide_and,decide_eq_decide];unfold BU;omega
def KF(n:Int)(ob rw:List (List Qr))(bd x:List Qr)(F:Nat->Nat->Rat)(g f:Nat->Rat)(N:Nat):Prop:=BU n ob rw bd/\(x.length:Int)<=n/\(∀i,i<x.length->0<=f i)/\∀i,i<rw.length->bX (λj=>F i j*f j) N<=g i
instance(n:Int)(ob rw:List (List Qr))(bd x:List Qr)(F:Nat->Nat->Rat)(g f:Nat->Rat)(N:Nat):Decidable (KF n ob rw bd x F g f N):=by unfold KF;exact inferInstance
section lps
variable {K L M N:Nat}{n:Int}{ob rw:List (List Qr)}{bd x y:List Qr}{O F:Nat->Nat->Rat}{g f:Nat->Rat}
theorem JA(hr:uC L rw F)(hb:dI K bd g)(hx:dI M x f)(hN:∀v∈rw,min v.length x.length<=N)(hL:(N+2)*(L+M+1)<=2000000000)(hK:K<=1000000000)(h1:ob.length<=9223372036854775806)(h2:rw.length<=9223372036854775806)(h3:x.length<=1000000):
  fL ⟨n,ob,rw,bd⟩ x=some (decide (KF n ob rw bd x F g f N)):=by
 have row:∀i,i<rw.length->∃q,jw (rw.getD i []) x=some q/\kn (N*(L+M+1)+1) q (bX (λj=>F i j*f j) N):=λi hi=>by
  have hm:=hN _ (List.mem_of_getElem? (ew (d:=[]) hi));have h1:=Zm (hr.row i) hx (Nat.le_trans (Nat.mul_le_mul_right _ (show min (rw.getD i []).length x.length+2<=N+2 by omega)) (by omega));rw[Jy (hr.row i) hx hm]at h1;exact⟨_,h1.1,h1.2.mono (Nat.add_le_add_right (Nat.mul_le_mul_right _ hm) 1)⟩
 have hsz:N*(L+M+1)+1+K<=4000000000:=by rw[Nat.add_mul]at hL;omega
 unfold fL;refine bU<|aA (BK h1 h2)<|aA Y<|xj (λ_=>aA Y<|aA Y Y)<|yU (λh=>?_) (λh=>aA Y ?_)
 ·congr 1;symm;rw[decide_eq_false_iff_not];simp only[Bool.or_eq_true,Bool.not_eq_true',decide_eq_true_eq,decide_eq_false_iff_not]at h;unfold KF;rintro⟨q1,q2,_⟩;rcases h with h|h
  ·exact h q1
  omega
 simp only[Bool.or_eq_false_iff,Bool.not_eq_false',decide_eq_true_eq,decide_eq_false_iff_not]at h;refine aA (ug (p:=λi=>0<=f i) (e:=false) (n:=x.length) (λi hi=>?_) (aA (dF (by omega))<|bJ Y Y)) ?_
 ·obtain⟨q,e1,r1⟩:=hx.get hi;have e2:=r1.sign (by have:=Nat.mul_le_mul_right (L+M+1) (show 1<=N+2 by omega);omega);refine aA (dT (by omega))<|bP Y<|aA (bL e1)<|aA e2<|aA Y ?_;by_cases hp:0<=f i
  ·rw[if_pos hp];exact bJ (decide_eq_false (λq=>Rat.not_lt.2 hp (xg.1 q)))<|aA (congrArg some (bZ (by omega))) Y
  rw[if_neg hp];exact bP (decide_eq_true (xg.2 (Rat.not_le.1 hp))) Y
 by_cases hp:∀i,i<x.length->0<=f i
 ·rw[if_pos hp];show(lN _ _ ()).bind _=_;refine aA (BJ (p:=λi=>bX (λj=>F i j*f j) N<=g i) (e:=false) (λi hi=>?_)) ?_
  ·obtain⟨q,e1,r1⟩:=row i hi;have rb:=hb.gd i;have e2:=r1.cmp rb hsz;generalize hbq:bd.getD i (⟨⟨false,[]⟩,⟨false,[]⟩⟩:Qr)=bq at e2;refine aA Y<|aA (a:=bq) (by first|rfl|exact congrArg some hbq)<|aA e1<|aA e2<|aA Y ?_;by_cases hs:bX (λj=>F i j*f j) N<=g i
   ·rw[if_pos hs];refine bJ (decide_eq_false (λq=>?_)) Y;exact Rat.not_lt.2 hs (N0.1 (by omega))
   rw[if_neg hs];exact bP (decide_eq_true (Qp (Rat.not_le.1 hs))) Y
  by_cases hq:∀i,i<rw.length->bX (λj=>F i j*f j) N<=g i
  ·rw[if_pos hq,decide_eq_true (show KF n ob rw bd x F g f N from⟨h.1,by omega,hp,hq⟩)]
  rw[if_neg hq,decide_eq_false (show ¬KF n ob rw bd x F g f N from λq=>hq q.2.2.2)]
 rw[if_neg hp,decide_eq_false (show ¬KF n ob rw bd x F g f N from λq=>hp q.2.2.1)]
theorem eval_eq(ho:uC L ob O)(hx:dI M x f)(hN:∀v∈ob,min v.length x.length<=N)(hL:(N+2)*(L+M+1)<=4000000000)(hn:ob.length<=1000000):
  iH ⟨n,ob,rw,bd⟩ x=some (vq ob.length (λi=>bX (λj=>O i j*f j) N))/\dI (N*(L+M+1)+1) (vq ob.length (λi=>bX (λj=>O i j*f j) N)) (λi=>bX (λj=>O i j*f j) N):=by
 obtain⟨h1,h2⟩:=af9 ho hx hN hL hn;exact⟨aA h1 Y,h2⟩
end lps
end
section
open Go.Fw
def bq(m:Nat)(b:Nat->Nat):List Int:=(List.range m).map λj=>((b j:Nat):Int)
theorem vN(m:Nat)(b:Nat->Nat):(bq m b).length=m:=by simp[bq]
theorem vO{m j:Nat}{b:Nat->Nat}(h:j<m):(bq m b)[j]? =some ((b j:Nat):Int):=by simp[bq,h]
theorem QB(m:Nat)(b:Nat->Nat):bq (m+1) b=bq m b++[((b m:Nat):Int)]:=by simp[bq,List.range_succ]
theorem VT{m r c:Nat}{b:Nat->Nat}(hr:r<m):(bq m b).set r (c:Int)=bq m (λj=>if j=r then c else b j):=by
 apply List.ext_getElem?;intro j;rw[List.getElem?_set,vN];by_cases hj:j<m
 ·rw[vO hj];by_cases e:r=j
  ·subst e;rw[if_pos Y,if_pos hr,vO hr,if_pos rfl]
  rw[if_neg e,vO hj,if_neg (λq=>e q.symm)]
 rw[List.getElem?_eq_none (l:=bq m _) (by rw[vN];omega),List.getElem?_eq_none (l:=bq m _) (by rw[vN];omega)];by_cases e:r=j
 ·rw[if_pos e,if_neg (by omega)]
 rw[if_neg e]
abbrev Is(n m p:Nat)(O F:Nat->Nat->Rat)(b:Nat->Nat):Tb:=⟨true,(n:Int),mq p (λ_=>n) O,bq m b,mq m (λ_=>n+m+1) F⟩
structure rA (L n m p:Nat) (O F:Nat->Nat->Rat) (b:Nat->Nat):Prop where
 f:∀i,i<m->∀k,FQ L (F i k)
 o:∀i,i<p->∀k,FQ L (O i k)
 z:∀i,i<m->∀k,n+m+1<=k->F i k=0
 l1:1<=L
 hn:n<=64
 hm:m<=128
 hp:p<=4
 hb:∀j,j<m->b j<n+m
section tab
variable {L n m p:Nat}{O F:Nat->Nat->Rat}{b:Nat->Nat}
theorem lq(n m p:Nat)(O F:Nat->Nat->Rat)(b:Nat->Nat):cH (Is n m p O F b)=some false:=by
 unfold cH;exact bU<|aA (a:=false) (bJ Y<|aA Y Y) Y
theorem EA(hn:n<=64)(hm:m<=128):eX (Is n m p O F b)=some ((n+m:Nat):Int):=by
 unfold eX;refine aA Y<|aA (congrArg some ?_) Y;rw[gK,cU (by omega) (by omega)];omega
theorem Zp{i:Nat}(h:rA L n m p O F b)(hi:i<m):dI L (vq (n+m+1) (F i)) (F i):=m8 (λk _=>h.f i hi k) (λk hk=>h.z i hi k hk) h.l1
theorem JB(h:rA L n m p O F b)(hL:L<=4000000000){c:Nat}(hc:c<n+m+1):jy (Is n m p O F b) (c:Int)=some (vq m (λi=>F i c)):=by
 have hm:=h.hm;unfold jy;show(some ((mq m (λ_=>n+m+1) F).length:Int)).bind _=_;refine aA Y ?_;rw[gK];refine aA (KE m (by omega))<|aA Y ?_;refine bN (λk=>((k:Int),vq k (λi=>F i c)++List.replicate (m-k) qz)) m (vq m (λi=>F i c)) Y (λk hk=>?_) ?_ Y
 ·have g1:(mq m (λ_=>n+m+1) F)[k]? =some (vq (n+m+1) (F k)):=oE hk;have g2:(vq (n+m+1) (F k))[c]? =some (qn (F k c)):=lW hc;have e:=(((h.f k hk c).rep h.l1).canon (by omega)).1;have s:=Ey (h:=λi=>F i c) hk;have hl:(vq k (λi=>F i c)++List.replicate (m-k) qz).length=m:=rz (by omega);rw[<-s];generalize vq k (λi=>F i c)++List.replicate (m-k) qz=l at*;clear s;show(some (decide ((k:Int)<(m:Int)))).bind _=_;generalize qn (F k c)=q at*;obtain⟨⟨_,_⟩,⟨_,_⟩⟩:=q;exact aA (dT (by omega))<|bP Y<|aA (bL g1)<|aA (bL g2)<|aA e<|aA (cG (by omega))<|aA (fG (by omega))<|aA (congrArg some (bZ (by omega))) Y
 simp only[Nat.sub_self,List.replicate_zero,List.append_nil];exact aA (dF (by omega))<|bJ Y Y
def jJ(n p:Nat)(O:Nat->Nat->Rat)(c:Nat)(i:Nat):Rat:=if c<n then(if i<p then O i c else if i=p+c then-1 else 0)else 0
theorem qp{k j:Nat}{h:Nat->Rat}{x:Rat}(hj:j<k):(vq k h).set j (qn x)=vq k (λi=>if i=j then x else h i):=by
 apply List.ext_getElem?;intro i;rw[List.getElem?_set,ct];by_cases hi:i<k
 ·rw[lW hi];by_cases e:j=i
  ·subst e;rw[if_pos Y,if_pos hj,lW hj,if_pos rfl]
  rw[if_neg e,lW hi,if_neg (λq=>e q.symm)]
 rw[List.getElem?_eq_none (l:=vq k _) (by rw[ct];omega),List.getElem?_eq_none (l:=vq k _) (by rw[ct];omega)];by_cases e:j=i
 ·rw[if_pos e,if_neg (by omega)]
 rw[if_neg e]
theorem z5(k:Nat):List.replicate k (⟨⟨false,[]⟩,⟨false,[]⟩⟩:Qr)=vq k (λ_=>0):=by
 apply List.ext_getElem?;intro i;by_cases hi:i<k
 ·rw[lW hi,List.getElem?_replicate,if_pos hi];rfl
 rw[List.getElem?_eq_none (by simp;omega),List.getElem?_eq_none (by rw[ct];omega)]
theorem QC:cD (-1)=some (qn (-1)):=(lp (n:=-1) (by decide)).1
theorem one_eq:cD 1=some (qn 1)/\kn 2 (qn 1) 1:=lp (n:=1) (by decide)
theorem N6(h:rA L n m p O F b){c:Nat}(hc:c<n+m):iI (Is n m p O F b) (c:Int)=some (vq (p+n) (jJ n p O c)):=by
 have hm:=h.hm;have hn:=h.hn;have hp:=h.hp;unfold iI;show(some ((mq p (λ_=>n) O).length:Int)).bind _=_;refine aA Y ?_;rw[gK];refine aA (congrArg some (show IntKind.i64.wrap ((p:Int)+(n:Int))=((p+n:Nat):Int) by rw[cU (by omega) (by omega)];omega))<|aA (KE (p+n) (by omega))<|aA Y<|bU ?_;rw[z5];by_cases hcn:c<n
 ·refine bP (decide_eq_true (show(c:Int)<(n:Int) by omega))<|aA Y ?_;refine bN (λk=>((k:Int),vq (p+n) (λi=>if i<k then O i c else 0))) p (vq (p+n) (λi=>if i<p then O i c else 0)) (by simp) (λk hk=>?_) ?_ ?_
  ·have g1:(mq p (λ_=>n) O)[k]? =some (vq n (O k)):=oE hk;have g2:(vq n (O k))[c]? =some (qn (O k c)):=lW hcn;have s:=qp (k:=p+n) (j:=k) (h:=λi=>if i<k then O i c else 0) (x:=O k c) (by omega);have s2:vq (p+n) (λi=>if i=k then O k c else if i<k then O i c else 0)=vq (p+n) (λi=>if i<k+1 then O i c else 0):=ic (λi _=>by
    by_cases e:i=k
    ·subst e;simp
    rw[if_neg e];by_cases e2:i<k
    ·rw[if_pos e2,if_pos (by omega)]
    rw[if_neg e2,if_neg (by omega)])
   rw[s2]at s;have hl:=ct (p+n) (λi=>if i<k then O i c else 0);rw[<-s];generalize vq (p+n) (λi=>if i<k then O i c else 0)=l at*;clear s s2;show(some (decide ((k:Int)<(p:Int)))).bind _=_;generalize qn (O k c)=q at*;obtain⟨⟨_,_⟩,⟨_,_⟩⟩:=q;exact aA (dT (by omega))<|bP Y<|aA (bL g1)<|aA (bL g2)<|aA (cG (by omega))<|aA (fG (by omega))<|aA (congrArg some (bZ (by omega))) Y
  ·exact aA (dF (by omega))<|bJ Y Y
  have s:=qp (k:=p+n) (j:=p+c) (h:=λi=>if i<p then O i c else 0) (x:=-1) (by omega);have s2:vq (p+n) (λi=>if i=p+c then(-1:Rat)else if i<p then O i c else 0)=vq (p+n) (jJ n p O c):=ic (λi _=>by
   unfold jJ;rw[if_pos hcn];by_cases e:i=p+c
   ·rw[if_pos e,if_neg (by omega),if_pos e]
   rw[if_neg e,if_neg e])
  rw[s2]at s;have hl:=ct (p+n) (λi=>if i<p then O i c else 0);have e1:=QC;rw[<-s];generalize vq (p+n) (λi=>if i<p then O i c else 0)=l at*;clear s s2;generalize qn (-1)=q at*;obtain⟨⟨_,_⟩,⟨_,_⟩⟩:=q;exact aA Y<|aA (congrArg some (show IntKind.i64.wrap ((p:Int)+(c:Int))=((p+c:Nat):Int) by rw[cU (by omega) (by omega)];omega))<|aA e1<|aA (cG (by omega))<|aA (fG (by omega)) Y
 refine bJ (decide_eq_false (show ¬(c:Int)<(n:Int) by omega)) ?_;exact congrArg some (ic (λi _=>by unfold jJ;rw[if_neg hcn]))
theorem N7(h:rA L n m p O F b)(c i:Nat):FQ L (jJ n p O c i):=by
 unfold jJ;have hl:=h.l1;split
 ·split
  ·exact h.o _ (by assumption) _
  split
  ·exact(FQ.int (i:=-1) (L:=L) (by unfold Fit;exact Nat.lt_of_lt_of_le (by decide:(-1:Int).natAbs<4294967296^1) (Nat.pow_le_pow_right (by decide) hl)) hl)
  exact uf hl
 exact uf hl
theorem JC(h:rA L n m p O F b)(c:Nat):dI L (vq (p+n) (jJ n p O c)) (jJ n p O c):=m8 (λi _=>N7 h c i) (λi hi=>by
 unfold jJ;split
 ·rw[if_neg (by omega),if_neg (by omega)]
 rfl) h.l1
def nH(n p:Nat)(O:Nat->Nat->Rat)(b:Nat->Nat)(g:Nat->Rat)(m:Nat)(i:Nat):Rat:=bX (λj=>g j*jJ n p O (b j) i) m
theorem VU{g:Nat->Rat}{k i:Nat}(hi:p+n<=i):nH n p O b g k i=0:=by
 unfold nH;rw[cA (k:=λ_=>0) (λj _=>?_),kx];unfold jJ;split
 ·rw[if_neg (by omega),if_neg (by omega)];grind
 grind
theorem z6(h:rA L n m p O F b){g:Nat->Rat}(hg:∀j,j<m->FQ L (g j)):∀k,k<=m->∀i,FQ (k*(L+L+1)+1) (nH n p O b g k i)
 |0,_,i=>by show FQ (0*(L+L+1)+1) (0:Rat);rw[Nat.zero_mul];exact uf (by decide)
 |k+1,hk,i=>by
  have e:=(z6 h hg k (by omega) i).add ((hg k (by omega)).mul (N7 h (b k) i));exact e.mono (by rw[Nat.succ_mul];generalize k*(L+L+1)=q;omega)
theorem BL(h:rA L n m p O F b){g:Nat->Rat}(hg:∀j,j<m->FQ L (g j)){k:Nat}(hk:k<=m):dI (k*(L+L+1)+1) (vq (p+n) (nH n p O b g k)) (nH n p O b g k):=m8 (λi _=>z6 h hg k hk i) (λi hi=>VU hi) (by omega)
theorem Dc(h:rA L n m p O F b)(hL:(m+1)*(L+L+1)<=2000000000){g:Nat->Rat}(hg:∀j,j<m->FQ L (g j)):ia (Is n m p O F b) (vq m g)=some (vq (p+n) (nH n p O b g m)):=by
 have hX:m*(L+L+1)+(L+L+1)<=2000000000:=by rw[<-Nat.succ_mul];exact hL
 have hm:=h.hm;have hn:=h.hn;have hp:=h.hp;have h1:=h.l1;unfold ia;show(some ((mq p (λ_=>n) O).length:Int)).bind _=_;refine aA Y ?_;rw[gK];refine aA (congrArg some (show IntKind.i64.wrap ((p:Int)+(n:Int))=((p+n:Nat):Int) by rw[cU (by omega) (by omega)];omega))<|aA (KE (p+n) (by omega))<|aA (congrArg some (show((vq m g).length:Int)=(m:Int) by rw[ct])) ?_;rw[z5];refine bN (λk=>(vq (p+n) (nH n p O b g k),(k:Int))) m (vq (p+n) (nH n p O b g m)) Y (λk hk=>?_) ?_ Y
 ·have g1:(vq m g)[k]? =some (qn (g k)):=lW hk;have g2:=vO (b:=b) hk;have rg:=(hg k hk).rep h1;have sg:=rg.sign (by omega);have To:=h.hb k hk;have tv:=N6 h To;have va:=S0 rg (JC h (b k)) (BL h hg (Nat.le_of_lt hk)) (by have:=Nat.mul_le_mul_right (L+L+1) (show k<=m by omega);omega) (by rw[ct];omega) (by rw[ct];omega);have e0:vq (max (vq (p+n) (jJ n p O (b k))).length (vq (p+n) (nH n p O b g k)).length) (λi=>g k*jJ n p O (b k) i+nH n p O b g k i)=vq (p+n) (nH n p O b g (k+1)):=by
   rw[ct,ct,Nat.max_self];refine ic (λi _=>?_);show _=bX _ k+_;unfold nH;grind
  rw[e0]at va;have same:g k*jJ n p O (b k) 0=g k*jJ n p O (b k) 0:=rfl;have skip:(¬(b k<n)\/g k=0)->vq (p+n) (nH n p O b g k)=vq (p+n) (nH n p O b g (k+1)):=λq=>ic (λi _=>by
   show nH n p O b g k i=bX _ k+_;have:g k*jJ n p O (b k) i=0:=by
    rcases q with q|q
    ·unfold jJ;rw[if_neg q];grind
    rw[q];grind
   show nH n p O b g k i=nH n p O b g k i+g k*jJ n p O (b k) i;rw[this];grind)
  replace va:=va.1;show(some (decide ((k:Int)<(m:Int)))).bind _=_;have sgd:(some (decide (lf (g k) 0≠0)):Option Bool)=some (decide (g k≠0)):=by
   congr 1;by_cases q:g k=0
   ·rw[decide_eq_false (by rw[q,yp];simp),decide_eq_false (by simp[q])]
   rw[decide_eq_true (show lf (g k) 0≠0 from λe=>q (jD.1 e)),decide_eq_true q]
  generalize hq:qn (g k)=q at*;obtain⟨⟨q1,q2⟩,⟨q3,q4⟩⟩:=q;refine aA (dT (by omega))<|bP Y<|aA (bL g1)<|bU<|aA (bL g2)<|aA Y ?_;by_cases Ty:b k<n
  ·refine aA (a:=decide (g k≠0)) (bP (decide_eq_true (show((b k:Nat):Int)<(n:Int) by omega))<|aA sg<|aA sgd Y)<|bU ?_;by_cases h0:g k=0
   ·refine bJ (by simp[h0]) ?_;rw[skip (.inr h0)];exact aA (congrArg some (bZ (by omega))) Y
   refine bP (by simp[h0]) ?_;exact aA (bL g2)<|aA tv<|aA va<|aA (congrArg some (bZ (by omega))) Y
  refine aA (a:=false) (bJ (decide_eq_false (show ¬((b k:Nat):Int)<(n:Int) by omega)) Y)<|bU<|bJ Y ?_;rw[skip (.inl Ty)];exact aA (congrArg some (bZ (by omega))) Y
 exact aA (dF (by omega))<|bJ Y Y
theorem KG(h:rA L n m p O F b)(hL:L<=4000000000):gb (Is n m p O F b)=some (vq m (λi=>F i (n+m))):=by
 unfold gb;exact aA (lq n m p O F b)<|bJ Y<|aA (EA h.hn h.hm)<|aA (JB h hL (by omega)) Y
def qt(n m p:Nat)(O F:Nat->Nat->Rat)(b:Nat->Nat)(c:Nat)(i:Nat):Rat:=nH n p O b (λj=>F j c) m i-jJ n p O c i
theorem N8(h:rA L n m p O F b)(hL:(m+1)*(L+L+1)<=2000000000){c:Nat}(hc:c<n+m):dK (Is n m p O F b) (c:Int)=some (vq (p+n) (qt n m p O F b c))/\dI (m*(L+L+1)+1+L+1) (vq (p+n) (qt n m p O F b c)) (qt n m p O F b c):=by
 have hX:m*(L+L+1)+(L+L+1)<=2000000000:=by rw[<-Nat.succ_mul];exact hL
 have hm:=h.hm;have hn:=h.hn;have hp:=h.hp;have w:=Dc h hL (g:=λj=>F j c) (λj hj=>h.f j hj c);have s:=af4 (BL h (g:=λj=>F j c) (λj hj=>h.f j hj c) (Nat.le_refl m)) (JC h c) (by omega) (by rw[ct];omega) (by rw[ct];omega);rw[ct,ct,Nat.max_self]at s;refine⟨?_,s.2⟩;unfold dK;exact bU<|aA (lq n m p O F b)<|aA (a:=false) (bJ Y<|aA (dF (by omega)) Y)<|aA (a:=false) (bJ Y<|aA (EA hn hm)<|aA (dF (by omega)) Y)<|bJ Y<|aA (JB h (by omega) (by omega))<|aA w<|aA (N6 h hc)<|aA s.1 Y
theorem EB(h:rA L n m p O F b)(hL:(m+1)*(L+L+1)<=2000000000):ir (Is n m p O F b)=some (vq (p+n) (nH n p O b (λj=>F j (n+m)) m)):=by
 have hX:m*(L+L+1)+(L+L+1)<=2000000000:=by rw[<-Nat.succ_mul];exact hL
 unfold ir;exact aA (lq n m p O F b)<|bJ Y<|aA (KG h (by omega))<|aA (Dc h hL (g:=λj=>F j (n+m)) (λj hj=>h.f j hj _)) Y
def gL(n m:Nat)(F:Nat->Nat->Rat)(b:Nat->Nat):Nat->Nat->Rat
 |0,_=>0
 |j+1,i=>if b j<n/\i=b j then F j (n+m)else gL n m F b j i
theorem Dd(h:rA L n m p O F b)(hL:L<=4000000000):fU (Is n m p O F b)=some (vq n (gL n m F b m)):=by
 have hm:=h.hm;have hn:=h.hn;unfold fU;refine aA (lq n m p O F b)<|bJ Y<|aA (KE n (by omega))<|aA (KG h hL)<|aA (congrArg some (show((vq m _).length:Int)=(m:Int) by rw[ct])) ?_;rw[z5];refine bN (λk=>((k:Int),vq n (gL n m F b k))) m (vq n (gL n m F b m)) Y (λk hk=>?_) ?_ Y
 ·have g1:(vq m (λi=>F i (n+m)))[k]? =some (qn (F k (n+m))):=lW hk;have g2:=vO (b:=b) hk;have hl:=ct n (gL n m F b k);show(some (decide ((k:Int)<(m:Int)))).bind _=_;by_cases Ty:b k<n
  ·have s:=qp (k:=n) (j:=b k) (h:=gL n m F b k) (x:=F k (n+m)) Ty;have s2:vq n (λi=>if i=b k then F k (n+m)else gL n m F b k i)=vq n (gL n m F b (k+1)):=ic (λi _=>by
    show _=if b k<n/\i=b k then _ else _;by_cases e:i=b k
    ·rw[if_pos e,if_pos ⟨Ty,e⟩]
    rw[if_neg e,if_neg (λq=>e q.2)])
   rw[s2]at s;rw[<-s];clear s s2;generalize vq n (gL n m F b k)=l at*;generalize qn (F k (n+m))=q at*;obtain⟨⟨_,_⟩,⟨_,_⟩⟩:=q;exact aA (dT (by omega))<|bP Y<|aA (bL g1)<|aA (bL g2)<|aA Y<|bU<|bP (decide_eq_true (show((b k:Nat):Int)<(n:Int) by omega))<|aA (bL g2)<|aA (cG (by omega))<|aA (fG (by omega))<|aA (congrArg some (bZ (by omega))) Y
  have s2:vq n (gL n m F b k)=vq n (gL n m F b (k+1)):=ic (λi _=>by
   show _=if b k<n/\i=b k then _ else _;rw[if_neg (λq=>Ty q.1)])
  rw[<-s2];generalize qn (F k (n+m))=q at*;obtain⟨⟨_,_⟩,⟨_,_⟩⟩:=q;exact aA (dT (by omega))<|bP Y<|aA (bL g1)<|aA (bL g2)<|aA Y<|bU<|bJ (decide_eq_false (show ¬((b k:Nat):Int)<(n:Int) by omega))<|aA (congrArg some (bZ (by omega))) Y
 exact aA (dF (by omega))<|bJ Y Y
theorem De(h:rA L n m p O F b)(hL:L<=4000000000):eY (Is n m p O F b)=some (decide (∀i,i<m->0<=F i (n+m))):=by
 have hm:=h.hm;unfold eY;refine aA (lq n m p O F b)<|bJ Y<|aA (KG h hL)<|aA (congrArg some (show((vq m _).length:Int)=(m:Int) by rw[ct])) ?_;refine aA (ug (n:=m) (p:=λi=>0<=F i (n+m)) (e:=false) (λk hk=>?_) (aA (dF (by omega))<|bJ Y Y)) ?_
 ·have g1:(vq m (λi=>F i (n+m)))[k]? =some (qn (F k (n+m))):=lW hk;have sg:=((h.f k hk (n+m)).rep h.l1).sign (by omega);generalize qn (F k (n+m))=q at*;obtain⟨⟨_,_⟩,⟨_,_⟩⟩:=q;refine aA (dT (by omega))<|bP Y<|aA (bL g1)<|aA sg<|aA Y ?_;by_cases q:F k (n+m)<0
  ·rw[if_neg (by grind)];exact bP (decide_eq_true (xg.2 q)) Y
  rw[if_pos (by grind)];exact bJ (decide_eq_false (λe=>q (xg.1 e)))<|aA (congrArg some (bZ (by omega))) Y
 by_cases q:∀i,i<m->0<=F i (n+m)
 ·rw[if_pos q,decide_eq_true q]
 rw[if_neg q,decide_eq_false q]
theorem BM(h:rA L n m p O F b)(hL:(m+1)*(L+L+1)<=2000000000):fM (Is n m p O F b)=some (decide (∀c,c<n+m->0<=iA (qt n m p O F b c) (λ_=>0) (p+n))):=by
 have hX:m*(L+L+1)+(L+L+1)<=2000000000:=by rw[<-Nat.succ_mul];exact hL
 have hm:=h.hm;have hn:=h.hn;unfold fM;refine aA (lq n m p O F b)<|bJ Y ?_;have hw:(IntKind.i64.wrap (Tb.vars (Is n m p O F b)+((Tb.rows (Is n m p O F b)).length:Int))).toNat=n+m:=by
  show(IntKind.i64.wrap ((n:Int)+((mq m (λ_=>n+m+1) F).length:Int))).toNat=_;rw[gK,cU (by omega) (by omega)];omega
 refine aA (a:=if ∀c,c<n+m->0<=iA (qt n m p O F b c) (λ_=>0) (p+n)then .inl ()else .inr false) ?_ ?_
 ·refine Eq.trans (congrArg (λk=>lN _ k ()) hw) ?_;refine BJ (n:=n+m) (p:=λc=>0<=iA (qt n m p O F b c) (λ_=>0) (p+n)) (e:=false) (λk hk=>?_);obtain⟨e,r⟩:=N8 h hL hk;have sg:=Zn r (by omega);rw[ct]at sg;refine aA Y<|aA e<|aA sg<|aA Y ?_;by_cases q:0<=iA (qt n m p O F b k) (λ_=>0) (p+n)
  ·rw[if_pos q];exact bJ (decide_eq_false (by omega)) Y
  rw[if_neg q];exact bP (decide_eq_true (by omega)) Y
 by_cases q:∀c,c<n+m->0<=iA (qt n m p O F b c) (λ_=>0) (p+n)
 ·rw[if_pos q,decide_eq_true q]
 rw[if_neg q,decide_eq_false q]
end tab
end
section
open Go.Fw
def lH(F:Nat->Nat->Rat)(r c i k:Nat):Rat:=if i=r then F r k/F r c else F i k-F i c*(F r k/F r c)
section tab
variable {L n m p:Nat}{O F:Nat->Nat->Rat}{b:Nat->Nat}
theorem N9(h:rA L n m p O F b){r c:Nat}(hr:r<m)(h0:F r c≠0){i:Nat}(hi:i<m)(k:Nat):FQ (4*L+1) (lH F r c i k):=by
 have e:=(h.f r hr k).div (h.f r hr c) h0;unfold lH;split
 ·exact e.mono (by omega)
 exact((h.f i hi k).sub ((h.f i hi c).mul e)).mono (by omega)
theorem S4(h:rA L n m p O F b){r i:Nat}(hr:r<m)(c:Nat)(hi:i<m){k:Nat}(hk:n+m+1<=k):lH F r c i k=0:=by
 unfold lH;rw[h.z r hr k hk,h.z i hi k hk];have e:(0:Rat)/F r c=0:=by rw[Rat.div_def,Rat.zero_mul]
 rw[e];split
 ·rfl
 grind
theorem It(h:rA L n m p O F b){r c:Nat}(hr:r<m)(hc:c<n+m)(h0:F r c≠0):rA (4*L+1) n m p O (lH F r c) (λj=>if j=r then c else b j):=
 ⟨λi hi k=>N9 h hr h0 hi k,λi hi k=>(h.o i hi k).mono (by omega),λi hi k hk=>S4 h hr c hi hk,by omega,h.hn,h.hm,h.hp,λj hj=>by
  show(if j=r then c else b j)<n+m;split
  ·exact hc
  exact h.hb j hj⟩
theorem QD(h:rA L n m p O F b)(hL:L<=100000000){r c:Nat}(hr:r<m)(hc:c<n+m+1)(h0:F r c≠0){o0:Bool}{o1:Int}{o2 rows:List (List Qr)}{o3:List Int}(hrow:rows[r]? =some (vq (n+m+1) (lH F r c r))){i:Nat}(hi:i<m)(hne:i≠r):
  jz o0 o1 o2 o3 rows (vq (n+m+1) (F i)) c r=some (vq (n+m+1) (lH F r c i)):=by
 have hm:=h.hm;have hn:=h.hn;have h1:=h.l1;have g1:(vq (n+m+1) (F i))[c]? =some (qn (F i c)):=lW hc;have rq:=(h.f i hi c).rep h1;have sg:=rq.sign (by omega);have ng:=rq.neg (by omega);have NX:r<rows.length:=(List.getElem?_eq_some_iff.1 hrow).1;have va:=S0 ng.2 (m8 (n:=n+m+1) (h:=lH F r c r) (λk _=>N9 h hr h0 hr k) (λk hk=>S4 h hr c hr hk) (show 1<=4*L+1 by omega)) (Zp h hi) (by omega) (by rw[ct];omega) (by rw[ct];omega);have e0:vq (max (vq (n+m+1) (lH F r c r)).length (vq (n+m+1) (F i)).length) (λk=>-F i c*lH F r c r k+F i k)=vq (n+m+1) (lH F r c i):=by
  rw[ct,ct,Nat.max_self];refine ic (λk _=>?_);unfold lH;rw[if_pos Y,if_neg hne];grind
 rw[e0]at va;replace va:=va.1;have same:F i c=0->vq (n+m+1) (F i)=vq (n+m+1) (lH F r c i):=λq=>ic (λk _=>by
  unfold lH;rw[if_neg hne,q];grind)
 have sgd:(some (decide (lf (F i c) 0=0)):Option Bool)=some (decide (F i c=0)):=by
  congr 1;by_cases q:F i c=0
  ·rw[decide_eq_true (show lf (F i c) 0=0 from jD.2 q),decide_eq_true q]
  rw[decide_eq_false (show ¬lf (F i c) 0=0 from λe=>q (jD.1 e)),decide_eq_false q]
 unfold jz;replace ng:=ng.1;generalize qn (F i c)=q at*;generalize qn (-F i c)=q' at*;obtain⟨⟨_,_⟩,⟨_,_⟩⟩:=q;obtain⟨⟨_,_⟩,⟨_,_⟩⟩:=q';refine aA (bL g1)<|aA sg<|aA sgd ?_;by_cases q:F i c=0
 ·rw[<-same q];exact bP (decide_eq_true q) Y
 exact bJ (decide_eq_false q)<|aA (bL g1)<|aA ng<|aA (cG NX)<|aA hrow<|aA va Y
theorem Oa{w r:Nat}{G:Nat->Nat->Rat}{f:Nat->Rat}(hr:r<m):(mq m (λ_=>w) G).set r (vq w f)=mq m (λ_=>w) (λi=>if i=r then f else G i):=by
 apply List.ext_getElem?;intro j;rw[List.getElem?_set,gK];by_cases hj:j<m
 ·rw[oE hj];by_cases e:r=j
  ·subst e;rw[if_pos Y,if_pos hr,oE hr,if_pos rfl]
  rw[if_neg e,oE hj,if_neg (λq=>e q.symm)]
 rw[List.getElem?_eq_none (l:=mq m _ _) (by rw[gK];omega),List.getElem?_eq_none (l:=mq m _ _) (by rw[gK];omega)];by_cases e:r=j
 ·rw[if_pos e,if_neg (by omega)]
 rw[if_neg e]
theorem VV(h:rA L n m p O F b)(hL:L<=100000000){r c:Nat}(hr:r<m)(hc:c<n+m+1)(h0:F r c≠0){o0:Bool}{o1:Int}{o2:List (List Qr)}{o3:List Int}:
  dz o0 o1 o2 o3 (mq m (λ_=>n+m+1) F) r c=some (o2,o3,mq m (λ_=>n+m+1) (lH F r c)):=by
 have hm:=h.hm;have hn:=h.hn;have h1:=h.l1;have g1:(mq m (λ_=>n+m+1) F)[r]? =some (vq (n+m+1) (F r)):=oE hr;have NX:r<(mq m (λ_=>n+m+1) F).length:=by rw[gK];exact hr
 have g2:(vq (n+m+1) (F r))[c]? =some (qn (F r c)):=lW hc;have dv:=one_eq.2.div ((h.f r hr c).rep h1) (by omega) h0;have sc:=(N2 dv.2 (Zp h hr) (by omega) (by rw[ct];omega)).1;rw[ct]at sc;have e0:vq (n+m+1) (λk=>1/F r c*F r k)=vq (n+m+1) (lH F r c r):=ic (λk _=>by
  unfold lH;rw[if_pos Y,Rat.div_def,Rat.div_def];grind)
 rw[e0]at sc;have st:=fG (y:=vq (n+m+1) (lH F r c r)) NX;rw[Oa hr]at st;have e1:=one_eq.1;replace dv:=dv.1;have loop:∀(o:List (List Qr)->Option ((List (List Qr))×(List Int)×(List (List Qr)))),o (mq m (λ_=>n+m+1) (lH F r c))=some (o2,o3,mq m (λ_=>n+m+1) (lH F r c))->((cy (λ(za:Int×(List (List Qr)))=>match za with|⟨oY,fY⟩=>(show Option ((Int×(List (List Qr)))⊕((List (List Qr))))from(some (decide ((oY:Int)<(m:Int)))).bind λSx=>(bif Sx then(oM fY oY).bind λy7=>(fY[y7]?).bind λEH=>(some (decide ((oY:Int)≠(r:Int)))).bind λJY=>cK (λ(tc:(List (List Qr)))=>(some (IntKind.i64.wrap (oY+1))).bind λPj=>some (.inl (Pj,tc))) λUW=>(bif JY then(jz o0 o1 o2 o3 fY EH c r).bind λKR=>(oM fY oY).bind λHA=>(stM fY HA KR).bind λYr=>UW Yr else UW fY)else some (.inr fY)))) (0,mq m (λ_=>n+m+1) (λi=>if i=r then lH F r c r else F i))).bind o)=some (o2,o3,mq m (λ_=>n+m+1) (lH F r c)):=λo ho=>by
  refine bN (λk=>((k:Int),mq m (λ_=>n+m+1) (λi=>if i=r\/i<k then lH F r c i else F i))) m (mq m (λ_=>n+m+1) (lH F r c)) ?_ (λk hk=>?_) ?_ ho
  ·refine Prod.ext Y (xk (λi hi=>⟨Y,λk _=>?_⟩));by_cases e:i=r
   ·subst e;simp
   simp[e]
  ·have gk:(mq m (λ_=>n+m+1) (λi=>if i=r\/i<k then lH F r c i else F i))[k]? =some (vq (n+m+1) (if k=r then lH F r c k else F k)):=by
    rw[oE hk];congr 2;by_cases e:k=r
    ·rw[if_pos (.inl e),if_pos e]
    rw[if_neg (by omega),if_neg e]
   have hl:(mq m (λ_=>n+m+1) (λi=>if i=r\/i<k then lH F r c i else F i)).length=m:=gK _ _ _;have gr:(mq m (λ_=>n+m+1) (λi=>if i=r\/i<k then lH F r c i else F i))[r]? =some (vq (n+m+1) (lH F r c r)):=by
    rw[oE hr,if_pos (.inl Y)]
   by_cases e:k=r
   ·have s:mq m (λ_=>n+m+1) (λi=>if i=r\/i<k then lH F r c i else F i)=mq m (λ_=>n+m+1) (λi=>if i=r\/i<k+1 then lH F r c i else F i):=xk (λi _=>⟨Y,λ_ _=>by
     by_cases q:i=r\/i<k
     ·rw[if_pos q,if_pos (by omega)]
     rw[if_neg q,if_neg (by omega)]⟩)
    show(some (decide ((k:Int)<(m:Int)))).bind _=_;refine aA (dT (by omega))<|bP Y<|aA (cG (by omega))<|aA gk<|aA (dF (by omega))<|bU<|bJ Y<|aA (congrArg some (bZ (by omega))) ?_;rw[s]
   rw[if_neg e]at gk;have rm:=QD h hL hr hc h0 (o0:=o0) (o1:=o1) (o2:=o2) (o3:=o3) gr hk e;have s:(mq m (λ_=>n+m+1) (λi=>if i=r\/i<k then lH F r c i else F i)).set k (vq (n+m+1) (lH F r c k))=mq m (λ_=>n+m+1) (λi=>if i=r\/i<k+1 then lH F r c i else F i):=by
    rw[Oa hk];refine xk (λi _=>⟨Y,λ_ _=>?_⟩);by_cases q:i=k
    ·subst q;rw[if_pos Y,if_pos (.inr (by omega))]
    rw[if_neg q];by_cases q2:i=r\/i<k
    ·rw[if_pos q2,if_pos (by omega)]
    rw[if_neg q2,if_neg (by omega)]
   rw[<-s];generalize mq m (λ_=>n+m+1) (λi=>if i=r\/i<k then lH F r c i else F i)=rows at*;show(some (decide ((k:Int)<(m:Int)))).bind _=_;exact aA (dT (by omega))<|bP Y<|aA (cG (by omega))<|aA gk<|aA (dT (by omega))<|bU<|bP Y<|aA rm<|aA (cG (by omega))<|aA (fG (by omega))<|aA (congrArg some (bZ (by omega))) Y
  have s:mq m (λ_=>n+m+1) (λi=>if i=r\/i<m then lH F r c i else F i)=mq m (λ_=>n+m+1) (lH F r c):=xk (λi hi=>⟨Y,λ_ _=>by rw[if_pos (.inr hi)]⟩);show(some (decide ((m:Int)<(m:Int)))).bind _=_;rw[s];exact aA (dF (by omega))<|bJ Y Y
 unfold dz;have scM:mO (vq (n+m+1) (F r)) (qn (1/F r c))=some (vq (n+m+1) (lH F r c r)):=by
  unfold mO;generalize qn (1/F r c)=q at*;obtain⟨⟨_,_⟩,⟨_,_⟩⟩:=q;exact aA sc Y
 generalize qn (1/F r c)=q3 at*;generalize qn (F r c)=q2 at*;generalize qn 1=q1 at*;obtain⟨⟨_,_⟩,⟨_,_⟩⟩:=q1;obtain⟨⟨_,_⟩,⟨_,_⟩⟩:=q2;obtain⟨⟨_,_⟩,⟨_,_⟩⟩:=q3;refine aA e1<|aA (cG NX)<|aA g1<|aA (bL g2)<|aA dv<|aA (cG NX)<|aA g1<|aA scM<|aA (cG NX)<|aA st<|aA (congrArg some (by rw[gK])) ?_;refine Eq.trans (congrArg (λG=>(cy _ ((0:Int),mq m (λ_=>n+m+1) G)).bind _) ?_) (loop _ Y);funext i;by_cases e:i=r
 ·rw[if_pos e]
 rw[if_neg e]
theorem Iu(h:rA L n m p O F b)(hL:L<=100000000){r c:Nat}(hr:r<m)(hc:c<n+m)(hb:∀j,j<m->b j≠c)(h0:F r c≠0):
  bD true n (mq p (λ_=>n) O) (bq m b) (mq m (λ_=>n+m+1) F) r c=some (0,mq p (λ_=>n) O,bq m (λj=>if j=r then c else b j),mq m (λ_=>n+m+1) (lH F r c)):=by
 have hm:=h.hm;have hn:=h.hn;have sv:=VV h hL hr (show c<n+m+1 by omega) h0 (o0:=true) (o1:=(n:Int)) (o2:=mq p (λ_=>n) O) (o3:=bq m b);have g1:(mq m (λ_=>n+m+1) F)[r]? =some (vq (n+m+1) (F r)):=oE hr;have g2:(vq (n+m+1) (F r))[c]? =some (qn (F r c)):=lW (by omega);have sg:=((h.f r hr c).rep h.l1).sign (by omega);have NX:r<(mq m (λ_=>n+m+1) F).length:=by rw[gK];exact hr
 have OW:=vN m b;have bs:=VT (b:=b) (c:=c) hr;have bg:∀j,j<m->(bq m b)[j]? =some ((b j:Nat):Int):=λj hj=>vO hj;have wd:eX (⟨true,(n:Int),mq p (λ_=>n) O,bq m b,mq m (λ_=>n+m+1) F⟩:Tb)=some ((n+m:Nat):Int):=EA hn hm;have ms:cH (⟨true,(n:Int),mq p (λ_=>n) O,bq m b,mq m (λ_=>n+m+1) F⟩:Tb)=some false:=lq n m p O F b;have rl:=gK m (λ_=>n+m+1) F;unfold bD;rw[<-bs];generalize bq m b=B at*;generalize mq m (λ_=>n+m+1) F=rows at*;refine aA ms<|bJ Y<|bU<|aA (dF (by omega))<|aA (a:=false) (bJ Y<|aA Y<|aA (dF (by omega)) Y)<|aA (a:=false) (bJ Y<|aA (dF (by omega)) Y)<|aA (a:=false) (bJ Y<|aA wd<|aA (dF (by omega)) Y)<|bJ Y<|aA Y ?_;refine bN (λk=>(k:Int)) m (.inl ()) Y (λk hk=>?_) ?_ ?_
 ·exact aA (dT (by omega))<|bP Y<|aA (cG (by omega))<|aA (bg k hk)<|aA (dF (by have:=hb k hk;omega))<|bJ Y<|aA (congrArg some (bZ (by omega))) Y
 ·exact aA (dF (by omega))<|bJ Y Y
 generalize qn (F r c)=q at*;obtain⟨⟨_,_⟩,⟨_,_⟩⟩:=q;exact aA (cG NX)<|aA g1<|aA (bL g2)<|aA sg<|aA (dF (λe=>h0 (jD.1 e)))<|bJ Y<|aA sv<|aA (cG (by omega))<|aA (fG (by omega)) Y
end tab
def m9(n m:Nat)(R:Nat->Nat->Rat)(g:Nat->Rat)(i k:Nat):Rat:=if k<n then R i k else if k=n+i then 1 else if k=n+m then g i else 0
theorem JD(k w:Nat)(G:Nat->Nat->Rat):mq (k+1) (λ_=>w) G=mq k (λ_=>w) G++[vq w (G k)]:=by simp[mq,List.range_succ]
section new
variable {L M K n:Nat}{ob rw:List (List Qr)}{bd:List Qr}{O R:Nat->Nat->Rat}{g:Nat->Rat}
theorem Ob{m i:Nat}(hi:i<m):(λj=>if j=n+m then g i else if j=n+i then(1:Rat)else if j<n then R i j else 0)=m9 n m R g i:=by
 funext j;unfold m9;by_cases h1:j<n
 ·rw[if_neg (by omega),if_neg (by omega),if_pos h1,if_pos h1]
 rw[if_neg h1,if_neg h1];by_cases h2:j=n+i
 ·rw[if_neg (by omega),if_pos h2,if_pos h2]
 rw[if_neg h2,if_neg h2]
theorem agd(ho:uC M ob O)(hr:uC L rw R)(hb:dI K bd g)(hM:M<=4000000000)(hL:L<=4000000000)(hK:K<=4000000000)(hv:BU n ob rw bd):
  dW ⟨(n:Int),ob,rw,bd⟩=some (true,(n:Int),mq ob.length (λ_=>n) O,bq rw.length (λj=>n+j),mq rw.length (λ_=>n+rw.length+1) (m9 n rw.length R g)):=by
 obtain⟨v1,v2,v3,v4,v5,v6,v7,v8⟩:=hv;have n64:n<=64:=by omega
 have age:∀v∈ob,v.length<=n:=qo.1 (by omega);unfold dW;refine aA Y ?_;refine bN (λk=>((k:Int),mq k (λ_=>n) O)) ob.length (mq ob.length (λ_=>n) O) Y (λk hk=>?_) ?_ ?_
 ·have g1:=ew (d:=[]) hk;have rs:=Qv (ho.row k) (by omega) (by have:=age _ (List.mem_of_getElem? g1);omega) (n:Int);rw[show(min (n:Int) 65536).toNat=n by omega]at rs;refine aA (dT (by omega))<|bP Y<|aA (bL g1)<|aA rs<|aA (Cz (by decide) (by rw[gK];omega))<|aA (congrArg some (bZ (by omega))) ?_;rw[JD]
 ·exact aA (dF (by omega))<|bJ Y Y
 refine aA Y ?_;refine bN (λk=>((k:Int),bq k (λj=>n+j),mq k (λ_=>n+rw.length+1) (m9 n rw.length R g))) rw.length (bq rw.length (λj=>n+j),mq rw.length (λ_=>n+rw.length+1) (m9 n rw.length R g)) Y (λi hi=>?_) (aA (dF (by omega))<|bJ Y Y) Y;obtain⟨q,hq,rq⟩:=hb.get (i:=i) (by omega);have cn:=(rq.canon (by omega)).1;have e1:=one_eq.1;have wl:IntKind.i64.wrap ((n:Int)+(rw.length:Int))=((n+rw.length:Nat):Int):=by rw[cU (by omega) (by omega)];omega
 have wl2:IntKind.i64.wrap (((n+rw.length:Nat):Int)+1)=((n+rw.length+1:Nat):Int):=bZ (by omega);have wi:IntKind.i64.wrap ((n:Int)+(i:Int))=((n+i:Nat):Int):=by rw[cU (by omega) (by omega)];omega
 refine aA (dT (by omega))<|bP Y<|aA Y<|aA (congrArg some wl)<|aA (congrArg some wl2)<|aA (KE (n+rw.length+1) (by omega)) ?_;rw[z5];refine bN (λk=>((k:Int),vq (n+rw.length+1) (λj=>if j<k then R i j else 0))) n (vq (n+rw.length+1) (λj=>if j<n then R i j else 0)) (by simp) (λk hk=>?_) (aA (dF (by omega))<|bJ Y Y) ?_
 ·have at_:=VQ hr (by omega) i k;have s:=qp (k:=n+rw.length+1) (j:=k) (h:=λj=>if j<k then R i j else 0) (x:=R i k) (by omega);have s2:vq (n+rw.length+1) (λj=>if j=k then R i k else if j<k then R i j else 0)=vq (n+rw.length+1) (λj=>if j<k+1 then R i j else 0):=ic (λj _=>by
   by_cases e:j=k
   ·subst e;simp
   rw[if_neg e];by_cases e2:j<k
   ·rw[if_pos e2,if_pos (by omega)]
   rw[if_neg e2,if_neg (by omega)])
  rw[s2]at s;have hl:=ct (n+rw.length+1) (λj=>if j<k then R i j else 0);rw[<-s];generalize vq (n+rw.length+1) (λj=>if j<k then R i j else 0)=l at*;clear s s2;generalize qn (R i k)=q at*;obtain⟨⟨_,_⟩,⟨_,_⟩⟩:=q;exact aA (dT (by omega))<|bP Y<|aA at_<|aA (cG (by omega))<|aA (fG (by omega))<|aA (congrArg some (bZ (by omega))) Y
 have s1:=qp (k:=n+rw.length+1) (j:=n+i) (h:=λj=>if j<n then R i j else 0) (x:=1) (by omega);have s2:=qp (k:=n+rw.length+1) (j:=n+rw.length) (h:=λj=>if j=n+i then 1 else if j<n then R i j else 0) (x:=g i) (by omega);rw[Ob hi]at s2;have Th:=ct (n+rw.length+1) (λj=>if j<n then R i j else 0);have ZC:=ct (n+rw.length+1) (λj=>if j=n+i then 1 else if j<n then R i j else 0);have b1:=vN i (λj=>n+j);have b2:=QB i (λj=>n+j);have m1:=gK i (λ_=>n+rw.length+1) (m9 n rw.length R g);have m2:=JD i (n+rw.length+1) (m9 n rw.length R g);have st1:=fG (y:=qn 1) (show n+i<(vq (n+rw.length+1) (λj=>if j<n then R i j else 0)).length by omega);have st2:=fG (y:=qn (g i)) (show n+rw.length<(vq (n+rw.length+1) (λj=>if j=n+i then 1 else if j<n then R i j else 0)).length by omega);rw[s1]at st1;rw[s2]at st2;generalize vq (n+rw.length+1) (λj=>if j<n then R i j else 0)=l1 at*;generalize vq (n+rw.length+1) (λj=>if j=n+i then 1 else if j<n then R i j else 0)=l2 at*;generalize vq (n+rw.length+1) (m9 n rw.length R g i)=l3 at*;generalize qn (g i)=q' at*;generalize qn 1=q1 at*;obtain⟨⟨_,_⟩,⟨_,_⟩⟩:=q;obtain⟨⟨_,_⟩,⟨_,_⟩⟩:=q';obtain⟨⟨_,_⟩,⟨_,_⟩⟩:=q1
 refine aA (congrArg some wi)<|aA e1<|aA (cG (by omega))<|aA st1<|aA Y<|aA (congrArg some (show IntKind.i64.wrap ((l2.length:Int)-1)=((n+rw.length:Nat):Int) by rw[ZC,cU (by omega) (by omega)];omega))<|aA (bL hq)<|aA cn<|aA (cG (by omega))<|aA st2<|aA (Cz (by decide) (by omega))<|aA (congrArg some wi)<|aA (Cz (by decide) (by omega))<|aA (congrArg some (bZ (by omega))) ?_;rw[b2,m2]
theorem JE(ho:uC L ob O)(hr:uC L rw R)(hb:dI L bd g)(hL:2<=L)(hv:BU n ob rw bd):rA L n rw.length ob.length O (m9 n rw.length R g) (λj=>n+j):=by
 obtain⟨v1,v2,v3,v4,v5,v6,v7,v8⟩:=hv;refine⟨λi hi k=>?_,λi hi k=>(ho.row i).fq k,λi hi k hk=>?_,by omega,by omega,by omega,by omega,λj hj=>by show n+j<_;omega⟩
 ·unfold m9;split
  ·exact(hr.row i).fq k
  split
  ·exact one_eq.2.fq.mono hL
  split
  ·exact hb.fq i
  exact uf (by omega)
 unfold m9;rw[if_neg (by omega),if_neg (by omega),if_neg (by omega)]
theorem Zq(ho:uC M ob O)(hr:uC L rw R)(hb:dI K bd g)(hM:M<=4000000000)(hL:L<=4000000000)(hK:K<=4000000000)(hv:BU n ob rw bd):
  gG ⟨(n:Int),ob,rw,bd⟩=some (true,(n:Int),mq ob.length (λ_=>n) O,bq rw.length (λj=>n+j),mq rw.length (λ_=>n+rw.length+1) (m9 n rw.length R g)):=by
 have v:=BK (n:=(n:Int)) (ob:=ob) (rw:=rw) (bd:=bd) (by obtain⟨_,_,_,h,_⟩:=hv;omega) (by obtain⟨_,_,_,_,h,_⟩:=hv;omega);rw[decide_eq_true hv]at v;unfold gG;exact aA v<|aA Y<|bJ Y<|aA (agd ho hr hb hM hL hK hv) Y
end new
end
section
open Go.Fw
theorem vP(h:Nat->Rat)(n:Nat):∀m,bX h (n+m)=bX h n+bX (λj=>h (n+j)) m
 |0=>by show bX h n=bX h n+0;grind
 |m+1=>by
  show bX h (n+m)+h (n+m)=bX h n+(bX (λj=>h (n+j)) m+h (n+m));rw[vP h n m];grind
theorem yq(h:Nat->Nat->Rat)(m:Nat):∀n,bX (λi=>bX (λj=>h i j) m) n=bX (λj=>bX (λi=>h i j) n) m
 |0=>by
  show(0:Rat)=bX (λj=>(0:Rat)) m;rw[kx]
 |n+1=>by
  show bX (λi=>bX (λj=>h i j) m) n+bX (λj=>h n j) m=bX (λj=>bX (λi=>h i j) n+h n j) m;rw[yq h m n,G0]
def G7(n m:Nat)(F:Nat->Nat->Rat)(z:Nat->Rat):Prop:=∀i,i<m->bX (λk=>F i k*z k) (n+m)=F i (n+m)
def Uc(m:Nat)(F:Nat->Nat->Rat)(b:Nat->Nat):Prop:=∀i j,i<m->j<m->F i (b j)=if i=j then 1 else 0
section lH
variable {n m r c:Nat}{F:Nat->Nat->Rat}{b:Nat->Nat}{z:Nat->Rat}
theorem Df(N:Nat):bX (λk=>lH F r c r k*z k) N=(F r c)⁻¹*bX (λk=>F r k*z k) N:=by
 rw[<-oB];refine cA (λk _=>?_);unfold lH;rw[if_pos Y,Rat.div_def];grind
theorem Dg{i:Nat}(hne:i≠r)(N:Nat):bX (λk=>lH F r c i k*z k) N=bX (λk=>F i k*z k) N-F i c*((F r c)⁻¹*bX (λk=>F r k*z k) N):=by
 rw[<-oB,<-oB,<-BH];refine cA (λk _=>?_);unfold lH;rw[if_neg hne,Rat.div_def];grind
theorem QE(hr:r<m)(h0:F r c≠0):G7 n m (lH F r c) z↔G7 n m F z:=by
 have hi:F r c*(F r c)⁻¹=1:=Rat.mul_inv_cancel _ h0;have pr:lH F r c r (n+m)=(F r c)⁻¹*F r (n+m):=by unfold lH;rw[if_pos Y,Rat.div_def];grind
 have pi:∀i,i≠r->lH F r c i (n+m)=F i (n+m)-F i c*((F r c)⁻¹*F r (n+m)):=λi h=>by unfold lH;rw[if_neg h,Rat.div_def];grind
 constructor
 ·intro h;have e:=h r hr;rw[Df,pr]at e;have er:bX (λk=>F r k*z k) (n+m)=F r (n+m):=by
   have:=congrArg (λx=>F r c*x) e;simp only[<-Rat.mul_assoc,hi,Rat.one_mul]at this;exact this
  intro i hi';by_cases q:i=r
  ·subst q;exact er
  have e2:=h i hi';rw[Dg q,pi i q,er]at e2;grind
 intro h i hi';by_cases q:i=r
 ·subst q;rw[Df,pr,h _ hi']
 rw[Dg q,pi i q,h i hi',h r hr]
theorem Od(hr:r<m)(h0:F r c≠0)(hu:Uc m F b):Uc m (lH F r c) (λj=>if j=r then c else b j):=by
 have hi:F r c*(F r c)⁻¹=1:=Rat.mul_inv_cancel _ h0;intro i j hi' hj;show lH F r c i (if j=r then c else b j)=_;by_cases e:j=r
 ·subst e;rw[if_pos rfl];unfold lH;by_cases q:i=j
  ·subst q;rw[if_pos Y,if_pos Y,Rat.div_def];exact hi
  rw[if_neg q,if_neg q,Rat.div_def,hi];grind
 rw[if_neg e];have z0:F r (b j)=0:=by rw[hu r j hr hj,if_neg (λq=>e q.symm)]
 unfold lH;rw[z0];by_cases q:i=r
 ·subst q;rw[if_pos Y,if_neg (λq=>e q.symm),Rat.div_def];grind
 rw[if_neg q,hu i j hi' hj,Rat.div_def];grind
theorem Oe(hu:Uc m F b){i j:Nat}(hi:i<m)(hj:j<m)(e:b i=b j):i=j:=by
 by_cases q:i=j
 ·exact q
 have h1:=hu i i hi hi;have h2:=hu i j hi hj;rw[if_pos rfl]at h1;rw[if_neg q,<-e,h1]at h2;exact absurd h2 (by decide)
end lH
theorem rA.mono{L M n m p:Nat}{O F:Nat->Nat->Rat}{b:Nat->Nat}(h:rA L n m p O F b)(hl:L<=M):rA M n m p O F b:=
 ⟨λi hi k=>(h.f i hi k).mono hl,λi hi k=>(h.o i hi k).mono hl,h.z,Nat.le_trans h.l1 hl,h.hn,h.hm,h.hp,h.hb⟩
theorem Iv{L n m p:Nat}{O F:Nat->Nat->Rat}{b:Nat->Nat}(h:rA L n m p O F b)(hL:L<=100000000)(hu:Uc m F b)(r c:Int):∃e F' b',
  bD true n (mq p (λ_=>n) O) (bq m b) (mq m (λ_=>n+m+1) F) r c=some (e,mq p (λ_=>n) O,bq m b',mq m (λ_=>n+m+1) F')/\rA (4*L+1) n m p O F' b'/\Uc m F' b'/\∀z,G7 n m F' z↔G7 n m F z:=by
 have hm:=h.hm;have hn:=h.hn;have same:∀e,bD true n (mq p (λ_=>n) O) (bq m b) (mq m (λ_=>n+m+1) F) r c=some (e,mq p (λ_=>n) O,bq m b,mq m (λ_=>n+m+1) F)->∃e F' b',bD true n (mq p (λ_=>n) O) (bq m b) (mq m (λ_=>n+m+1) F) r c=some (e,mq p (λ_=>n) O,bq m b',mq m (λ_=>n+m+1) F')/\rA (4*L+1) n m p O F' b'/\Uc m F' b'/\∀z,G7 n m F' z↔G7 n m F z:=
  λe he=>⟨e,F,b,he,h.mono (by omega),hu,λ_=>Iff.rfl⟩
 have wd:eX (⟨true,(n:Int),mq p (λ_=>n) O,bq m b,mq m (λ_=>n+m+1) F⟩:Tb)=some ((n+m:Nat):Int):=EA hn hm;have ms:cH (⟨true,(n:Int),mq p (λ_=>n) O,bq m b,mq m (λ_=>n+m+1) F⟩:Tb)=some false:=lq n m p O F b;have rl:=gK m (λ_=>n+m+1) F;by_cases h1:r<0
 ·refine same 1 ?_;unfold bD;exact aA ms<|bJ Y<|bU<|aA (dT h1)<|aA (a:=true) (bP Y Y)<|aA (a:=true) (bP Y Y)<|aA (a:=true) (bP Y Y)<|bP Y Y
 by_cases h2:(m:Int)<=r
 ·refine same 1 ?_;unfold bD;exact aA ms<|bJ Y<|bU<|aA (dF h1)<|aA (a:=true) (bJ Y<|aA Y<|aA (dT (by omega)) Y)<|aA (a:=true) (bP Y Y)<|aA (a:=true) (bP Y Y)<|bP Y Y
 by_cases h3:c<0
 ·refine same 1 ?_;unfold bD;exact aA ms<|bJ Y<|bU<|aA (dF h1)<|aA (a:=false) (bJ Y<|aA Y<|aA (dF (by omega)) Y)<|aA (a:=true) (bJ Y<|aA (dT h3) Y)<|aA (a:=true) (bP Y Y)<|bP Y Y
 by_cases h4:((n+m:Nat):Int)<=c
 ·refine same 1 ?_;unfold bD;exact aA ms<|bJ Y<|bU<|aA (dF h1)<|aA (a:=false) (bJ Y<|aA Y<|aA (dF (by omega)) Y)<|aA (a:=false) (bJ Y<|aA (dF h3) Y)<|aA (a:=true) (bJ Y<|aA wd<|aA (dT h4) Y)<|bP Y Y
 obtain⟨r,rfl⟩:∃k:Nat,r=(k:Int):=⟨r.toNat,by omega⟩;obtain⟨c,rfl⟩:∃k:Nat,c=(k:Int):=⟨c.toNat,by omega⟩;have hr:r<m:=by omega
 have hc:c<n+m:=by omega
 have g1:(mq m (λ_=>n+m+1) F)[r]? =some (vq (n+m+1) (F r)):=oE hr;have g2:(vq (n+m+1) (F r))[c]? =some (qn (F r c)):=lW (by omega);have sg:=((h.f r hr c).rep h.l1).sign (by omega);have NX:r<(mq m (λ_=>n+m+1) F).length:=by rw[gK];exact hr
 have OW:=vN m b;have bg:∀j,j<m->(bq m b)[j]? =some ((b j:Nat):Int):=λj hj=>vO hj;by_cases h5:∀j,j<m->b j≠c
 ·by_cases h6:F r c=0
  ·refine same 7 ?_;unfold bD;generalize bq m b=B at*;generalize mq m (λ_=>n+m+1) F=rows at*;refine aA ms<|bJ Y<|bU<|aA (dF (by omega))<|aA (a:=false) (bJ Y<|aA Y<|aA (dF (by omega)) Y)<|aA (a:=false) (bJ Y<|aA (dF (by omega)) Y)<|aA (a:=false) (bJ Y<|aA wd<|aA (dF (by omega)) Y)<|bJ Y<|aA Y ?_;refine bN (λk=>(k:Int)) m (.inl ()) Y (λk hk=>?_) ?_ ?_
   ·exact aA (dT (by omega))<|bP Y<|aA (cG (by omega))<|aA (bg k hk)<|aA (dF (by have:=h5 k hk;omega))<|bJ Y<|aA (congrArg some (bZ (by omega))) Y
   ·exact aA (dF (by omega))<|bJ Y Y
   generalize qn (F r c)=q at*;obtain⟨⟨_,_⟩,⟨_,_⟩⟩:=q;exact aA (cG NX)<|aA g1<|aA (bL g2)<|aA sg<|aA (dT (jD.2 h6))<|bP Y Y
  exact⟨0,_,_,Iu h hL hr hc h5 h6,It h hr hc h6,Od hr h6 hu,λz=>QE hr h6⟩
 refine same 1 ?_;unfold bD;generalize bq m b=B at*;generalize mq m (λ_=>n+m+1) F=rows at*;refine aA ms<|bJ Y<|bU<|aA (dF (by omega))<|aA (a:=false) (bJ Y<|aA Y<|aA (dF (by omega)) Y)<|aA (a:=false) (bJ Y<|aA (dF (by omega)) Y)<|aA (a:=false) (bJ Y<|aA wd<|aA (dF (by omega)) Y)<|bJ Y<|aA Y ?_;refine aA (ug (n:=m) (p:=λj=>b j≠c) (e:=(1,mq p (λ_=>n) O,B,rows)) (λk hk=>?_) (aA (dF (by omega))<|bJ Y Y)) ?_
 ·refine aA (dT (by omega))<|bP Y<|aA (cG (by omega))<|aA (bg k hk)<|aA Y ?_;by_cases q:b k=c
  ·rw[if_neg (λe=>e q)];exact bP (decide_eq_true (show((b k:Nat):Int)=(c:Int) by omega)) Y
  rw[if_pos q];exact bJ (decide_eq_false (show ¬((b k:Nat):Int)=(c:Int) by omega))<|aA (congrArg some (bZ (by omega))) Y
 rw[if_neg h5]
end
section
open Go.Fw
theorem Of(k:List Int):EG (List.replicate k.length 0) k=k:=by unfold EG;simp
theorem VW{n m p:Nat}{O F:Nat->Nat->Rat}{b:Nat->Nat}(hm:m<=128):jq (Is n m p O F b)=some (bq m b):=by
 unfold jq;refine aA (lq n m p O F b)<|bJ Y<|aA Y<|aA (q9 (n:=(bq m b).length) (by decide) (by rw[vN];omega)) ?_;show some (EG (List.replicate (bq m b).length 0) (bq m b))=_;rw[Of]
theorem KH(l:List Int)(h:l.length<=1000000):kX l l=some true:=by
 unfold kX;refine aA Y<|aA Y<|aA (dF (by simp))<|bJ Y ?_;refine bN (λk=>(k:Int)) l.length (.inl ()) Y (λk hk=>?_) (aA Y<|aA (dF (by omega))<|bJ Y Y) Y;have g:=List.getElem?_eq_getElem hk;exact aA Y<|aA (dT (by omega))<|bP Y<|aA (bL g)<|aA (bL g)<|aA (dF (by simp))<|bJ Y<|aA (congrArg some (bZ (by omega))) Y
def QF(i j:Nat):Rat:=(((([[3,5]]:List (List Int)).getD i []).getD j 0:Int):Rat)
def exR(i j:Nat):Rat:=(((([[1,0],[0,2],[3,2]]:List (List Int)).getD i []).getD j 0:Int):Rat)
def exG(i:Nat):Rat:=((([4,12,18]:List Int).getD i 0:Int):Rat)
def KI:Nat->Nat->Rat:=m9 2 3 exR exG
def Og:Nat->Nat->Rat:=lH KI 1 1
def VX:Nat->Nat->Rat:=lH Og 2 0
def Oh(j:Nat):Nat:=2+j
def QG(j:Nat):Nat:=if j=1 then 1 else Oh j
def VY(j:Nat):Nat:=if j=2 then 0 else QG j
theorem wj{L n:Nat}{f:Nat->Rat}{v:List Qr}{k:Nat->Rat}(h:∀i,i<n->FQ L (f i))(h1:1<=L)(hL:L<=1000000000)(hv:dI 2 v k)(hn:v.length=n)(e:∀i,i<n->f i=k i):dy (vq n f) v=some true:=by
 have:=veq (QA h h1) hv (by omega);rw[this,ct,hn,Nat.max_self,decide_eq_true (λi hi=>by rw[Ez hi];exact e i hi)]
set_option maxRecDepth 100000 in
theorem Iw:ei=some true:=by
 obtain⟨eo,ro⟩:=S3 (l:=[[3,5]]) (by decide) (by decide);obtain⟨er,rr⟩:=S3 (l:=[[1,0],[0,2],[3,2]]) (by decide) (by decide);obtain⟨eb,rb⟩:=xh (l:=[4,12,18]) (by decide) (by decide);obtain⟨i1,q1⟩:=xh (l:=[-3,1,0]) (by decide) (by decide);obtain⟨i2,q2⟩:=xh (l:=[4,6,6]) (by decide) (by decide);obtain⟨i3,q3⟩:=xh (l:=[30,0,-6]) (by decide) (by decide);obtain⟨i4,q4⟩:=xh (l:=[2,6,2]) (by decide) (by decide);obtain⟨i5,q5⟩:=xh (l:=[2,6]) (by decide) (by decide);obtain⟨i6,q6⟩:=xh (l:=[36,-2,-6]) (by decide) (by decide);have l0:(vq [(4:Int),12,18].length (λi=>(([(4:Int),12,18].getD i 0:Int):Rat))).length=3:=ct _ _;have l1:(vq [(-3:Int),1,0].length (λi=>(([(-3:Int),1,0].getD i 0:Int):Rat))).length=3:=ct _ _;have l2:(vq [(4:Int),6,6].length (λi=>(([(4:Int),6,6].getD i 0:Int):Rat))).length=3:=ct _ _;have l3:(vq [(30:Int),0,-6].length (λi=>(([(30:Int),0,-6].getD i 0:Int):Rat))).length=3:=ct _ _;have l4:(vq [(2:Int),6,2].length (λi=>(([(2:Int),6,2].getD i 0:Int):Rat))).length=3:=ct _ _;have l5:(vq [(2:Int),6].length (λi=>(([(2:Int),6].getD i 0:Int):Rat))).length=2:=ct _ _;have l6:(vq [(36:Int),-2,-6].length (λi=>(([(36:Int),-2,-6].getD i 0:Int):Rat))).length=3:=ct _ _
 generalize hmo:mq [[(3:Int),5]].length _ _=mo at eo ro;generalize hmr:mq [[(1:Int),0],[0,2],[3,2]].length _ _=mr at er rr;generalize vq [(4:Int),12,18].length _=vb at eb rb l0;generalize vq [(-3:Int),1,0].length _=v1 at i1 q1 l1;generalize vq [(4:Int),6,6].length _=v2 at i2 q2 l2;generalize vq [(30:Int),0,-6].length _=v3 at i3 q3 l3;generalize vq [(2:Int),6,2].length _=v4 at i4 q4 l4;generalize vq [(2:Int),6].length _=v5 at i5 q5 l5;generalize vq [(36:Int),-2,-6].length _=v6 at i6 q6 l6;have lo:mo.length=1:=by rw[<-hmo,gK];rfl
 have lr:mr.length=3:=by rw[<-hmr,gK];rfl
 have wo:∀v∈mo,v.length<=2:=by rw[<-hmo];decide+kernel
 have wr:∀v∈mr,v.length<=2:=by rw[<-hmr];decide+kernel
 have co:qm mo<=2:=qo.2 wo;have cr:qm mr<=2:=qo.2 wr;have hv:BU ((2:Nat):Int) mo mr vb:=⟨by decide,by decide,by omega,by omega,by omega,by omega,by omega,by omega⟩;have eN:=Zq (n:=2) ro rr rb (by decide) (by decide) (by decide) hv;have k0:=JE (n:=2) ro rr rb (by decide) hv;rw[lo,lr]at eN k0;have k0:rA 2 2 3 1 QF KI Oh:=k0;have eN:gG ⟨2,mo,mr,vb⟩=some (true,2,mq 1 (λ_=>2) QF,bq 3 Oh,mq 3 (λ_=>6) KI):=eN;have p1:KI 1 1≠0:=by decide+kernel
 have p2:Og 2 0≠0:=by decide+kernel
 have k1:rA 9 2 3 1 QF Og QG:=It k0 (r:=1) (c:=1) (by decide) (by decide) p1;have k2:rA 37 2 3 1 QF VX VY:=It k1 (r:=2) (c:=0) (by decide) (by decide) p2;have t1:bD true 2 (mq 1 (λ_=>2) QF) (bq 3 Oh) (mq 3 (λ_=>6) KI) 1 1=some (0,mq 1 (λ_=>2) QF,bq 3 QG,mq 3 (λ_=>6) Og):=Iu k0 (by decide) (r:=1) (c:=1) (by decide) (by decide) (by decide+kernel) p1;have t2:bD true 2 (mq 1 (λ_=>2) QF) (bq 3 QG) (mq 3 (λ_=>6) Og) 2 0=some (0,mq 1 (λ_=>2) QF,bq 3 VY,mq 3 (λ_=>6) VX):=Iu k1 (by decide) (r:=2) (c:=0) (by decide) (by decide) (by decide+kernel) p2;have a0:jq (Is 2 3 1 QF KI Oh)=some [2,3,4]:=VW (by decide);have a0':=KH [2,3,4] (by decide);have a1:=KG k0 (by decide);have b1:=wj (λi hi=>k0.f i hi 5) (by decide) (by decide) rb l0 (by decide+kernel);have a2:=(N8 k0 (by decide) (c:=0) (by decide)).1;have b2:=wj (λi (_:i<3)=>(N8 k0 (by decide) (c:=0) (by decide)).2.fq i) (by decide) (by decide) q1 l1 (by decide+kernel);have a3:=KG k1 (by decide);have b3:=wj (λi hi=>k1.f i hi 5) (by decide) (by decide) q2 l2 (by decide+kernel);have a4:=EB k1 (by decide);have b4:=wj (λi (_:i<3)=>z6 k1 (λj hj=>k1.f j hj 5) 3 (Nat.le_refl _) i) (by decide) (by decide) q3 l3 (by decide+kernel)
 have a5:=BM k1 (by decide);rw[decide_eq_false (by decide+kernel)]at a5;have a6:=KG k2 (by decide);have b6:=wj (λi hi=>k2.f i hi 5) (by decide) (by decide) q4 l4 (by decide+kernel);have a7:=Dd k2 (by decide);have s7:∀i,i<2->FQ 37 (gL 2 3 VX VY 3 i):=λi hi=>by
  match i,hi with
  |0,_=>exact k2.f 2 (by decide) 5
  |1,_=>exact k2.f 1 (by decide) 5
 have b7:=wj s7 (by decide) (by decide) q5 l5 (by decide+kernel);have a8:=EB k2 (by decide);have b8:=wj (λi (_:i<3)=>z6 k2 (λj hj=>k2.f j hj 5) 3 (Nat.le_refl _) i) (by decide) (by decide) q6 l6 (by decide+kernel);have a9:=BM k2 (by decide);rw[decide_eq_true (by decide+kernel)]at a9;have TH:=De k2 (by decide);rw[decide_eq_true (by decide+kernel)]at TH;unfold ei l8;refine aA (aA eo<|aA er<|aA eb Y)<|aA eN<|bU ?_;refine aA (a:=false) (bJ Y Y)<|aA (a:=false) (bJ Y<|aA a0<|aA a0'<|aA Y Y)<|aA (a:=false) (bJ Y<|aA a1<|aA eb<|aA b1<|aA Y Y)<|aA (a:=false) (bJ Y<|aA a2<|aA i1<|aA b2<|aA Y Y)<|bJ Y<|aA t1<|bU ?_;refine aA (dF (by decide))<|aA (a:=false) (bJ Y<|aA a3<|aA i2<|aA b3<|aA Y Y)<|aA (a:=false) (bJ Y<|aA a4<|aA i3<|aA b4<|aA Y Y)<|aA (a:=false) (bJ Y<|aA a5 Y)<|bJ Y<|aA t2<|bU ?_;exact aA (dT Y)<|Iq (aA a6<|aA i4<|aA b6 Y)<|Iq (aA a7<|aA i5<|aA b7 Y)<|Iq (aA a8<|aA i6<|aA b8 Y)<|Iq (aA a9 Y)<|Iq (aA TH Y) Y
end
section
open Go.Fw
theorem Oi{l:List (List Qr)}{i:Nat}{P:List Qr->Prop}(hi:i<l.length)(ht:∀v∈l.take i,P v)(hp:P l[i]):∀v∈l.take (i+1),P v:=by
 rw[List.take_add_one,List.getElem?_eq_getElem hi];intro u hu;rcases List.mem_append.1 hu with h|h
 ·exact ht u h
 simp at h;rw[h];exact hp
abbrev Zs(v:List Qr):Prop:=v.length<=20/\∀q∈v,q.num.w.length<=6/\q.den.w.length<=6
abbrev Sm8(v:List Qr):Prop:=v.length<=8/\∀q∈v,q.num.w.length<=6/\q.den.w.length<=6
theorem BN(l:List (List Qr))(hl:l.length<=9223372036854775807):∃b,gy l=some b/\(b=false->∀v∈l,Zs v):=by
 unfold gy;refine nG (λy=>∃i:Nat,y=(i:Int)/\i<=l.length/\∀v∈l.take i,Zs v) (λe=>(∃c,e=.inl c/\∀v∈l,Zs v)\/e=.inr true) (λy=>l.length-y.toNat) ?_ ⟨0,Y,by omega,by simp⟩ ?_
 ·rintro _ ⟨i,rfl,hi,ht⟩;by_cases hlt:i<l.length
  ·have g:=List.getElem?_eq_getElem hlt;by_cases h1:20<l[i].length
   ·exact .inr ⟨.inr true,aA Y<|aA (dT (by omega))<|bP Y<|bU<|aA (bL g)<|aA Y<|aA (dT (by omega))<|aA (a:=true) (bP Y Y) Y,.inr Y⟩
   obtain⟨b,hb,hs⟩:=N3 l[i] (by omega);cases b
   ·refine .inl ⟨((i+1:Nat):Int),?_,⟨i+1,Y,hlt,Oi hlt ht ⟨by omega,hs Y⟩⟩,by simp only[Int.toNat_natCast];omega⟩;exact aA Y<|aA (dT (by omega))<|bP Y<|bU<|aA (bL g)<|aA Y<|aA (dF (by omega))<|aA (a:=false) (bJ Y<|aA (bL g)<|aA hb Y)<|bJ Y<|aA (congrArg some (bZ (by omega))) Y
   exact .inr ⟨.inr true,aA Y<|aA (dT (by omega))<|bP Y<|bU<|aA (bL g)<|aA Y<|aA (dF (by omega))<|aA (a:=true) (bJ Y<|aA (bL g)<|aA hb Y) Y,.inr Y⟩
  refine .inr ⟨.inl (),?_,.inl ⟨(),Y,?_⟩⟩
  ·exact aA Y<|aA (dF (by omega))<|bJ Y Y
  rw[List.take_of_length_le (by omega)]at ht;exact ht
 rintro e (⟨c,rfl,he⟩|rfl)
 ·exact⟨false,Y,λ_=>he⟩
 exact⟨true,rfl,λh=>by cases h⟩
theorem JF(m:List (List Qr))(h:m.length<=9223372036854775806):jA m=some (qm m:Int):=by
 unfold jA;refine bN (λj=>(((m.take j).foldl (λn v=>max n v.length) 0:Nat),(j:Int))) m.length ((qm m:Nat):Int) (by simp) (λj hj=>?_) ?_ Y
 ·refine aA Y<|aA (dT (by omega))<|bP Y<|aA (bL (List.getElem?_eq_getElem hj))<|aA Y<|aA Y<|aA (congrArg some (bZ (by omega))) ?_;rw[List.take_add_one,List.getElem?_eq_getElem hj,List.foldl_append];simp only[Option.toList_some,List.foldl_cons,List.foldl_nil];congr 3;omega
 refine aA Y<|aA (dF (by omega))<|bJ Y ?_;rw[List.take_length];rfl
theorem G2(m:List (List Qr)):∃b,jB [m]=some b/\(b=false->m.length<=8/\∀v∈m,Sm8 v):=by
 unfold jB;have hg:cZ [m] (0:Int)=some m:=rfl;by_cases h8:8<m.length
 ·refine⟨true,?_,λh=>by cases h⟩;refine bN (λj=>(j:Int)) 0 (.inr true) Y (λj hj=>by omega) ?_ Y;exact aA Y<|aA (dT (by simp))<|bP Y<|bU<|aA hg<|aA Y<|aA (dT (by omega))<|aA (a:=true) (bP Y Y)<|aA (a:=true) (bP Y Y) Y
 by_cases hc:8<qm m
 ·refine⟨true,?_,λh=>by cases h⟩;refine bN (λj=>(j:Int)) 0 (.inr true) Y (λj hj=>by omega) ?_ Y;exact aA Y<|aA (dT (by simp))<|bP Y<|bU<|aA hg<|aA Y<|aA (dF (by omega))<|aA (a:=true) (bJ Y<|aA hg<|aA (JF m (by omega))<|aA (dT (by omega)) Y)<|aA (a:=true) (bP Y Y) Y
 obtain⟨b,hb,hs⟩:=BN m (by omega);cases b
 ·refine⟨false,?_,λ_=>⟨by omega,λv hv=>⟨?_,(hs Y v hv).2⟩⟩⟩
  ·refine bN (λj=>(j:Int)) 1 (.inl ()) Y (λj hj=>?_) (aA Y<|aA (dF (by simp))<|bJ Y Y) Y;obtain rfl:j=0:=by omega
   exact aA Y<|aA (dT (by simp))<|bP Y<|bU<|aA hg<|aA Y<|aA (dF (by omega))<|aA (a:=false) (bJ Y<|aA hg<|aA (JF m (by omega))<|aA (dF (by omega)) Y)<|aA (a:=false) (bJ Y<|aA hg<|aA hb Y)<|bJ Y<|aA (congrArg some (bZ (by omega))) Y
  have:=qo.1 (Nat.le_refl (qm m)) v hv;omega
 refine⟨true,?_,λh=>by cases h⟩;refine bN (λj=>(j:Int)) 0 (.inr true) Y (λj hj=>by omega) ?_ Y;exact aA Y<|aA (dT (by simp))<|bP Y<|bU<|aA hg<|aA Y<|aA (dF (by omega))<|aA (a:=false) (bJ Y<|aA hg<|aA (JF m (by omega))<|aA (dF (by omega)) Y)<|aA (a:=true) (bJ Y<|aA hg<|aA hb Y)<|bP Y Y
theorem QH(m:List (List Qr))(h:m.length<=1000):kV m=some (decide (∀i,i<m.length->(m.getD i []).length=0)):=by
 unfold kV;refine aA (ug (p:=λi=>(m.getD i []).length=0) (e:=false) (n:=m.length) (λi hi=>?_) (aA Y<|aA (dF (by omega))<|bJ Y Y)) ?_
 ·refine aA Y<|aA (dT (by omega))<|bP Y<|aA (bL (ew (d:=[]) hi))<|aA Y<|aA Y ?_;by_cases hz:(m.getD i []).length=0
  ·rw[if_pos hz];exact bJ (decide_eq_false (by omega))<|aA (congrArg some (bZ (by omega))) Y
  rw[if_neg hz];exact bP (decide_eq_true (by omega)) Y
 by_cases hp:∀i,i<m.length->(m.getD i []).length=0
 ·rw[if_pos hp,decide_eq_true hp]
 rw[if_neg hp,decide_eq_false hp]
structure Sm6 (ob rw:List (List Qr)) (bd:List Qr):Prop where
 lo:ob.length<=6
 lr:rw.length<=140
 lb:bd.length<=140
 so:∀v∈ob,Sm8 v
 sr:∀v∈rw,Sm8 v
 sb:Zs (bd.take (min bd.length 20))
theorem Oj{n:Int}{ob rw:List (List Qr)}{bd:List Qr}:∃b,kW ⟨n,ob,rw,bd⟩=some b/\(b=false->Sm6 ob rw bd):=by
 unfold kW;obtain⟨b1,e1,s1⟩:=G2 rw;obtain⟨b2,e2,s2⟩:=G2 ob;have Zt:mP bd=some (bd.take (min bd.length 20)):=by
  unfold mP;have hm:min (bd.length:Int) 20=((min bd.length 20:Nat):Int):=by omega
  refine aA Y<|aA (congrArg some hm)<|aA (qb (by omega)) Y
 obtain⟨b3,e3,s3⟩:=BN [bd.take (min bd.length 20)] (by simp);by_cases c1:6<ob.length
 ·exact⟨true,bU<|aA rfl<|aA (dT (by omega))<|aA (a:=true) (bP rfl rfl)<|aA (a:=true) (bP rfl rfl)<|aA (a:=true) (bP rfl rfl)<|aA (a:=true) (bP rfl rfl)<|aA (a:=true) (bP rfl rfl)<|aA (a:=true) (bP rfl rfl) rfl,λh=>by cases h⟩
 by_cases c2:140<rw.length
 ·exact⟨true,bU<|aA rfl<|aA (dF (by omega))<|aA (a:=true) (bJ rfl<|aA rfl<|aA (dT (by omega)) rfl)<|aA (a:=true) (bP rfl rfl)<|aA (a:=true) (bP rfl rfl)<|aA (a:=true) (bP rfl rfl)<|aA (a:=true) (bP rfl rfl)<|aA (a:=true) (bP rfl rfl) rfl,λh=>by cases h⟩
 by_cases c3:140<bd.length
 ·exact⟨true,bU<|aA rfl<|aA (dF (by omega))<|aA (a:=false) (bJ rfl<|aA rfl<|aA (dF (by omega)) rfl)<|aA (a:=true) (bJ rfl<|aA rfl<|aA (dT (by omega)) rfl)<|aA (a:=true) (bP rfl rfl)<|aA (a:=true) (bP rfl rfl)<|aA (a:=true) (bP rfl rfl)<|aA (a:=true) (bP rfl rfl) rfl,λh=>by cases h⟩
 have eb:=QH rw (by omega);by_cases c4:8<rw.length
 ·by_cases c5:∀i,i<rw.length->(rw.getD i []).length=0
  ·rw[decide_eq_true c5]at eb;refine⟨_,bU<|aA Y<|aA (dF (by omega))<|aA (a:=false) (bJ Y<|aA Y<|aA (dF (by omega)) Y)<|aA (a:=false) (bJ Y<|aA Y<|aA (dF (by omega)) Y)<|aA (a:=false) (bJ Y<|aA Y<|aA (dT (by omega))<|aA (a:=false) (bP Y<|aA eb<|aA Y Y) Y)<|aA (a:=false) (bJ Y<|aA Y<|aA (dF (by omega))<|aA (a:=false) (bJ Y Y) Y)<|xj (λ_=>aA e2 Y)<|xj (λ_=>aA Zt<|aA e3 Y) Y,λh=>?_⟩;simp only[Bool.false_or,Bool.or_eq_false_iff]at h;refine⟨by omega,by omega,by omega,(s2 h.1).2,λv hv=>?_,s3 h.2 _ (by simp)⟩;obtain⟨i,hi,rfl⟩:=List.getElem_of_mem hv;have:=c5 i hi;rw[List.getD_eq_getElem?_getD,List.getElem?_eq_getElem hi]at this;have h0:rw[i]=[]:=List.eq_nil_of_length_eq_zero this;rw[h0];exact⟨by decide,by simp⟩
  rw[decide_eq_false c5]at eb;exact⟨true,bU<|aA rfl<|aA (dF (by omega))<|aA (a:=false) (bJ rfl<|aA rfl<|aA (dF (by omega)) rfl)<|aA (a:=false) (bJ rfl<|aA rfl<|aA (dF (by omega)) rfl)<|aA (a:=true) (bJ rfl<|aA rfl<|aA (dT (by omega))<|aA (a:=true) (bP rfl<|aA eb<|aA rfl rfl) rfl)<|aA (a:=true) (bP rfl rfl)<|aA (a:=true) (bP rfl rfl)<|aA (a:=true) (bP rfl rfl) rfl,λh=>by cases h⟩
 refine⟨_,bU<|aA Y<|aA (dF (by omega))<|aA (a:=false) (bJ Y<|aA Y<|aA (dF (by omega)) Y)<|aA (a:=false) (bJ Y<|aA Y<|aA (dF (by omega)) Y)<|aA (a:=false) (bJ Y<|aA Y<|aA (dF (by omega))<|aA (a:=false) (bJ Y Y) Y)<|xj (c:=b1) (λ_=>aA Y<|aA (dT (by omega))<|aA (a:=b1) (bP Y<|aA e1 Y) Y)<|xj (λ_=>aA e2 Y)<|xj (λ_=>aA Zt<|aA e3 Y) Y,λh=>?_⟩;simp only[Bool.false_or,Bool.or_eq_false_iff]at h;exact⟨by omega,by omega,by omega,(s2 h.1.2).2,(s1 h.1.1).2,s3 h.2 _ (by simp)⟩
end
section
open Go.Fw
abbrev Zu(m:List (List Qr)):Prop:=m.length<=9223372036854775807/\∀v∈m,Zo v
abbrev OkL(p:Lr):Prop:=fy p.vars/\Zu p.uj/\Zu p.rows/\Zo p.bounds
theorem S5{m:List (List Qr)}(h:Zu m)(s:∀v∈m,Sm8 v):uC 6 m (Ir m):=
 Qw (λv hv=>Jt (λq hq=>N4 ((h.2 v hv).2 q hq) ((s v hv).2 q hq).1 ((s v hv).2 q hq).2 (by decide)) (by decide)) (by decide)
theorem S6{v:List Qr}(h:Zo v)(s:Zs v):dI 6 v (CC v):=Jt (λq hq=>N4 (h.2 q hq) (s.2 q hq).1 (s.2 q hq).2 (by decide)) (by decide)
theorem Ol{L:Nat}{u v:List Qr}{f h:Nat->Rat}(hu:dI L u f)(hv:dI L v h):dI L (u++v) (λi=>if i<u.length then f i else h (i-u.length)):=by
 refine⟨λi hi=>?_,λi hi=>?_,hu.l1⟩
 ·show kn L (u++v)[i] (if i<u.length then f i else h (i-u.length));by_cases q:i<u.length
  ·rw[if_pos q,List.getElem_append_left q];exact hu.e i q
  rw[if_neg q,List.getElem_append_right (by omega)];exact hv.e _ (by rw[List.length_append]at hi;omega)
 show(if i<u.length then f i else h (i-u.length))=0;rw[List.length_append]at hi;rw[if_neg (by omega)];exact hv.z _ (by omega)
section refs
variable {n:Int}{ob rw:List (List Qr)}{bd:List Qr}
theorem agf:ku ⟨n,ob,rw,bd⟩=some (decide (BU n ob rw bd)):=by
 have sh:∀(m:List (List Qr)),m.length<=9223372036854775806->iJ m n=some (decide ((qm m:Int)<=n)):=λm hm=>by
  unfold iJ;exact aA (JF m hm)<|aA Y Y
 unfold ku;refine bU<|aA Y<|xj (λ_=>aA Y Y)<|xj (λ_=>aA Y<|aA Y Y)<|xj (λ_=>aA Y<|aA Y Y)<|xj (λ_=>aA Y<|aA Y Y)<|xj (λ_=>aA Y<|aA Y<|aA Y Y)<|yU (λh=>?_) (λh=>bU<|aA (sh ob (by simp only[Bool.or_eq_false_iff,decide_eq_false_iff_not]at h;omega))<|N5 (λ_=>aA (sh rw (by simp only[Bool.or_eq_false_iff,decide_eq_false_iff_not]at h;omega)) Y) ?_)
 ·congr 1;symm;rw[decide_eq_false_iff_not];simp only[Bool.or_eq_true,decide_eq_true_eq]at h;unfold BU;omega
 congr 1;simp only[Bool.or_eq_false_iff,decide_eq_false_iff_not]at h;rw[<-Bool.decide_and,decide_eq_decide];unfold BU;omega
end refs
end
section
open Go.Fw
def uD(n m:Nat)(F:Nat->Nat->Rat)(b:Nat->Nat)(k:Nat):Rat:=bX (λj=>if b j=k then F j (n+m)else 0) m
def KV(n m p:Nat)(O:Nat->Nat->Rat)(z:Nat->Rat)(i:Nat):Rat:=bX (λk=>z k*jJ n p O k i) (n+m)
section sol
variable {L n m p:Nat}{O F:Nat->Nat->Rat}{b:Nat->Nat}{z:Nat->Rat}
theorem JG(hu:Uc m F b):∀j,j<=m->∀k,k<n->gL n m F b j k=bX (λj=>if b j=k then F j (n+m)else 0) j
 |0,_,_,_=>rfl
 |j+1,hj,k,hk=>by
  show(if b j<n/\k=b j then F j (n+m)else gL n m F b j k)=bX (λj=>if b j=k then F j (n+m)else 0) j+(if b j=k then F j (n+m)else 0);by_cases e:b j=k
  ·rw[if_pos ⟨by omega,e.symm⟩,if_pos e,cA (k:=λ_=>0) (λi hi=>if_neg (λq=>by
    have:=Oe hu (i:=i) (j:=j) (by omega) (by omega) (q.trans e.symm);omega)),kx];grind
  rw[if_neg (λq=>e q.2.symm),if_neg e,JG hu j (by omega) k hk];grind
theorem xl:∀j k,n<=k->gL n m F b j k=0
 |0,_,_=>rfl
 |j+1,k,hk=>by
  show(if b j<n/\k=b j then F j (n+m)else gL n m F b j k)=0;rw[if_neg (by omega),xl j k hk]
theorem JH(h:rA L n m p O F b):∀j,j<=m->∀k,FQ L (gL n m F b j k)
 |0,_,_=>uf h.l1
 |j+1,hj,k=>by
  show FQ L (if b j<n/\k=b j then F j (n+m)else gL n m F b j k);split
  ·exact h.f j (by omega) _
  exact JH h j (by omega) k
theorem VZ(hu:Uc m F b){j:Nat}(hj:j<m):uD n m F b (b j)=F j (n+m):=by
 unfold uD;rw[mR hj (λi hi hne=>if_neg (λq=>hne (Oe hu hi hj q))),if_pos rfl]
theorem Dh(h:rA L n m p O F b)(f:Nat->Rat):bX (λk=>f k*uD n m F b k) (n+m)=bX (λj=>f (b j)*F j (n+m)) m:=by
 rw[show(λk=>f k*uD n m F b k)=λk=>bX (λj=>f k*(if b j=k then F j (n+m)else 0)) m from funext λk=>(oB _ _ _).symm,yq];refine cA (λj hj=>?_);rw[mR (h.hb j hj) (λi _ hne=>by rw[if_neg (λq=>hne q.symm)];grind),if_pos rfl]
theorem Om(h:rA L n m p O F b)(hu:Uc m F b):G7 n m F (uD n m F b):=λi hi=>by
 rw[Dh h (F i),mR hi (λj hj hne=>by rw[hu i j hi hj,if_neg (λq=>hne q.symm)];grind),hu i i hi hi,if_pos rfl];grind
theorem JI(h:rA L n m p O F b)(i:Nat):nH n p O b (λj=>F j (n+m)) m i=KV n m p O (uD n m F b) i:=by
 unfold nH KV;rw[cA (h:=λk=>uD n m F b k*jJ n p O k i) (k:=λk=>jJ n p O k i*uD n m F b k) (λk _=>Rat.mul_comm _ _),Dh h (λk=>jJ n p O k i)];exact cA (λj _=>Rat.mul_comm _ _)
theorem BO(i:Nat):KV n m p O z i=if i<p then bX (λk=>O i k*z k) n else if i<p+n then-z (i-p)else 0:=by
 unfold KV;rw[vP,cA (h:=λj=>z (n+j)*jJ n p O (n+j) i) (k:=λ_=>0) (λj _=>by unfold jJ;rw[if_neg (by omega)];grind),kx];by_cases h1:i<p
 ·rw[if_pos h1,cA (k:=λk=>O i k*z k) (λk hk=>by unfold jJ;rw[if_pos hk,if_pos h1,Rat.mul_comm])];grind
 rw[if_neg h1];by_cases h2:i<p+n
 ·rw[if_pos h2,mR (k:=i-p) (by omega) (λk hk hne=>by unfold jJ;rw[if_pos hk,if_neg h1,if_neg (by omega)];grind)];unfold jJ;rw[if_pos (by omega),if_neg h1,if_pos (by omega)];grind
 rw[if_neg h2,cA (k:=λ_=>0) (λk hk=>by unfold jJ;rw[if_pos hk,if_neg h1,if_neg (by omega)];grind),kx];grind
theorem On(h:G7 n m F z)(i:Nat):bX (λk=>z k*qt n m p O F b k i) (n+m)=nH n p O b (λj=>F j (n+m)) m i-KV n m p O z i:=by
 have e:∀k,z k*qt n m p O F b k i=bX (λj=>jJ n p O (b j) i*(F j k*z k)) m-z k*jJ n p O k i:=λk=>by
  unfold qt nH;have:z k*bX (λj=>F j k*jJ n p O (b j) i) m=bX (λj=>jJ n p O (b j) i*(F j k*z k)) m:=by
   rw[<-oB];exact cA (λj _=>by grind)
  rw[<-this];grind
 rw[cA (λk _=>e k),BH,yq];unfold nH KV;congr 1;refine cA (λj hj=>?_);rw[oB,h j hj];exact Rat.mul_comm _ _
theorem Zv{R:Nat->Nat->Rat}{g:Nat->Rat}:G7 n m (m9 n m R g) z↔∀i,i<m->bX (λk=>R i k*z k) n+z (n+i)=g i:=by
 refine forall_congr' λi=>forall_congr' λhi=>?_;rw[vP,cA (h:=λk=>m9 n m R g i k*z k) (k:=λk=>R i k*z k) (λk hk=>by unfold m9;rw[if_pos hk]),mR (h:=λj=>m9 n m R g i (n+j)*z (n+j)) hi (λj hj hne=>by unfold m9;rw[if_neg (by omega),if_neg (by omega),if_neg (by omega)];grind)];have e1:m9 n m R g i (n+i)=1:=by unfold m9;rw[if_neg (by omega),if_pos rfl]
 have e2:m9 n m R g i (n+m)=g i:=by unfold m9;rw[if_neg (by omega),if_neg (by omega),if_pos rfl]
 rw[e1,e2,Rat.one_mul]
theorem KJ{R:Nat->Nat->Rat}{g:Nat->Rat}:Uc m (m9 n m R g) (λj=>n+j):=λi j hi hj=>by
 show m9 n m R g i (n+j)=_;unfold m9;rw[if_neg (by omega)];by_cases e:i=j
 ·rw[if_pos (by omega),if_pos e]
 rw[if_neg (by omega),if_neg (by omega),if_neg e]
end sol
def yt(f:Nat->Rat)(N:Nat):Prop:=(∀i,i<N->f i=0)\/∃i,i<N/\(∀j,j<i->f j=0)/\0<f i
theorem JJ{f:Nat->Rat}:∀{N:Nat},0<=iA f (λ_=>0) N->yt f N
 |0,_=>.inl (λi hi=>by omega)
 |N+1,h=>by
  rw[iA]at h;by_cases q:iA f (λ_=>0) N=0
  ·rw[if_neg (λe=>e q)]at h;have hz:=oC.1 q;rcases af8 (f N) 0 with h1|h1|h1
   ·rw[Js h1]at h;omega
   ·exact .inl (λi hi=>by
     by_cases e:i<N
     ·exact hz i e
     rw[show i=N by omega];exact h1)
   exact .inr ⟨N,by omega,hz,h1⟩
  rw[if_pos q]at h;rcases JJ h with h1|⟨i,h1,h2,h3⟩
  ·exact absurd (oC.2 h1) q
  exact .inr ⟨i,by omega,h2,h3⟩
theorem yt.add{f g:Nat->Rat}{N:Nat}(hf:yt f N)(hg:yt g N):yt (λi=>f i+g i) N:=by
 rcases hf with h1|⟨i,h1,h2,h3⟩<;>rcases hg with k1|⟨j,k1,k2,k3⟩
 ·exact .inl (λi hi=>by show f i+g i=0;rw[h1 i hi,k1 i hi];exact Rat.add_zero 0)
 ·exact .inr ⟨j,k1,λq hq=>by show f q+g q=0;rw[h1 q (by omega),k2 q hq];exact Rat.add_zero 0,by show 0<f j+g j;rw[h1 j k1];grind⟩
 ·exact .inr ⟨i,h1,λq hq=>by show f q+g q=0;rw[h2 q hq,k1 q (by omega)];exact Rat.add_zero 0,by show 0<f i+g i;rw[k1 i h1];grind⟩
 rcases Nat.lt_trichotomy i j with e|e|e
 ·exact .inr ⟨i,h1,λq hq=>by show f q+g q=0;rw[h2 q hq,k2 q (by omega)];exact Rat.add_zero 0,by show 0<f i+g i;rw[k2 i e];grind⟩
 ·subst e;exact .inr ⟨i,h1,λq hq=>by show f q+g q=0;rw[h2 q hq,k2 q hq];exact Rat.add_zero 0,by show 0<f i+g i;grind⟩
 exact .inr ⟨j,k1,λq hq=>by show f q+g q=0;rw[h2 q (by omega),k2 q hq];exact Rat.add_zero 0,by show 0<f j+g j;rw[h2 j e];grind⟩
theorem yt.mul{f:Nat->Rat}{N:Nat}{c:Rat}(hc:0<=c)(hf:yt f N):yt (λi=>c*f i) N:=by
 by_cases e:c=0
 ·exact .inl (λi _=>by show c*f i=0;rw[e];grind)
 have hp:0<c:=by grind
 rcases hf with h1|⟨i,h1,h2,h3⟩
 ·exact .inl (λi hi=>by show c*f i=0;rw[h1 i hi];grind)
 exact .inr ⟨i,h1,λq hq=>by show c*f q=0;rw[h2 q hq];grind,Rat.mul_pos hp h3⟩
theorem yt.sum{h:Nat->Nat->Rat}{N:Nat}:∀{K:Nat},(∀k,k<K->yt (h k) N)->yt (λi=>bX (λk=>h k i) K) N
 |0,_=>.inl (λ_ _=>rfl)
 |K+1,hk=>(yt.sum (K:=K) (λk q=>hk k (by omega))).add (hk K (by omega))
def szT:Nat->Nat
 |0=>6
 |k+1=>4*szT k+1
theorem Zw:∀k,k<13->szT k<=106255701:=by decide
theorem Zx:∀k,k<12->szT k<=100000000:=by decide
abbrev agh(v:Pv):Prop:=(-9223372036854775808<=v.row/\v.row<=9223372036854775807)/\(-9223372036854775808<=v.col/\v.col<=9223372036854775807)
theorem al7:(ei.bind λx=>some x)=some true:=aA Iw Y
theorem Oo{n:Int}{ob rw:List (List Qr)}{bd:List Qr}:∃b,jC ⟨n,ob,rw,bd⟩=some b/\(b=false->Sm6 ob rw bd/\(BU n ob rw bd->rw.length<=5/\n<=6)):=by
 obtain⟨b1,e1,s1⟩:=Oj (n:=n) (ob:=ob) (rw:=rw) (bd:=bd);have my:=agf (n:=n) (ob:=ob) (rw:=rw) (bd:=bd);unfold jC;refine⟨_,bU<|aA e1<|xj (c:=decide (5<rw.length)&&decide (BU n ob rw bd)) (λ_=>aA Y<|aA (congrArg some (decide_eq_decide.2 (show(5:Int)<(rw.length:Int)↔5<rw.length by omega)))<|N5 (λ_=>aA my Y) Y)<|xj (c:=decide (6<n)&&decide (BU n ob rw bd)) (λ_=>aA Y<|N5 (λ_=>aA my Y) Y) Y,λh=>?_⟩;simp only[Bool.or_eq_false_iff,Bool.and_eq_false_iff,decide_eq_false_iff_not]at h;refine⟨s1 h.1.1,λhv=>⟨?_,?_⟩⟩
 ·rcases h.1.2 with q|q
  ·omega
  exact absurd hv q
 rcases h.2 with q|q
 ·omega
 exact absurd hv q
theorem Zy{n:Int}{ob rw:List (List Qr)}{bd:List Qr}(v:fB ⟨n,ob,rw,bd⟩=some false):oq ⟨n,ob,rw,bd⟩=some ():=by
 unfold oq;exact aA v<|aA Y<|bP Y Y
theorem KK{n m p:Nat}{O F0:Nat->Nat->Rat}{b0:Nat->Nat}{l:List Pv}(hl:l.length<=12)(h:rA 6 n m p O F0 b0)(hu:Uc m F0 b0){R:Type}{f:List (List Qr)×List Int×List (List Qr)->Option R}{r:R}
  (hf:∀F b,rA 106255701 n m p O F b->Uc m F b->(∀z,G7 n m F z↔G7 n m F0 z)->f (mq p (λ_=>n) O,bq m b,mq m (λ_=>n+m+1) F)=some r):
  ((cy (λ(OF:Int×(List (List Qr))×(List Int)×(List (List Qr)))=>match OF with|⟨uS,qT,qV,qW⟩=>(show Option ((Int×(List (List Qr))×(List Int)×(List (List Qr)))⊕((List (List Qr))×(List Int)×(List (List Qr))))from(some (l.length:Int)).bind λtK=>(some (decide ((uS:Int)<tK))).bind λtL=>(bif tL then(cZ l uS).bind λ⟨Jd,SI⟩=>(cZ l uS).bind λ⟨C2,yP⟩=>(bD true n qT qV qW Jd yP).bind λ⟨x62,YS,J1,YT⟩=>(some (IntKind.i64.wrap (uS+1))).bind λum=>some (.inl (um,YS,J1,YT))else some (.inr (qT,qV,qW))))) (0,mq p (λ_=>n) O,bq m b0,mq m (λ_=>n+m+1) F0)).bind f)=some r:=by
 refine nK (λs=>∃(k:Nat) (F:Nat->Nat->Rat) (b:Nat->Nat),s=((k:Int),mq p (λ_=>n) O,bq m b,mq m (λ_=>n+m+1) F)/\k<=l.length/\rA (szT k) n m p O F b/\Uc m F b/\∀z,G7 n m F z↔G7 n m F0 z) (λe=>∃(F:Nat->Nat->Rat) (b:Nat->Nat),e=(mq p (λ_=>n) O,bq m b,mq m (λ_=>n+m+1) F)/\rA 106255701 n m p O F b/\Uc m F b/\∀z,G7 n m F z↔G7 n m F0 z) (λs=>l.length-s.1.toNat) ?_ ⟨0,F0,b0,Y,Nat.zero_le _,h,hu,λ_=>Iff.rfl⟩ ?_
 ·rintro _ ⟨k,F,b,rfl,hk,ht,hu,hz⟩;by_cases hlt:k<l.length
  ·have g:=List.getElem?_eq_getElem hlt;generalize l[k]=v at g;obtain⟨r,c⟩:=v;obtain⟨e,F',b',hp,ht',hu',ZF⟩:=Iv ht (Zx k (by omega)) hu r c;refine .inl ⟨(((k+1:Nat):Int),mq p (λ_=>n) O,bq m b',mq m (λ_=>n+m+1) F'),?_,⟨k+1,F',b',Y,hlt,ht',hu',λz=>(ZF z).trans (hz z)⟩,by simp only[Int.toNat_natCast];omega⟩;exact aA Y<|aA (dT (by omega))<|bP Y<|aA (bL g)<|aA (bL g)<|aA hp<|aA (congrArg some (bZ (by omega))) Y
  exact .inr ⟨_,aA Y<|aA (dF (by omega))<|bJ Y Y,F,b,Y,ht.mono (Zw k (by omega)),hu,hz⟩
 rintro _ ⟨F,b,rfl,ht,hu,hz⟩;exact hf F b ht hu hz
end
section
open Go.Fw
theorem Oq(p:Lr)(x:List Qr):kS p x=iH p x:=rfl
theorem JK{f g:Nat->Rat}{i N:Nat}(hi:i<N)(hz:∀j,j<i->f j=g j)(h:f i<g i):iA f g N=-1:=by
 have h0:iA f g i=0:=oC.2 hz;have hc:lf (f i) (g i)=-1:=Js h;rw[KD h0 hi (by rw[hc];decide),hc]
theorem EC(q:Lr)(l:List Pv)(x:List Qr)(op:OkL q)(ol:l.length<=9223372036854775807/\∀v∈l,agh v)(ox:Zo x):fF q l x=some true:=by
 obtain⟨n,ob,rw,bd⟩:=q;obtain⟨on,oo,or_,ob_⟩:=op;replace oo:Zu ob:=oo;replace or_:Zu rw:=or_;replace ob_:Zo bd:=ob_;obtain⟨b1,e1,s1⟩:=Oo (n:=n) (ob:=ob) (rw:=rw) (bd:=bd);obtain⟨b2,e2,s2⟩:=BN [x] (by simp);have v:=VS (n:=n) (ob:=ob) (rw:=rw) (bd:=bd);unfold fF;by_cases hv:BU n ob rw bd
 ·rw[decide_eq_true hv]at v;rw[if_pos v];unfold fo;refine bU<|aA e1<|xj (λ_=>aA Y<|aA Y Y)<|xj (λ_=>aA e2 Y)<|yU (λ_=>al7) (λhb=>?_);simp only[Bool.or_eq_false_iff,decide_eq_false_iff_not]at hb;obtain⟨⟨xz,BQ⟩,ZD⟩:=hb;obtain⟨s6,s7⟩:=s1 xz;obtain⟨hr5,hn6⟩:=s7 hv;have sx:=s2 ZD x (by simp);have lx:=sx.1;obtain⟨v1,v2,v3,v4,v5,v6,v7,v8⟩:=id hv;obtain⟨n,rfl⟩:∃k:Nat,n=(k:Int):=⟨n.toNat,by omega⟩;have ro:=S5 oo s6.so;have rr:=S5 or_ s6.sr;have hbd:bd.take (min bd.length 20)=bd:=by rw[show min bd.length 20=bd.length by omega,List.take_length]
  have sb:=s6.sb;rw[hbd]at sb;have rb:=S6 ob_ sb;have rx:=S6 ox sx;have co:∀v∈ob,v.length<=n:=qo.1 (by omega);have cr:∀v∈rw,v.length<=n:=qo.1 (by omega);generalize Ir ob=O at ro;generalize Ir rw=R at rr;generalize CC bd=g at rb;generalize CC x=f at rx;have eN:=Zq (n:=n) ro rr rb (by decide) (by decide) (by decide) hv;have k0:=JE (n:=n) ro rr rb (by decide) hv;have DS:l.length<=12:=by omega
  refine aA eN<|bU<|aA (a:=false) (bJ Y Y)<|bJ Y ?_;refine KK DS k0 KJ ?_;intro F b ht hu hz;have ahn:∀N,fL ⟨(n:Int),ob,rw,bd⟩ N=fL ⟨(n:Int),ob,rw,bd⟩ N:=λ_=>rfl;have ve:=BK (n:=(n:Int)) (ob:=ob) (rw:=rw) (bd:=bd) (by omega) (by omega);obtain⟨m,hm⟩:∃m,rw.length=m:=⟨_,Y⟩;obtain⟨p,hp⟩:∃p,ob.length=p:=⟨_,Y⟩;rw[hm,hp]at ht;rw[hm]at hu hz;rw[hm,hp];have m5:m<=5:=by omega
  have n6:n<=6:=by omega
  have hX:(m+1)*(106255701+106255701+1)<=2000000000:=by have:=Nat.mul_le_mul_right (106255701+106255701+1) (show m+1<=6 by omega);omega
  have hX2:m*(106255701+106255701+1)<=2000000000:=Nat.le_trans (Nat.mul_le_mul_right _ (Nat.le_succ m)) hX;have a1:=Dd ht (by decide);have a2:=De ht (by decide);have a3:=BM ht hX;have a4:=EB ht hX;have r4:=BL ht (g:=λj=>F j (n+m)) (λj hj=>ht.f j hj _) (Nat.le_refl m);have ry:dI 106255701 (vq n (gL n m F b m)) (gL n m F b m):=m8 (λi _=>JH ht m (Nat.le_refl m) i) (λi hi=>xl m i hi) (by decide);have ly:(vq n (gL n m F b m)).length=n:=ct _ _;have hyz:∀k,k<n->gL n m F b m k=uD n m F b k:=λk hk=>JG hu m (Nat.le_refl m) k hk;have hN8:(n+2)*(6+106255701+1)<=2000000000:=Nat.le_trans (Nat.mul_le_mul_right (6+106255701+1) (show n+2<=8 by omega)) (by decide);have a5:=JA (n:=(n:Int)) (ob:=ob) (N:=n) rr rb ry (λv hv=>by have:=cr v hv;omega) hN8 (by decide) (by omega) (by omega) (by omega);obtain⟨a6,r6⟩:=eval_eq (n:=(n:Int)) (rw:=rw) (bd:=bd) (N:=n) ro ry (λv hv=>by have:=co v hv;omega) (Nat.le_trans hN8 (by decide)) (by omega);rw[hp]at a6 r6;have one:=lp (n:=-1) (by decide);obtain⟨a7,r7⟩:=N2 one.2 ry (by decide) (by omega);rw[ly]at a7 r7;have Zz:n*(6+106255701+1)<=1000000000:=Nat.le_trans (Nat.mul_le_mul_right (6+106255701+1) n6) (by decide)
  have hv8:m*(106255701+106255701+1)+1+(n*(6+106255701+1)+1+106255703)<=4000000000:=Nat.le_trans (Nat.add_le_add (Nat.add_le_add_right hX2 1) (Nat.add_le_add_right (Nat.add_le_add_right Zz 1) _)) (by decide);have r8:=Ol (L:=n*(6+106255701+1)+1+106255703) (r6.mono (Nat.le_add_right _ _)) (r7.mono (Nat.le_trans (by decide:2+106255701<=106255703) (Nat.le_add_left _ _)));have a8:=af7 r4 r8 hv8 (λi=>by
   rw[JI ht,BO,ct];by_cases h1:i<p
   ·rw[if_pos h1,if_pos h1];exact cA (λk hk=>by rw[hyz k hk])
   rw[if_neg h1,if_neg h1];by_cases h2:i<p+n
   ·rw[if_pos h2,<-hyz (i-p) (by omega)];have:((-1:Int):Rat)=-1:=by decide
    rw[this];grind
   rw[if_neg h2,xl m (i-p) (by omega)];grind)
  have hzb:∀i,i<m->bX (λk=>R i k*uD n m F b k) n+uD n m F b (n+i)=g i:=Zv.1 ((hz _).1 (Om ht hu));have hys:∀i,bX (λk=>R i k*gL n m F b m k) n=bX (λk=>R i k*uD n m F b k) n:=λi=>cA (λk hk=>by rw[hyz k hk]);have hfe:decide (∀i,i<m->0<=F i (n+m))=decide (KF (n:Int) ob rw bd (vq n (gL n m F b m)) R g (gL n m F b m) n):=by
   rw[decide_eq_decide];unfold KF;rw[hm,ly];constructor
   ·intro h;have nn:∀k,0<=uD n m F b k:=λk=>yT (λj hj=>by
     show 0<=(if b j=k then F j (n+m)else 0);split
     ·exact h j hj
     exact Rat.le_refl)
    refine⟨hv,Int.le_refl _,λi hi=>by rw[hyz i hi];exact nn i,λi hi=>?_⟩;have e:=hzb i hi;have e2:=nn (n+i);rw[hys i,<-e];grind
   rintro⟨_,_,h1,h2⟩ j hj;rw[<-VZ hu hj];have Tg:=ht.hb j hj;by_cases q:b j<n
   ·have:=h1 (b j) q;rw[hyz _ q]at this;exact this
   have e:=hzb (b j-n) (by omega);have e2:=h2 (b j-n) (by omega);rw[hys]at e2;rw[show n+(b j-n)=b j by omega]at e;rw[<-e]at e2;grind
  rw[<-hfe]at a5;have a9:=JA (n:=(n:Int)) (ob:=ob) (N:=n) rr rb rx (λv hv=>by have:=cr v hv;omega) (by have:=Nat.mul_le_mul_right (6+6+1) (show n+2<=8 by omega);omega) (by decide) (by omega) (by omega) (by omega);obtain⟨TH,r10⟩:=eval_eq (n:=(n:Int)) (rw:=rw) (bd:=bd) (N:=n) ro rx (λv hv=>by have:=co v hv;omega) (by have:=Nat.mul_le_mul_right (6+6+1) (show n+2<=8 by omega);omega) (by omega);rw[hp]at TH r10;have c1:=Qu r10 r6 (Nat.le_trans (Nat.add_le_add (Nat.add_le_add_right (Nat.mul_le_mul_right (6+6+1) n6) 1) (Nat.add_le_add_right Zz 1)) (by decide));rw[ct,ct,Nat.max_self]at c1;have c2:=Qu ry rx (by decide);rw[ly]at c2;have c3:=veq rx ry (by decide);rw[ly]at c3;have key:∀(V C:Int),V=iA (λi=>bX (λj=>O i j*f j) n) (λi=>bX (λj=>O i j*gL n m F b m j) n) p->C=iA (gL n m F b m) f (max n x.length)->(∀c,c<n+m->0<=iA (qt n m p O F b c) (λ_=>0) (p+n))->KF (n:Int) ob rw bd x R g f n->(if V=0 then C else V)<0\/∀i,i<max x.length n->f i=gL n m F b m i:=by
   rintro V C hV hC ho ⟨_,Xb,hx0,hxs⟩;rw[hm]at hxs;have hf0:∀k,0<=f k:=λk=>by
    by_cases q:k<x.length
    ·exact hx0 k q
    rw[rx.z k (by omega)];exact Rat.le_refl
   obtain⟨z,hzd⟩:∃z:Nat->Rat,z=λk=>if k<n then f k else g (k-n)-bX (λj=>R (k-n) j*f j) n:=⟨_,Y⟩;have zf:∀k,k<n->z k=f k:=λk hk=>by rw[hzd];exact if_pos hk
   have zs:∀i,z (n+i)=g i-bX (λj=>R i j*f j) n:=λi=>by rw[hzd];show(if n+i<n then _ else _)=_;rw[if_neg (by omega),show n+i-n=i by omega]
   have agk:G7 n m F z:=(hz z).2 (Zv.2 (λi hi=>by
    rw[zs,cA (k:=λk=>R i k*f k) (λk hk=>by rw[zf k hk])];grind))
   have znn:∀k,k<n+m->0<=z k:=λk hk=>by
    by_cases q:k<n
    ·rw[zf k q];exact hf0 k
    have:=hxs (k-n) (by omega);have e:=zs (k-n);rw[show n+(k-n)=k by omega]at e;rw[e];grind
   have hT:=yt.sum (K:=n+m) (N:=p+n) (h:=λk i=>z k*qt n m p O F b k i) (λk hk=>(JJ (ho k hk)).mul (znn k hk));have hW:∀i,bX (λk=>z k*qt n m p O F b k i) (n+m)=KV n m p O (uD n m F b) i-KV n m p O z i:=λi=>by rw[On agk,JI ht]
   have w1:∀i,i<p->KV n m p O z i=bX (λj=>O i j*f j) n:=λi hi=>by rw[BO,if_pos hi];exact cA (λk hk=>by rw[zf k hk])
   have w2:∀i,i<p->KV n m p O (uD n m F b) i=bX (λj=>O i j*gL n m F b m j) n:=λi hi=>by rw[BO,if_pos hi];exact cA (λk hk=>by rw[hyz k hk])
   have w3:∀k,k<n->KV n m p O z (p+k)=-f k:=λk hk=>by rw[BO,if_neg (by omega),if_pos (by omega),show p+k-p=k by omega,zf k hk]
   have w4:∀k,k<n->KV n m p O (uD n m F b) (p+k)=-gL n m F b m k:=λk hk=>by rw[BO,if_neg (by omega),if_pos (by omega),show p+k-p=k by omega,hyz k hk]
   have out:∀k,n<=k->f k=gL n m F b m k:=λk hk=>by rw[rx.z k (by omega),xl m k hk]
   rcases hT with h1|⟨i,h1,h2,h3⟩
   ·refine .inr (λk _=>?_);by_cases q:k<n
    ·have e:bX (λk'=>z k'*qt n m p O F b k' (p+k)) (n+m)=0:=h1 (p+k) (by omega);rw[hW,w3 k q,w4 k q]at e;grind
    exact out k (by omega)
   have h2:∀j,j<i->bX (λk'=>z k'*qt n m p O F b k' j) (n+m)=0:=h2;have h3:0<bX (λk'=>z k'*qt n m p O F b k' i) (n+m):=h3;left;by_cases q:i<p
   ·have hVn:V=-1:=by
     rw[hV];refine JK q (λj hj=>?_) ?_
     ·have e:=h2 j hj;rw[hW,w1 j (by omega),w2 j (by omega)]at e;grind
     rw[hW,w1 i q,w2 i q]at h3;grind
    rw[hVn,if_neg (by decide)];decide
   have Qe:V=0:=by
    rw[hV];refine oC.2 (λj hj=>?_);have e:=h2 j (by omega);rw[hW,w1 j hj,w2 j hj]at e;grind
   have hCn:C=-1:=by
    rw[hC];refine JK (i:=i-p) (by omega) (λj hj=>?_) ?_
    ·have e:=h2 (p+j) (by omega);rw[hW,w3 j (by omega),w4 j (by omega)]at e;grind
    have e3:=w3 (i-p) (by omega);have e4:=w4 (i-p) (by omega);rw[show p+(i-p)=i by omega]at e3 e4;rw[hW,e3,e4]at h3;grind
   rw[if_pos Qe,hCn];decide
  have ap:=YV (b:=64) (l:=vq p (λi=>bX (λj=>O i j*gL n m F b m j) n)) (k:=vq n (λi=>((-1:Int):Rat)*gL n m F b m i)) (by decide) (by rw[ct,ct];omega);obtain⟨V,hV⟩:∃V,V=iA (λi=>bX (λj=>O i j*f j) n) (λi=>bX (λj=>O i j*gL n m F b m j) n) p:=⟨_,Y⟩;obtain⟨C,hC⟩:∃C,C=iA (gL n m F b m) f (max n x.length):=⟨_,Y⟩;have key:=key V C hV hC;rw[<-hV]at c1;rw[<-hC]at c2;have cmp:kR ⟨(n:Int),ob,rw,bd⟩ x (vq n (gL n m F b m))=some (if V=0 then C else V):=by
   unfold kR;refine aA TH<|aA a6<|aA c1 ?_;by_cases q:V=0
   ·rw[if_pos q];exact aA (dF (λe=>e q))<|bJ Y<|aA c2 Y
   rw[if_neg q];exact aA (dT q)<|bP Y Y
  have evn:=Oq ⟨(n:Int),ob,rw,bd⟩ (vq n (gL n m F b m));rw[a6]at evn;have o1:=one.1;have tail:((((!decide (∀i,i<m->0<=F i (n+m))|| !decide (∀c,c<n+m->0<=iA (qt n m p O F b c) (λ_=>0) (p+n)))|| !decide (KF (n:Int) ob rw bd x R g f n))||decide ((if V=0 then C else V)<0))||decide (∀i,i<max x.length n->f i=gL n m F b m i))=true:=by
   by_cases q2:∀c,c<n+m->0<=iA (qt n m p O F b c) (λ_=>0) (p+n)
   ·by_cases q3:KF (n:Int) ob rw bd x R g f n
    ·rcases key q2 q3 with k|k
     ·rw[decide_eq_true k];simp
     rw[decide_eq_true k];simp
    rw[decide_eq_false q3];simp
   rw[decide_eq_false q2];simp
  generalize vq n (gL n m F b m)=y at*;generalize vq p (λi=>bX (λj=>O i j*gL n m F b m j) n)=v6 at*;generalize vq n (λi=>((-1:Int):Rat)*gL n m F b m i)=v7 at*;generalize decide (∀i,i<m->0<=F i (n+m))=d1 at*;generalize decide (∀c,c<n+m->0<=iA (qt n m p O F b c) (λ_=>0) (p+n))=d2 at*;generalize decide (KF (n:Int) ob rw bd x R g f n)=d3 at*;generalize decide (∀i,i<max x.length n->f i=gL n m F b m i)=d5 at*;generalize (if V=0 then C else V)=w at*;generalize qn ((-1:Int):Rat)=q1 at*;obtain⟨⟨_,_⟩,⟨_,_⟩⟩:=q1;refine aA a1<|bU<|aA Y<|aA (dF (by omega))<|aA (a:=false) (bJ Y<|aA a2<|aA a5<|aA (by simp) Y)<|aA (a:=false) (bJ Y<|aA a4<|aA evn<|aA o1<|aA a7<|aA ap<|aA a8<|aA Y Y)<|bJ Y ?_;refine bU<|aA a2<|aA Y<|xj (λ_=>aA a3<|aA Y Y)<|xj (λ_=>aA a9<|aA Y Y)<|xj (λ_=>aA cmp<|aA Y Y)<|xj (λ_=>aA c3 Y) ?_;rw[tail];exact Iq (aA Iw Y) Y
 rw[decide_eq_false hv]at v;rw[if_neg (by rw[v];decide)];unfold fu;refine bU<|aA e1<|xj (λ_=>aA Y<|aA Y Y)<|xj (λ_=>aA e2 Y)<|yU (λ_=>al7) (λ_=>?_);exact aA (Zy v)<|bU<|aA v<|aA Y<|Iq (aA Iw Y) Y
end
section
open Go.Fw Go.RowKit Go.ChangeShapes Go.WideShapes Go.ChangeAt
set_option linter.unusedVariables false
set_option maxRecDepth 100000 in
theorem qu(H:Type)(enc:TypeId×Value->H)(W:World)(base:Nat)(args:Array Value)(ds gs:List (DataW H))(before:List MemPlace)
  (hval:∀(j:Nat) t v,Tryz.f6.params[j]? =some t->args[j]? =some v->Value.okWide ah W .any base t v)
  (hW:DataW.Whole enc ah Tryz.f6.params.toList Rows.tableauOptimalSpec.vars false W args.toList ds gs before):
  Calls ah 6 args W λe W'=>∃v,e=.returned v/\Rows.tableauOptimalSpec.post enc ah Tryz.f6 false true false false W args v W':=by
 have hW':=hW;obtain⟨p,q,Zd,hV,rfl,hfz,hnd⟩:=hW;have hA:DataW.TrodAll enc ah W 0 (λ_=>true) true Tryz.f6.params.toList args.toList ds p:=Zd;rw[Tryz.params6]at hA hval;obtain⟨v0,Ou,d0,ds0,p0,q0,hargs,rfl,rfl,h0,r0⟩:=trodAll_cons hA;obtain⟨v1,vs1,d1,ds1,p1,q1,rfl,rfl,rfl,h1,r1⟩:=trodAll_cons r0;obtain⟨v2,vs2,d2,ds2,p2,q2,rfl,rfl,rfl,h2,r2⟩:=trodAll_cons r1;obtain⟨rfl,rfl,rfl⟩:=trodAll_nil r2;obtain rfl:args=#[v0,v1,v2]:=by cases args;simp_all
 obtain⟨rfl,rfl⟩:=trodVars_none hV;have lt0:∀x∈p0,x.block<W.heap.size:=by obtain⟨m,hm⟩:=h0;exact DataW.trod_lt m _ _ _ hm
 obtain⟨x0,ok0,sz0,al0⟩:=O9 (P:=ah) (T:=25) (e:=Dw) (hval 0 25 v0 Y Y) h0;have lt1:∀x∈p1,x.block<W.heap.size:=by obtain⟨m,hm⟩:=h1;exact DataW.trod_lt m _ _ _ hm
 obtain⟨x1,ok1,sz1,al1⟩:=IQ (P:=ah) (T:=26) (e:=(eS 2 Ow)) (hval 1 26 v1 Y Y) h1;have lt2:∀x∈p2,x.block<W.heap.size:=by obtain⟨m,hm⟩:=h2;exact DataW.trod_lt m _ _ _ hm
 obtain⟨x2,ok2,sz2,al2⟩:=IQ (P:=ah) (T:=23) (e:=(eS 4 eQ)) (hval 2 23 v2 Y Y) h2;clear Zd;refine(Pa (qa (EC x0 x1 x2 ok0 ok1 ok2)) (W:=W) (vs:=[v0,v1,v2]) ⟨al0,al1.1,al2.1,aq⟩).mono λe W' ⟨he,bel⟩=>?_;subst he;exact⟨_,rfl,_,_,_,[],_,[],hW',trodAll_mk1 (shut_bool Tryz.underlying4 _),(trodAll_cons_mk (Below.trod Au (by kernel_rfl) (of_decide_eq_true (by kernel_rfl)) h0 bel lt0) (trodAll_cons_mk (Below.trod Au (by kernel_rfl) (of_decide_eq_true (by kernel_rfl)) h1 bel lt1) (trodAll_cons_mk (Below.trod Au (by kernel_rfl) (of_decide_eq_true (by kernel_rfl)) h2 bel lt2) trodAll_mk0))),rfl,bel.frame _,λh=>by cases h⟩
set_option maxRecDepth 100000 in
theorem rM(os:Os)(started:os.Started)(H:Type)(enc:TypeId×Value->H):
  ReturnsInHanded {} Tryz.checked os 6 .any (Rows.tableauOptimalSpec.pre6 enc ah Tryz.f6 Rows.tableauOptimalRow.domain false) (Rows.tableauOptimalSpec.post enc ah Tryz.f6 false true false false):=by
 refine returnsInHanded_of_change (C:=Tryz.checked) abk started (by kernel_rfl) Tryz.func6
  (ChangeSpec.witness6 (enc:=enc) (C:=Tryz.checked) false ⟨#[],#[.agg #[.int .i64 0,.slice none 0 0,.slice none 0 0,.slice none 0 0],.slice none 0 0,.slice none 0 0],[]⟩ 8 (by kernel_rfl) (by kernel_rfl) (by kernel_rfl) (by kernel_rfl)) ?_
 intro W base args ds gs before hval hW _ _;exact qu H enc W base args ds gs before hval hW
theorem tableauOptimal_holds:Rows.TableauOptimalSaid:=
 OpenClaim.holds_of_wide 6 Tryz.f6 Y Y Y Y Y Y Y ⟨Y,Y,Y,Y,Y⟩ Y Y Y Y Y (by kernel_rfl) Tryz.func6 (by kernel_rfl)
  (of_decide_eq_true (by kernel_rfl)) (by unfold Func.isWrapper;first|(rw[if_pos (by decide+kernel)];kernel_rfl)|(rw[if_neg (by decide+kernel)];exact⟨Y,Y⟩))
  (λos started H enc _=>rM os started H enc)
end
end Go.Proofs.YtningmnklfpfjaaGreat
