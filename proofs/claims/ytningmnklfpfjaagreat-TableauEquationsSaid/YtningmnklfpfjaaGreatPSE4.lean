/- A part of the proof: the framework, the plain functions, the followed functions, the plain laws. -/
import Derived.Test.YtningmnklfpfjaaGreatPSE3
set_option linter.unusedVariables false
set_option linter.unusedSimpArgs false
set_option linter.unusedSectionVars false
namespace Go.Proofs.YtningmnklfpfjaaGreat
section
open Go.Fw Go.Fw.Z Go.RowKit
theorem gK{x0:List (List Qr)}{r:Bool}(h:gz x0=some r):Pure ah 33 [slc 1 (List.map (eS 4 eQ) x0)] (az r):=by
 refine bz Tryz.func33 Y (af Y) (λec M vs hvs=>?_);unfold gz at h;refine sr<|ag Y<|dn<|qq<|sr<|ag Y<|dn<|bE h λJZ A3 wW=>?_;refine bT (λ(US:Unit)=>AS.cM 23 [] [] []) (λUS=>.inl US=JZ) ?_ (λUS A4=>?_);refine bj ?_;refine bU A3 (λyZ=>AS.cM 23 [(0,.sv (slc 1 (List.map (eS 4 eQ) x0))),(3,ai yZ)] [] []) (wR []) (λKo Xy Xz h A5 yg=>?_)
 try dsimp only
 refine qq<|sr<|mv Y<|mv Y<|lE h λx6 h6 h=>ln Y h6<|lE h λx7 h7 h=>ls _ Y Y h7<|dn ?_;cases x7;refine cF<|cc<|aV.x<|aV.x<|bG.x<|aV.n ?_;obtain rfl:=O (F h);exact⟨(),yg _ Y,wR []⟩;refine cT<|bB<|aV.n<|qq<|bj<|qq ?_;refine bK (V h) (λJ0=>AS.cM 23 [(0,.sv (slc 1 (List.map (eS 4 eQ) x0))),(3,ai Ko),(22,aj J0)] [] []) (λh=>?_) (λIl h=>?_);refine aW<|mv Y<|mv Y<|bE h λep gO h=>ix Y Y gO<|lr Y Y<|lE h λfE lN h=>ln Y lN<|lE h λeH iZ h=>gt _ Y Y iZ<|mv Y<|bE h λNn eI h=>?_;cases eH;refine gm Y<|gm Y<|bE (F eI) λmN oa eI=>RT.Tg (.some Y Y) Y Y T oa<|gr Y Y<|bE eI λiE qb eI=>gc (CI qb) ⟨Y,aq⟩ ?_;obtain rfl:=O eI;exact pF Y<|dn<|⟨iE,h,wR []⟩;obtain rfl:=O (V eI);exact ww<|ww<|ww<|ww<|ww<|pT Y<|dn<|⟨true,h,wR []⟩
 try dsimp only
 refine aV.n ?_;cases Il;refine cF<|bB<|bG.n<|aV.n<|aW<|mv Y<|lE (F h) λx9 h9 h=>ad _ Y Y h9<|ag Y<|RT.done ?_;obtain rfl:=O h;exact aV.n ⟨x9,A5 _ Y,wR []⟩;refine cT<|sr<|ag Y<|dn<|bf<|bG.r<|aV.r ?_;obtain rfl:=O (V h);have adS:=yg _ Y;subst adS;refine aV.r<|bG.r<|aV.r<|aV.r ?_;obtain rfl:=O wW;exact R1 Y;subst A4
 try dsimp only
 refine aV.n<|sr<|ag Y<|dn<|bf ?_;obtain rfl:=O wW;exact R1 Y
theorem iO{x0:List (List (List Qr))}{r:Bool}(h:jE x0=some r):Pure ah 98 [slc 1 (List.map (eS 1 (eS 4 eQ)) x0)] (az r):=by
 refine bz Tryz.func98 Y (af Y) (λec M vs hvs=>?_);unfold jE at h;refine sr<|ag Y<|dn<|qq<|sr<|ag Y<|dn<|bE h λKm Ie mu=>?_;refine bT (λ(BO:Unit)=>AS.cM 31 [] [] []) (λBO=>.inl BO=Km) ?_ (λBO Ig=>?_);refine bj ?_;refine bU Ie (λKW=>AS.cM 31 [(0,.sv (slc 1 (List.map (eS 1 (eS 4 eQ)) x0))),(3,ai KW)] [] []) (wR []) (λuC y16 G16 h Ih CF=>?_)
 try dsimp only
 refine qq<|sr<|mv Y<|mv Y<|lE h λx6 h6 h=>ln Y h6<|lE h λx7 h7 h=>ls _ Y Y h7<|dn ?_;cases x7;refine cF<|cc<|aV.x<|aV.x<|bG.x<|aV.n ?_;obtain rfl:=O (F h);exact⟨(),CF _ Y,wR []⟩;refine cT<|bB<|aV.n<|qq<|bj<|qq ?_;refine bK (V h) (λj22=>AS.cM 31 [(0,.sv (slc 1 (List.map (eS 1 (eS 4 eQ)) x0))),(3,ai uC),(30,aj j22)] [] []) (λh=>?_) (λIm h=>?_);refine aW<|mv Y<|mv Y<|bE h λep gO h=>ix Y Y gO<|lr Y Y<|lE h λfE lN h=>ln Y lN<|lE h λeH iZ h=>gt _ Y Y iZ<|mv Y<|bE h λEw qW h=>?_;cases eH;refine gm Y<|gm Y<|bE (F qW) λmN oa qW=>RT.Tg (.some Y Y) Y Y T oa<|gr Y Y<|bE qW λiE qb qW=>gc (u0 qb) ⟨Y,aq⟩<|lE qW λjH oR qW=>gg _ Y Y oR ?_;obtain rfl:=O qW;refine pF Y<|mv Y<|bE h λadT td h=>?_;cases jH;refine gm Y<|gm Y<|bE (F td) λlQ rJ td=>RT.Tg (.some Y Y) Y Y T rJ<|gr Y Y<|bE td λiK nI td=>gc (gK nI) ⟨Y,aq⟩ ?_;obtain rfl:=O td;exact pF Y<|dn<|⟨iK,h,wR []⟩;obtain rfl:=O (V td);exact ww<|ww<|ww<|ww<|ww<|pT Y<|dn<|⟨true,h,wR []⟩;obtain rfl:=O (V qW);refine ww<|ww<|ww<|ww<|ww<|ww<|pT Y<|mv Y<|bE h λadU vV h=>?_;obtain rfl:=O (V vV);exact ww<|ww<|ww<|ww<|ww<|pT Y<|dn<|⟨true,h,wR []⟩
 try dsimp only
 refine aV.n ?_;cases Im;refine cF<|bB<|bG.n<|aV.n<|aW<|mv Y<|lE (F h) λx9 h9 h=>ad _ Y Y h9<|ag Y<|RT.done ?_;obtain rfl:=O h;exact aV.n ⟨x9,Ih _ Y,wR []⟩;refine cT<|sr<|ag Y<|dn<|bf<|bG.r<|aV.r ?_;obtain rfl:=O (V h);have Nj:=CF _ Y;subst Nj;refine aV.r<|bG.r<|aV.r<|aV.r ?_;obtain rfl:=O mu;exact R1 Y;subst Ig
 try dsimp only
 refine aV.n<|sr<|ag Y<|dn<|bf ?_;obtain rfl:=O mu;exact R1 Y
theorem BP{r:Lr}(h:mF=some r):Pure ah 53 [] (.agg (Fi r)):=by
 refine bz Tryz.func53 Y (af Y) (λec M vs hvs=>?_);unfold mF at h;refine sr<|al (cs:=[ay 0,slc 1 (List.map (eS 4 eQ) []),slc 1 (List.map (eS 4 eQ) []),slc 4 (List.map eQ [])]) (by exact⟨au,aB,aB,aB,aq⟩) Y<|dn<|sr<|bl (l:=[3,5]) (e:=cO) (.one Y (.one Y (.nil))) Y Y Y Y Y Y<|bl (l:=[[3,5]]) (e:=(eS 1 cO)) (.one Y (.nil)) Y Y Y Y Y Y<|bE h λx3 h3 h=>cl (rM h3) ⟨Y,aq⟩<|bl (l:=[1,0]) (e:=cO) (.one Y (.one Y (.nil))) Y Y Y Y Y Y ?_;refine bl (l:=[0,2]) (e:=cO) (.one Y (.one Y (.nil))) Y Y Y Y Y Y<|bl (l:=[3,2]) (e:=cO) (.one Y (.one Y (.nil))) Y Y Y Y Y Y<|bl (l:=[[1,0],[0,2],[3,2]]) (e:=(eS 1 cO)) (.one Y (.one Y (.one Y (.nil)))) Y Y Y Y Y Y<|bE h λx8 h8 h=>cl (rM h8) ⟨Y,aq⟩<|bl (l:=[4,12,18]) (e:=cO) (.one Y (.one Y (.one Y (.nil)))) Y Y Y Y Y Y<|bE h λdZ gM h=>cl (dR gM) ⟨Y,aq⟩ ?_;refine bI (cs:=[_,_,_,_]) (cs':=[ay 2,slc 1 (List.map (eS 4 eQ) x3),slc 1 (List.map (eS 4 eQ) x8),slc 4 (List.map eQ dZ)]) (.one Y (.one Y (.one Y (.one Y (.nil))))) ⟨au,au,au,au,aq⟩<|so Y Y Y<|dn<|bf ?_;obtain rfl:=O h;exact RZ (.agg Y Y (.k4 Y Y Y Y) Y (.nil))
theorem CJ{x0:List (List Qr)}{r:Bool}(h:lA x0=some r):Pure ah 97 [slc 1 (List.map (eS 4 eQ) x0)] (az r):=by
 refine bz Tryz.func97 Y (af Y) (λec M vs hvs=>?_);unfold lA at h;refine sr<|ag Y<|dn<|qq<|sr<|ag Y<|dn<|bE h λe6 DW nu=>?_;refine bT (λ(DX:Unit)=>AS.cM 16 [] [] []) (λDX=>.inl DX=e6) ?_ (λDX DY=>?_);refine bj ?_;refine bU DW (λs6=>AS.cM 16 [(0,.sv (slc 1 (List.map (eS 4 eQ) x0))),(3,ai s6)] [] []) (wR []) (λpM y6 G6 h DZ zD=>?_)
 try dsimp only
 refine qq<|sr<|mv Y<|mv Y<|lE h λx6 h6 h=>ln Y h6<|lE h λx7 h7 h=>ls _ Y Y h7<|dn ?_;cases x7;refine cF<|cc<|aV.x<|aV.x<|bG.x<|aV.n ?_;obtain rfl:=O (F h);exact⟨(),zD _ Y,wR []⟩;refine cT<|bB<|aV.n<|qq<|bj<|sr<|mv Y<|mv Y<|bE (V h) λep gO h=>ix Y Y gO<|lr Y Y<|lE h λfE lN h=>ln Y lN<|lE h λeH iZ h=>gt _ Y Y iZ<|dn ?_;cases eH;refine cF<|bB<|bG.n<|aV.n<|aW<|mv Y<|lE (F h) λx9 h9 h=>ad _ Y Y h9<|ag Y<|RT.done ?_;obtain rfl:=O h;exact aV.n ⟨x9,DZ _ Y,wR []⟩;refine cT<|sr<|ag Y<|dn<|bf<|bG.r<|aV.r ?_;obtain rfl:=O (V h);have Ma:=zD _ Y;subst Ma;refine aV.r<|bG.r<|aV.r<|aV.r ?_;obtain rfl:=O nu;exact R1 Y;subst DY
 try dsimp only
 refine aV.n<|sr<|ag Y<|dn<|bf ?_;obtain rfl:=O nu;exact R1 Y
theorem nS{x0:List Qr}{r:List Qr}(h:ni x0=some r):Pure ah 99 [slc 4 (List.map eQ x0)] (slc 4 (List.map eQ r)):=by
 refine bz Tryz.func99 Y (af Y) (λec M vs hvs=>?_);unfold ni at h;refine sr<|aI Y (aB (n:=4) (e:=eQ))<|dn<|sr<|mv Y<|mv Y<|lE h λx5 h5 h=>ln Y h5<|lE h λx6 h6 h=>RT.min .none _ Y Y T (HD (p:=x5) (q:=20) h6)<|bE h λx7 h7 h=>RT.xT .none 0 x6 Y Y ⟨_,Y⟩ T h7<|ag Y<|dn<|bf ?_;obtain rfl:=O h;exact R1 Y
set_option maxHeartbeats 4000000 in
theorem CK{x0:Lr}{r:Bool}(h:lB x0=some r):Pure ah 52 [.agg (Fi x0)] (az r):=by
 obtain⟨bp,bt,bC,bF⟩:=x0;refine bz Tryz.func52 Y (af Y) (λec M vs hvs=>?_);unfold lB at h;refine sr<|bx Y<|ag Y<|dn<|qq ?_;refine bK h (λj59=>AS.cM 56 [(2,aj j59)] [] []) (λh=>?_) (λSf h=>?_);refine aW<|fa Y Y<|lV Y Y Y<|lE h λx5 h5 h=>ln Y h5<|lE h λx6 h6 h=>gt _ Y Y h6<|mv Y<|bE h λNo GF h=>?_;cases x6;refine RT.fieldAddr (.some Y Y) Y T Y<|RT.sj (.some Y Y) Y Y Y T<|lE (F GF) λdZ gM GF=>gn Y gM<|lE GF λiJ pJ GF=>gg _ Y Y pJ ?_;obtain rfl:=O GF;refine pF Y<|mv Y<|bE h λadV GG h=>?_;cases iJ;refine RT.fieldAddr (.some Y Y) Y T Y<|RT.sj (.some Y Y) Y Y Y T<|lE (F GG) λgN kL GG=>gn Y kL<|lE GG λfJ kU GG=>gg _ Y Y kU ?_;obtain rfl:=O GG;refine pF Y<|mv Y<|bE h λadW BQ h=>?_;cases fJ;refine RT.fieldAddr (.some Y Y) Y T Y<|RT.sj (.some Y Y) Y Y Y T<|lE (F BQ) λjH oR BQ=>gn Y oR<|lE BQ λlP vB BQ=>gg _ Y Y vB<|gm Y<|bE BQ λadX GH BQ=>?_;cases lP;obtain rfl:=O (F GH);refine ww<|ww<|ww<|ww<|gF Y ?_;obtain rfl:=O BQ;refine pF Y<|mv Y<|bE h λadY CL h=>RT.fieldAddr (.some Y Y) Y T Y<|RT.sj (.some Y Y) Y Y Y T<|lE (F CL) λqQ wX CL=>gn Y wX<|lE CL λrR A6 CL=>RT.leq (.some Y Y) _ Y Y T A6<|gm Y<|bE CL λadZ Kp CL=>?_;cases rR;obtain rfl:=O (F Kp);refine ww<|ww<|ww<|ww<|gF Y ?_;obtain rfl:=O CL
 refine pF Y<|mv Y<|bE h λad0 Np h=>RT.fieldAddr (.some Y Y) Y T Y<|RT.sj (.some Y Y) Y Y Y T<|RT.eV (l:=[bt]) (e:=(eS 1 (eS 4 eQ))) (.some Y Y) (.one Y (.nil)) T Y Y Y Y Y Y<|bE (F Np) λvv A7 Np=>gc (iO A7) ⟨Y,aq⟩ ?_;obtain rfl:=O Np;refine pF Y<|mv Y<|bE h λad1 xo h=>?_;cases vv;refine RT.fieldAddr (.some Y Y) Y T Y<|RT.sj (.some Y Y) Y Y Y T<|bE (F xo) λya D2 xo=>gc (nS D2) ⟨Y,aq⟩<|RT.eV (l:=[ya]) (e:=(eS 4 eQ)) (.some Y Y) (.one Y (.nil)) T Y Y Y Y Y Y<|bE xo λFG KV xo=>gc (gK KV) ⟨Y,aq⟩ ?_;obtain rfl:=O xo;exact pF Y<|ag Y<|dn<|⟨FG,h,wR []⟩;obtain rfl:=O (V xo);exact ww<|ww<|ww<|ww<|ww<|pT Y<|ag Y<|dn<|⟨true,h,wR []⟩;refine RT.fieldAddr (.some Y Y) Y T Y<|RT.sj (.some Y Y) Y Y Y T<|RT.eV (l:=[bC]) (e:=(eS 1 (eS 4 eQ))) (.some Y Y) (.one Y (.nil)) T Y Y Y Y Y Y<|bE (V Kp) λmO rS Kp=>gc (iO rS) ⟨Y,aq⟩ ?_;obtain rfl:=O Kp;refine gT Y ?_;obtain rfl:=O CL;refine pF Y<|mv Y<|bE h λad2 Kq h=>?_;cases mO;refine RT.fieldAddr (.some Y Y) Y T Y<|RT.sj (.some Y Y) Y Y Y T<|RT.eV (l:=[bt]) (e:=(eS 1 (eS 4 eQ))) (.some Y Y) (.one Y (.nil)) T Y Y Y Y Y Y<|bE (F Kq) λvv A7 Kq=>gc (iO A7) ⟨Y,aq⟩ ?_;obtain rfl:=O Kq;refine pF Y<|mv Y<|bE h λad3 Kr h=>?_;cases vv
 refine RT.fieldAddr (.some Y Y) Y T Y<|RT.sj (.some Y Y) Y Y Y T<|bE (F Kr) λya D2 Kr=>gc (nS D2) ⟨Y,aq⟩<|RT.eV (l:=[ya]) (e:=(eS 4 eQ)) (.some Y Y) (.one Y (.nil)) T Y Y Y Y Y Y<|bE Kr λFG KV Kr=>gc (gK KV) ⟨Y,aq⟩ ?_;obtain rfl:=O Kr;exact pF Y<|ag Y<|dn<|⟨FG,h,wR []⟩;obtain rfl:=O (V Kr);exact ww<|ww<|ww<|ww<|ww<|pT Y<|ag Y<|dn<|⟨true,h,wR []⟩;obtain rfl:=O (V Kq);refine ww<|ww<|ww<|ww<|pT Y<|mv Y<|bE h λad4 ad5 h=>?_;obtain rfl:=O (V ad5);exact ww<|ww<|ww<|ww<|ww<|pT Y<|ag Y<|dn<|⟨true,h,wR []⟩;refine RT.fieldAddr (.some Y Y) Y T Y<|RT.sj (.some Y Y) Y Y Y T<|bE (V GH) λlQ rJ GH=>gc (CJ rJ) ⟨Y,aq⟩<|lE GH λnq vC GH=>O9 Y _ vC ?_;obtain rfl:=O GH;refine gT Y ?_;obtain rfl:=O BQ;refine pF Y<|mv Y<|bE h λad6 BR h=>?_;cases nq;refine RT.fieldAddr (.some Y Y) Y T Y<|RT.sj (.some Y Y) Y Y Y T<|lE (F BR) λqQ wX BR=>gn Y wX<|lE BR λrR A6 BR=>RT.leq (.some Y Y) _ Y Y T A6<|gm Y<|bE BR λad7 Ks BR=>?_;cases rR;obtain rfl:=O (F Ks);refine ww<|ww<|ww<|ww<|gF Y ?_;obtain rfl:=O BR
 refine pF Y<|mv Y<|bE h λad8 UT h=>RT.fieldAddr (.some Y Y) Y T Y<|RT.sj (.some Y Y) Y Y Y T<|RT.eV (l:=[bt]) (e:=(eS 1 (eS 4 eQ))) (.some Y Y) (.one Y (.nil)) T Y Y Y Y Y Y<|bE (F UT) λvv A7 UT=>gc (iO A7) ⟨Y,aq⟩ ?_;obtain rfl:=O UT;refine pF Y<|mv Y<|bE h λad9 Kt h=>?_;cases vv;refine RT.fieldAddr (.some Y Y) Y T Y<|RT.sj (.some Y Y) Y Y Y T<|bE (F Kt) λya D2 Kt=>gc (nS D2) ⟨Y,aq⟩<|RT.eV (l:=[ya]) (e:=(eS 4 eQ)) (.some Y Y) (.one Y (.nil)) T Y Y Y Y Y Y<|bE Kt λFG KV Kt=>gc (gK KV) ⟨Y,aq⟩ ?_;obtain rfl:=O Kt;exact pF Y<|ag Y<|dn<|⟨FG,h,wR []⟩;obtain rfl:=O (V Kt);exact ww<|ww<|ww<|ww<|ww<|pT Y<|ag Y<|dn<|⟨true,h,wR []⟩;refine RT.fieldAddr (.some Y Y) Y T Y<|RT.sj (.some Y Y) Y Y Y T<|RT.eV (l:=[bC]) (e:=(eS 1 (eS 4 eQ))) (.some Y Y) (.one Y (.nil)) T Y Y Y Y Y Y<|bE (V Ks) λmO rS Ks=>gc (iO rS) ⟨Y,aq⟩ ?_;obtain rfl:=O Ks;refine gT Y ?_;obtain rfl:=O BR;refine pF Y<|mv Y<|bE h λaea Ku h=>?_;cases mO;refine RT.fieldAddr (.some Y Y) Y T Y<|RT.sj (.some Y Y) Y Y Y T<|RT.eV (l:=[bt]) (e:=(eS 1 (eS 4 eQ))) (.some Y Y) (.one Y (.nil)) T Y Y Y Y Y Y<|bE (F Ku) λvv A7 Ku=>gc (iO A7) ⟨Y,aq⟩ ?_;obtain rfl:=O Ku;refine pF Y<|mv Y<|bE h λaeb GI h=>?_;cases vv
 refine RT.fieldAddr (.some Y Y) Y T Y<|RT.sj (.some Y Y) Y Y Y T<|bE (F GI) λya D2 GI=>gc (nS D2) ⟨Y,aq⟩<|RT.eV (l:=[ya]) (e:=(eS 4 eQ)) (.some Y Y) (.one Y (.nil)) T Y Y Y Y Y Y<|bE GI λFG KV GI=>gc (gK KV) ⟨Y,aq⟩ ?_;obtain rfl:=O GI;exact pF Y<|ag Y<|dn<|⟨FG,h,wR []⟩;obtain rfl:=O (V GI);exact ww<|ww<|ww<|ww<|ww<|pT Y<|ag Y<|dn<|⟨true,h,wR []⟩;obtain rfl:=O (V Ku);refine ww<|ww<|ww<|ww<|pT Y<|mv Y<|bE h λaec UU h=>?_;obtain rfl:=O (V UU);exact ww<|ww<|ww<|ww<|ww<|pT Y<|ag Y<|dn<|⟨true,h,wR []⟩;obtain rfl:=O (V BR);refine ww<|ww<|ww<|ww<|ww<|wu<|wu<|wu<|wu<|ww<|pT Y<|mv Y<|bE h λaed zP h=>?_;obtain rfl:=O (V zP);refine ww<|ww<|ww<|ww<|pT Y<|mv Y<|bE h λaee Kv h=>?_;obtain rfl:=O (V Kv);exact ww<|ww<|ww<|ww<|ww<|pT Y<|ag Y<|dn<|⟨true,h,wR []⟩;obtain rfl:=O (V BQ);refine ww<|ww<|ww<|ww<|ww<|wu<|wu<|wu<|wu<|ww<|pT Y<|mv Y<|bE h λaef aeg h=>?_;obtain rfl:=O (V aeg);refine ww<|ww<|ww<|ww<|ww<|wu<|wu<|wu<|wu<|ww<|pT Y<|mv Y<|bE h λaeh aei h=>?_;obtain rfl:=O (V aei);refine ww<|ww<|ww<|ww<|pT Y<|mv Y<|bE h λZS Ys h=>?_;obtain rfl:=O (V Ys);exact ww<|ww<|ww<|ww<|ww<|pT Y<|ag Y<|dn<|⟨true,h,wR []⟩;obtain rfl:=O (V GG);refine ww<|ww<|ww<|ww<|pT Y<|mv Y<|bE h λZT Yt h=>?_
 obtain rfl:=O (V Yt);refine ww<|ww<|ww<|ww<|ww<|wu<|wu<|wu<|wu<|ww<|pT Y<|mv Y<|bE h λZU Yu h=>?_;obtain rfl:=O (V Yu);refine ww<|ww<|ww<|ww<|ww<|wu<|wu<|wu<|wu<|ww<|pT Y<|mv Y<|bE h λZV Yv h=>?_;obtain rfl:=O (V Yv);refine ww<|ww<|ww<|ww<|pT Y<|mv Y<|bE h λZW Yw h=>?_;obtain rfl:=O (V Yw);exact ww<|ww<|ww<|ww<|ww<|pT Y<|ag Y<|dn<|⟨true,h,wR []⟩;obtain rfl:=O (V GF);refine ww<|ww<|ww<|ww<|pT Y<|mv Y<|bE h λZX Yx h=>?_;obtain rfl:=O (V Yx);refine ww<|ww<|ww<|ww<|pT Y<|mv Y<|bE h λZY Yy h=>?_;obtain rfl:=O (V Yy);refine ww<|ww<|ww<|ww<|ww<|wu<|wu<|wu<|wu<|ww<|pT Y<|mv Y<|bE h λZZ Yz h=>?_;obtain rfl:=O (V Yz);refine ww<|ww<|ww<|ww<|ww<|wu<|wu<|wu<|wu<|ww<|pT Y<|mv Y<|bE h λZ0 YA h=>?_;obtain rfl:=O (V YA);refine ww<|ww<|ww<|ww<|pT Y<|mv Y<|bE h λZ1 YB h=>?_;obtain rfl:=O (V YB);exact ww<|ww<|ww<|ww<|ww<|pT Y<|ag Y<|dn<|⟨true,h,wR []⟩
 try dsimp only
 refine aV.n<|bf ?_;obtain rfl:=O h;exact R1 Y
end
section
open Go.Fw
noncomputable def lC(x0:List Int)(x1:List Int):Option (Bool):=(some (x0.length:Int)).bind λx7=>(some (x1.length:Int)).bind λx9=>(some (decide ((x7:Int)≠x9))).bind λdZ=>(bif dZ then some false else(cu (λ(rO:Int)=>(show Option ((Int)⊕((Unit)⊕(Bool)))from(some (x0.length:Int)).bind λgh=>(some (decide ((rO:Int)<gh))).bind λfE=>(bif fE then(cW x0 rO).bind λmN=>(cW x1 rO).bind λlP=>(some (decide ((mN:Int)≠lP))).bind λyY=>(bif yY then some (.inr (.inr false))else(some (IntKind.i64.wrap (rO+1))).bind λgN=>some (.inl gN))else some (.inr (.inl ()))))) 0).bind λe6=>match e6 with|.inr v6=>some v6|.inl _=>some true)
noncomputable def ei:Option (Bool):=(mF).bind λ⟨YC,YD,YE,YF⟩=>(gI ⟨YC,YD,YE,YF⟩).bind λ⟨uD,uE,Kw,Kx,Ky⟩=>cQ (λ(Nq:Bool)=>(bif Nq then some false else(bD uD uE Kw Kx Ky 1 1).bind λ⟨mO,Wi,OF,Wj⟩=>cQ (λ(Io:Bool)=>(bif Io then some false else(bD uD uE Wi OF Wj 2 0).bind λ⟨x64,Wk,Wm,Wn⟩=>cQ (λ(Sg:Bool)=>some Sg) λZL=>(some (decide ((x64:Int)=0))).bind λKS=>(bif KS then(fO (⟨uD,uE,Wk,Wm,Wn⟩:Tb)).bind λLY=>(cX [2,6,2]).bind λRY=>(dH LY RY).bind λOD=>some OD else some false).bind λNr=>(bif Nr then(ig (⟨uD,uE,Wk,Wm,Wn⟩:Tb)).bind λx76=>(cX [2,6]).bind λx78=>(dH x76 x78).bind λKU=>some KU else some false).bind λUW=>(bif UW then(iv (⟨uD,uE,Wk,Wm,Wn⟩:Tb)).bind λWo=>(cX [36,(-2),(-6)]).bind λXe=>(dH Wo Xe).bind λPj=>some Pj else some false).bind λUX=>(bif UX then(gH (⟨uD,uE,Wk,Wm,Wn⟩:Tb)).bind λPk=>some Pk else some false).bind λUY=>(bif UY then(ij (⟨uD,uE,Wk,Wm,Wn⟩:Tb)).bind λx94=>some x94 else some false).bind λUZ=>ZL UZ)) λZN=>(some (decide ((mO:Int)≠0))).bind λsy=>(bif sy then some true else(fO (⟨uD,uE,Wi,OF,Wj⟩:Tb)).bind λDR=>(cX [4,6,6]).bind λvv=>(dH DR vv).bind λux=>(some (!ux)).bind λOB=>some OB).bind λNs=>(bif Ns then some true else(iv (⟨uD,uE,Wi,OF,Wj⟩:Tb)).bind λR9=>(cX [30,0,(-6)]).bind λzC=>(dH R9 zC).bind λET=>(some (!ET)).bind λPe=>some Pe).bind λU0=>(bif U0 then some true else(gH (⟨uD,uE,Wi,OF,Wj⟩:Tb)).bind λHF=>some HF).bind λU1=>ZN U1)) λRN=>(bif false then none else some false).bind λNt=>(bif Nt then some true else(jr (⟨uD,uE,Kw,Kx,Ky⟩:Tb)).bind λfC=>(lC fC [2,3,4]).bind λiU=>(some (!iU)).bind λiE=>some iE).bind λU3=>(bif U3 then some true else(fO (⟨uD,uE,Kw,Kx,Ky⟩:Tb)).bind λyY=>(cX [4,12,18]).bind λlQ=>(dH yY lQ).bind λnq=>(some (!nq)).bind λiK=>some iK).bind λU4=>(bif U4 then some true else(dy (⟨uD,uE,Kw,Kx,Ky⟩:Tb) 0).bind λtZ=>(cX [(-3),1,0]).bind λrR=>(dH tZ rR).bind λpR=>(some (!pR)).bind λuN=>some uN).bind λU5=>RN U5
end
section
open Go.Fw Go.Fw.Z Go.RowKit
theorem CM{x0:List Int}{x1:List Int}{r:Bool}(h:lC x0 x1=some r):Pure ah 45 [slc 1 (List.map cO x0),slc 1 (List.map cO x1)] (az r):=by
 refine bz Tryz.func45 Y (af Y) (λec M vs hvs=>?_);unfold lC at h;refine sr<|ag Y<|dn<|qq<|sr<|mv Y<|lE h λx7 h7 h=>ln Y h7<|mv Y<|lE h λx9 h9 h=>ln Y h9<|lE h λdZ gM h=>ne _ Y Y (HC (p:=x7) (q:=x9) gM)<|dn ?_;cases dZ;refine fs<|qq<|sr<|ag Y<|dn<|bE (F h) λe6 DW nu=>?_;refine bT (λ(DX:Unit)=>AS.cM 26 [] [] []) (λDX=>.inl DX=e6) ?_ (λDX DY=>?_);refine bj ?_;refine bU DW (λs6=>AS.cM 26 [(0,.sv (slc 1 (List.map cO x0))),(1,.sv (slc 1 (List.map cO x1))),(5,ai s6)] [] []) (wR []) (λrO y6 G6 h DZ zD=>?_)
 try dsimp only
 refine qq<|sr<|mv Y<|mv Y<|lE h λgh jJ h=>ln Y jJ<|lE h λfE lN h=>ls _ Y Y lN<|dn ?_;cases fE;refine cF<|cc<|aV.x<|aV.x<|bG.x<|aV.n ?_;obtain rfl:=O (F h);exact⟨(),zD _ Y,wR []⟩;refine cT<|bB<|aV.n<|qq<|bj<|qq<|bh mixed<|mv Y<|mv Y<|bE (V h) λmN oa h=>ix Y Y oa<|lr Y Y<|mv Y<|mv Y<|bE h λlP vB h=>ix Y Y vB<|lr Y Y<|lE h λyY yh h=>ne _ Y Y (HC (p:=mN) (q:=lP) yh) ?_;refine RT.done ⟨by kernel_rfl,?_⟩;refine aV.n ?_;cases yY;refine cF<|bB<|bG.n<|aV.n<|aW<|mv Y<|lE (F h) λgN kL h=>ad _ Y Y kL<|ag Y<|RT.done ?_;obtain rfl:=O h;exact aV.n ⟨gN,DZ _ Y,wR []⟩;refine cT<|sr<|ag Y<|dn<|bf<|bG.r<|aV.r ?_;obtain rfl:=O (V h);have Ma:=zD _ Y;subst Ma;refine aV.r<|bG.r<|aV.r<|aV.r ?_;obtain rfl:=O nu;exact R1 Y;subst DY
 try dsimp only
 refine aV.n<|sr<|ag Y<|dn<|bf ?_;obtain rfl:=O nu;exact R1 Y;refine cT<|sr<|ag Y<|dn<|bf<|aV.r ?_;obtain rfl:=O (V h);exact R1 Y
set_option maxHeartbeats 4000000 in
theorem lD{r:Bool}(h:ei=some r):Pure ah 10 [] (az r):=by
 refine bz Tryz.func10 Y (af Y) (λec M vs hvs=>?_);unfold ei at h;refine sr<|ag Y<|dn<|sr ?_;obtain⟨⟨YC,YD,YE,YF⟩,h6,h⟩:=bS h;refine cl (BP h6) trivial ?_;obtain⟨⟨uD,uE,Kw,Kx,Ky⟩,h7,h⟩:=bS h;refine RT.I6 .none (tu h7) [304,305,306] (by decide) Y ⟨⟨Y,T⟩,⟨Y,T⟩,⟨Y,T⟩,aq⟩ Y ⟨Y,aq⟩ T Y Y<|mo (s:=.cmp _ _) Y<|RT.xj .none Y Y T<|RT.xj .none Y Y T<|an (s:=.ptr _ _) Y<|ag Y<|dn<|qq<|qq ?_;refine bK h (λUx=>AS.cM 96 [(1,.ptr 7 0),(38,aj Ux)] [(7,⟨79,[aj uD,ai uE,.row 304,.row 305,.row 306]⟩)] [(304,TR 23 1 (eS 4 eQ) Kw),(305,TR 3 1 cO Kx),(306,TR 23 1 (eS 4 eQ) Ky)]) (λh=>?_) (λNq h=>?_);refine aW<|mv Y<|ne false Y Y (by decide)<|mv Y<|bE h λNt Np h=>RT.move (.some Y Y) (s:=.ptr _ _) Y T<|RT.MJ (.some Y Y) Y Y T ?_;obtain rfl:=O (F Np);refine pF Y<|mv Y<|bE h λael xo h=>RT.move (.some Y Y) (s:=.ptr _ _) Y T<|bE (F xo) λfC jY xo=>RT.jq (.some Y Y) (Et jY) 7 [304,305,306] Y ⟨Y,Y,Y,aq⟩ (by decide) Y Y (.cons Y (.nil)) T<|RT.eV (l:=[2,3,4]) (e:=cO) (.some Y Y) (.one Y (.one Y (.one Y (.nil)))) T Y Y Y Y Y Y<|bE xo λiU pK xo=>gc (CM pK) ⟨Y,Y,aq⟩<|lE xo λiE qb xo=>O9 Y _ qb ?_;obtain rfl:=O xo;refine pF Y<|mv Y<|bE h λaem CN h=>?_;cases iE
 refine RT.move (.some Y Y) (s:=.ptr _ _) Y T<|bE (F CN) λyY yh CN=>RT.jq (.some Y Y) (qZ yh) 7 [304,305,306] Y ⟨Y,Y,Y,aq⟩ (by decide) Y Y (.cons Y (.nil)) T<|RT.eV (l:=[4,12,18]) (e:=cO) (.some Y Y) (.one Y (.one Y (.one Y (.nil)))) T Y Y Y Y Y Y<|bE CN λlQ rJ CN=>gc (dR rJ) ⟨Y,aq⟩<|bE CN λnq vC CN=>gc (fF vC) ⟨Y,Y,aq⟩<|lE CN λiK nI CN=>O9 Y _ nI ?_;obtain rfl:=O CN;refine pF Y<|mv Y<|bE h λaen CO h=>?_;cases iK;refine RT.move (.some Y Y) (s:=.ptr _ _) Y T<|bE (F CO) λtZ Ab CO=>RT.jq (.some Y Y) (vU Ab) 7 [304,305,306] Y ⟨Y,Y,Y,aq⟩ (by decide) Y Y (.k2 Y Y) T<|RT.eV (l:=[(-3),1,0]) (e:=cO) (.some Y Y) (.one Y (.one Y (.one Y (.nil)))) T Y Y Y Y Y Y<|bE CO λrR A6 CO=>gc (dR A6) ⟨Y,aq⟩<|bE CO λpR w6 CO=>gc (fF w6) ⟨Y,Y,aq⟩<|lE CO λuN D3 CO=>?_;refine O9 Y _ D3 ?_;obtain rfl:=O CO;exact pF Y<|dn<|⟨uN,h,wR []⟩;obtain rfl:=O (V CO);exact ww<|ww<|ww<|ww<|ww<|ww<|pT Y<|dn<|⟨true,h,wR []⟩;obtain rfl:=O (V CN);refine ww<|ww<|ww<|ww<|ww<|ww<|pT Y<|mv Y<|bE h λaeo aep h=>?_;obtain rfl:=O (V aep);exact ww<|ww<|ww<|ww<|ww<|ww<|pT Y<|dn<|⟨true,h,wR []⟩
 try dsimp only
 refine aV.n ?_;cases Nq;refine fs<|sr<|mo (s:=.ptr _ _) Y ?_;obtain⟨⟨mO,Wi,OF,Wj⟩,rS,h⟩:=bS (F h);refine RT.I4 .none (gJ rS) 7 [304,305,306] [310,311,312] Y ⟨Y,Y,Y,aq⟩ (by decide) (by decide) Y ⟨⟨Y,T⟩,⟨Y,T⟩,⟨Y,T⟩,aq⟩ Y Y (.k3 Y Y Y) T<|ag Y<|dn<|qq<|qq ?_;refine bK h (λQ2=>AS.cM 96 [(1,.ptr 7 0),(62,aj Q2)] [(7,⟨79,[aj uD,ai uE,.row 310,.row 311,.row 312]⟩)] [(310,TR 23 1 (eS 4 eQ) Wi),(311,TR 3 1 cO OF),(312,TR 23 1 (eS 4 eQ) Wj)]) (λh=>?_) (λIo h=>?_);refine aW<|mv Y<|lE h λsy D1 h=>ne _ Y Y (HC (p:=mO) (q:=0) D1)<|mv Y<|bE h λNs CP h=>?_;cases sy;refine RT.move (.some Y Y) (s:=.ptr _ _) Y T<|bE (F CP) λDR Mc CP=>RT.jq (.some Y Y) (qZ Mc) 7 [310,311,312] Y ⟨Y,Y,Y,aq⟩ (by decide) Y Y (.cons Y (.nil)) T<|RT.eV (l:=[4,6,6]) (e:=cO) (.some Y Y) (.one Y (.one Y (.one Y (.nil)))) T Y Y Y Y Y Y<|bE CP λvv A7 CP=>gc (dR A7) ⟨Y,aq⟩<|bE CP λux h48 CP=>gc (fF h48) ⟨Y,Y,aq⟩<|lE CP λOB TI CP=>O9 Y _ TI ?_;obtain rfl:=O CP;refine pF Y<|mv Y<|bE h λaeq zP h=>?_;cases OB
 refine RT.move (.some Y Y) (s:=.ptr _ _) Y T<|bE (F zP) λR9 TM zP=>RT.jq (.some Y Y) (q9 TM) 7 [310,311,312] Y ⟨Y,Y,Y,aq⟩ (by decide) Y Y (.cons Y (.nil)) T<|RT.eV (l:=[30,0,(-6)]) (e:=cO) (.some Y Y) (.one Y (.one Y (.one Y (.nil)))) T Y Y Y Y Y Y<|bE zP λzC J5 zP=>gc (dR J5) ⟨Y,aq⟩<|bE zP λET Me zP=>gc (fF Me) ⟨Y,Y,aq⟩<|lE zP λPe XE zP=>O9 Y _ XE ?_;obtain rfl:=O zP;refine pF Y<|mv Y<|bE h λaer Kv h=>?_;cases Pe;refine RT.move (.some Y Y) (s:=.ptr _ _) Y T<|bE (F Kv) λHF TK Kv=>RT.jq (.some Y Y) (tq TK) 7 [310,311,312] Y ⟨Y,Y,Y,aq⟩ (by decide) Y Y (.cons Y (.nil)) T ?_;obtain rfl:=O Kv;exact pF Y<|dn<|⟨HF,h,wR []⟩;obtain rfl:=O (V Kv);exact ww<|ww<|pT Y<|dn<|⟨true,h,wR []⟩;obtain rfl:=O (V zP);refine ww<|ww<|ww<|ww<|ww<|ww<|pT Y<|mv Y<|bE h λaes CL h=>?_;obtain rfl:=O (V CL);exact ww<|ww<|pT Y<|dn<|⟨true,h,wR []⟩;obtain rfl:=O (V CP);refine ww<|ww<|ww<|ww<|ww<|ww<|pT Y<|mv Y<|bE h λaet Kp h=>?_;obtain rfl:=O (V Kp);refine ww<|ww<|ww<|ww<|ww<|ww<|pT Y<|mv Y<|bE h λaeu Kq h=>?_;obtain rfl:=O (V Kq);exact ww<|ww<|pT Y<|dn<|⟨true,h,wR []⟩
 try dsimp only
 refine aV.n ?_;cases Io;refine fs<|sr<|mo (s:=.ptr _ _) Y ?_;obtain⟨⟨x64,Wk,Wm,Wn⟩,h64,h⟩:=bS (F h);refine RT.I4 .none (gJ h64) 7 [310,311,312] [316,317,318] Y ⟨Y,Y,Y,aq⟩ (by decide) (by decide) Y ⟨⟨Y,T⟩,⟨Y,T⟩,⟨Y,T⟩,aq⟩ Y Y (.k3 Y Y Y) T<|ag Y<|dn<|qq ?_;refine bK h (λQI=>AS.cM 96 [(0,aj QI)] [] []) (λh=>?_) (λSg h=>?_);refine aW<|mv Y<|lE h λKS XG h=>eq _ Y Y (xI (p:=x64) (q:=0) XG)<|mv Y<|bE h λNr GJ h=>?_;cases KS;obtain rfl:=O (F GJ);refine ww<|ww<|ww<|ww<|ww<|pF Y<|mv Y<|bE h λaev Ks h=>?_;obtain rfl:=O (F Ks);refine ww<|ww<|ww<|ww<|ww<|pF Y<|mv Y<|bE h λaew Ku h=>?_;obtain rfl:=O (F Ku);refine ww<|ww<|ww<|ww<|ww<|pF Y<|mv Y<|bE h λaex GI h=>?_;obtain rfl:=O (F GI);refine ww<|ww<|pF Y<|mv Y<|bE h λaey UU h=>?_;obtain rfl:=O (F UU);exact ww<|ww<|pF Y<|ag Y<|dn<|⟨false,h,wR []⟩;refine RT.move (.some Y Y) (s:=.ptr _ _) Y T<|bE (V GJ) λLY XI GJ=>RT.jq (.some Y Y) (qZ XI) 7 [316,317,318] Y ⟨Y,Y,Y,aq⟩ (by decide) Y Y (.cons Y (.nil)) T<|RT.eV (l:=[2,6,2]) (e:=cO) (.some Y Y) (.one Y (.one Y (.one Y (.nil)))) T Y Y Y Y Y Y<|bE GJ λRY Yl GJ=>gc (dR Yl) ⟨Y,aq⟩<|bE GJ λOD XK GJ=>gc (fF XK) ⟨Y,Y,aq⟩ ?_;obtain rfl:=O GJ;refine pT Y<|mv Y<|bE h λaez GK h=>?_;cases OD;obtain rfl:=O (F GK)
 refine ww<|ww<|ww<|ww<|ww<|pF Y<|mv Y<|bE h λaeA BQ h=>?_;obtain rfl:=O (F BQ);refine ww<|ww<|ww<|ww<|ww<|pF Y<|mv Y<|bE h λaeB GH h=>?_;obtain rfl:=O (F GH);refine ww<|ww<|pF Y<|mv Y<|bE h λaeC BR h=>?_;obtain rfl:=O (F BR);exact ww<|ww<|pF Y<|ag Y<|dn<|⟨false,h,wR []⟩;refine RT.move (.some Y Y) (s:=.ptr _ _) Y T<|bE (V GK) λx76 h76 GK=>RT.jq (.some Y Y) (zN h76) 7 [316,317,318] Y ⟨Y,Y,Y,aq⟩ (by decide) Y Y (.cons Y (.nil)) T<|RT.eV (l:=[2,6]) (e:=cO) (.some Y Y) (.one Y (.one Y (.nil))) T Y Y Y Y Y Y<|bE GK λx78 h78 GK=>gc (dR h78) ⟨Y,aq⟩<|bE GK λKU TO GK=>gc (fF TO) ⟨Y,Y,aq⟩ ?_;obtain rfl:=O GK;refine pT Y<|mv Y<|bE h λaeD GL h=>?_;cases KU;obtain rfl:=O (F GL);refine ww<|ww<|ww<|ww<|ww<|pF Y<|mv Y<|bE h λaeE GF h=>?_;obtain rfl:=O (F GF);refine ww<|ww<|pF Y<|mv Y<|bE h λaeF GG h=>?_;obtain rfl:=O (F GG);exact ww<|ww<|pF Y<|ag Y<|dn<|⟨false,h,wR []⟩;refine RT.move (.some Y Y) (s:=.ptr _ _) Y T<|bE (V GL) λWo h83 GL=>RT.jq (.some Y Y) (q9 h83) 7 [316,317,318] Y ⟨Y,Y,Y,aq⟩ (by decide) Y Y (.cons Y (.nil)) T<|RT.eV (l:=[36,(-2),(-6)]) (e:=cO) (.some Y Y) (.one Y (.one Y (.one Y (.nil)))) T Y Y Y Y Y Y<|bE GL λXe h85 GL=>gc (dR h85) ⟨Y,aq⟩<|bE GL λPj XL GL=>gc (fF XL) ⟨Y,Y,aq⟩ ?_
 obtain rfl:=O GL;refine pT Y<|mv Y<|bE h λaeH PL h=>?_;cases Pj;obtain rfl:=O (F PL);refine ww<|ww<|pF Y<|mv Y<|bE h λaeI aeJ h=>?_;obtain rfl:=O (F aeJ);exact ww<|ww<|pF Y<|ag Y<|dn<|⟨false,h,wR []⟩;refine RT.move (.some Y Y) (s:=.ptr _ _) Y T<|bE (V PL) λPk XN PL=>RT.jq (.some Y Y) (tq XN) 7 [316,317,318] Y ⟨Y,Y,Y,aq⟩ (by decide) Y Y (.cons Y (.nil)) T ?_;obtain rfl:=O PL;refine pT Y<|mv Y<|bE h λaeK PM h=>?_;cases Pk;obtain rfl:=O (F PM);exact ww<|ww<|pF Y<|ag Y<|dn<|⟨false,h,wR []⟩;refine RT.move (.some Y Y) (s:=.ptr _ _) Y T<|bE (V PM) λx94 h94 PM=>RT.jq (.some Y Y) (zO h94) 7 [316,317,318] Y ⟨Y,Y,Y,aq⟩ (by decide) Y Y (.cons Y (.nil)) T ?_;obtain rfl:=O PM;exact pT Y<|ag Y<|dn<|⟨x94,h,wR []⟩
 try dsimp only
 refine aV.n<|bf ?_;obtain rfl:=O h;exact R1 Y;refine cT<|sr<|ag Y<|dn<|bf<|aV.r ?_;obtain rfl:=O (V h);exact R1 Y;refine cT<|sr<|ag Y<|dn<|bf<|aV.r ?_;obtain rfl:=O (V h);exact R1 Y
end
section
open Go.Fw
noncomputable def oD(x0:Lr):Option (Unit):=match x0 with|⟨bp,bt,bC,bF⟩=>(fT ⟨bp,bt,bC,bF⟩).bind λx5=>(some (!x5)).bind λx6=>(bif x6 then some ()else(dY ⟨bp,bt,bC,bF⟩).bind λ⟨vH,vI,Bi,Bj,PA⟩=>none)
noncomputable def jF(x0:Lr):Option (Bool):=match x0 with|⟨bp,bt,bC,bF⟩=>cQ (λ(Sh:Bool)=>some Sh) λKQ=>(lB ⟨bp,bt,bC,bF⟩).bind λx4=>(bif x4 then some true else(some (bC.length:Int)).bind λx8=>(some (decide ((5:Int)<x8))).bind λx9=>(bif x9 then(kI ⟨bp,bt,bC,bF⟩).bind λep=>some ep else some false).bind λNu=>some Nu).bind λxY=>(bif xY then some true else(some (decide ((6:Int)<bp))).bind λfC=>(bif fC then(kI ⟨bp,bt,bC,bF⟩).bind λiE=>some iE else some false).bind λU6=>some U6).bind λEw=>KQ Ew
end
section
open Go.Fw Go.Fw.Z Go.RowKit
theorem GM{x0:Lr}{r:Unit}(h:oD x0=some r):Pure ah 12 [.agg (Fi x0)] (.yM [.v (.pointer none),ay 1]):=by
 obtain⟨bp,bt,bC,bF⟩:=x0;refine bz Tryz.func12 Y (af Y) (λec M vs hvs=>?_);unfold oD at h;refine sr<|bx Y<|ag Y<|ag Y<|dn<|qq<|sr<|ld Y Y (.k4 Y Y Y Y)<|bE h λx5 h5 h=>cl (tc h5) ⟨Y,aq⟩<|lE h λx6 h6 h=>nt Y _ h6<|dn ?_;cases x6;refine fs<|sr<|ld Y Y (.k4 Y Y Y Y) ?_;obtain⟨⟨vH,vI,Bi,Bj,PA⟩,h8,h⟩:=bS (F h);refine RT.MK .none (lT h8) [304,305,306] (by decide) Y ⟨⟨Y,T⟩,⟨Y,T⟩,⟨Y,T⟩,aq⟩ Y ⟨Y,aq⟩ T Y Y<|an (s:=.ptr _ _) Y<|ag Y<|dn<|bf ?_;cases h;refine cT<|sr<|ag Y<|ag Y<|dn<|bf<|aV.r ?_;obtain rfl:=O (V h);exact R2 Y Y
theorem vc{x0:Lr}{r:Bool}(h:jF x0=some r):Pure ah 9 [.agg (Fi x0)] (az r):=by
 obtain⟨bp,bt,bC,bF⟩:=x0;refine bz Tryz.func9 Y (af Y) (λec M vs hvs=>?_);unfold jF at h;refine sr<|bx Y<|ag Y<|dn<|qq ?_;refine bK h (λJ0=>AS.cM 24 [(2,aj J0)] [] []) (λh=>?_) (λSh h=>?_);refine aW<|ld Y Y (.k4 Y Y Y Y)<|bE h λx4 h4 h=>cl (CK h4) ⟨Y,aq⟩<|mv Y<|bE h λxY eI h=>?_;cases x4;refine RT.fieldAddr (.some Y Y) Y T Y<|RT.sj (.some Y Y) Y Y Y T<|lE (F eI) λx8 h8 eI=>gn Y h8<|lE eI λx9 h9 eI=>gg _ Y Y h9<|gm Y<|bE eI λNu PN eI=>?_;cases x9;obtain rfl:=O (F PN);refine ww<|ww<|gF Y ?_;obtain rfl:=O eI;refine pF Y<|mv Y<|bE h λaeL nx h=>RT.fieldAddr (.some Y Y) Y T Y<|RT.sj (.some Y Y) Y Y Y T<|lE (F nx) λfC jY nx=>gg _ Y Y jY<|gm Y<|bE nx λaeM uz nx=>?_;cases fC;obtain rfl:=O (F uz);refine ww<|ww<|gF Y ?_;obtain rfl:=O nx;exact pF Y<|ag Y<|dn<|⟨false,h,wR []⟩;refine gl Y Y (.k4 Y Y Y Y)<|bE (V uz) λiE qb uz=>gc (rf qb) ⟨Y,aq⟩ ?_;obtain rfl:=O uz;refine gT Y ?_;obtain rfl:=O nx;exact pF Y<|ag Y<|dn<|⟨iE,h,wR []⟩;refine gl Y Y (.k4 Y Y Y Y)<|bE (V PN) λep gO PN=>gc (rf gO) ⟨Y,aq⟩ ?_;obtain rfl:=O PN;refine gT Y ?_;obtain rfl:=O eI;refine pF Y<|mv Y<|bE h λaeN Ip h=>?_;cases ep
 refine RT.fieldAddr (.some Y Y) Y T Y<|RT.sj (.some Y Y) Y Y Y T<|lE (F Ip) λfC jY Ip=>gg _ Y Y jY<|gm Y<|bE Ip λaeO mW Ip=>?_;cases fC;obtain rfl:=O (F mW);refine ww<|ww<|gF Y ?_;obtain rfl:=O Ip;exact pF Y<|ag Y<|dn<|⟨false,h,wR []⟩;refine gl Y Y (.k4 Y Y Y Y)<|bE (V mW) λiE qb mW=>gc (rf qb) ⟨Y,aq⟩ ?_;obtain rfl:=O mW;refine gT Y ?_;obtain rfl:=O Ip;exact pF Y<|ag Y<|dn<|⟨iE,h,wR []⟩;obtain rfl:=O (V Ip);exact ww<|ww<|ww<|ww<|wu<|wu<|ww<|pT Y<|ag Y<|dn<|⟨true,h,wR []⟩;obtain rfl:=O (V eI);refine ww<|ww<|ww<|ww<|ww<|wu<|wu<|ww<|pT Y<|mv Y<|bE h λUy CE h=>?_;obtain rfl:=O (V CE);exact ww<|ww<|ww<|ww<|wu<|wu<|ww<|pT Y<|ag Y<|dn<|⟨true,h,wR []⟩
 try dsimp only
 refine aV.n<|bf ?_;obtain rfl:=O h;exact R1 Y
end
section
open Go.Fw
noncomputable def eK(x0:Lr)(x1:List Pv)(x2:List Qr):Option (Bool):=match x0 with|⟨bp,bt,bC,bF⟩=>cQ (λ(BS:Bool)=>(bif BS then(ei).bind λik=>some ik else(gI ⟨bp,bt,bC,bF⟩).bind λ⟨sD,rI,Nv,Nw,Nx⟩=>cQ (λ(Ny:Bool)=>(bif Ny then cQ (λ(Si:Bool)=>some Si) λK18=>(bif false then none else some false).bind λNz=>(bif Nz then(ei).bind λwQ=>some wQ else some false).bind λU7=>K18 U7 else(cu (λ(OG:Int×(List (List Qr))×(List Int)×(List (List Qr)))=>match OG with|⟨ve,ri,rj,ru⟩=>(show Option ((Int×(List (List Qr))×(List Int)×(List (List Qr)))⊕((List (List Qr))×(List Int)×(List (List Qr))))from(some (x1.length:Int)).bind λux=>(some (decide ((ve:Int)<ux))).bind λOB=>(bif OB then(cW x1 ve).bind λ⟨Sj,YG⟩=>(cW x1 ve).bind λ⟨YH,Sk⟩=>(bD sD rI ri rj ru Sj Sk).bind λ⟨Tp,YI,JX,YJ⟩=>(some (IntKind.i64.wrap (ve+1))).bind λCr=>some (.inl (Cr,YI,JX,YJ))else some (.inr (ri,rj,ru))))) (0,Nv,Nw,Nx)).bind λe33=>match e33 with|⟨xp,xq,xu⟩=>(gy x2 bp).bind λIZ=>(mD IZ bp).bind λRY=>(oB ⟨bp,bt,bC,bF⟩ IZ).bind λV5=>(wh 64 RY V5).bind λx75=>(mm (⟨sD,rI,xp,xq,xu⟩:Tb)).bind λx77=>(jz x77 x75).bind λKU=>(fO (⟨sD,rI,xp,xq,xu⟩:Tb)).bind λx81=>(dH KU x81).bind λx82=>(some (!x82)).bind λWo=>(bif Wo then some false else(lj ⟨bp,bt,bC,bF⟩ IZ).bind λPj=>(cG (-1)).bind λ⟨⟨Sl,Sn⟩,⟨So,Sq⟩⟩=>(jo ⟨⟨Sl,Sn⟩,⟨So,Sq⟩⟩ IZ).bind λTu=>(wh 64 Pj Tu).bind λPk=>cQ (λ(Sr:Bool)=>some Sr) λK42=>(iv (⟨sD,rI,xp,xq,xu⟩:Tb)).bind λV6=>(eR (⟨sD,rI,xp,xq,xu⟩:Tb)).bind λx96=>(jA x75 x96).bind λXf=>(mg V6 Xf).bind λUG=>(dH Pk UG).bind λx99=>(bif x99 then(ei).bind λU8=>some U8 else some false).bind λJi=>K42 Ji))) λK9=>(bif false then none else some false).bind λNA=>K9 NA)) λK6=>(jF ⟨bp,bt,bC,bF⟩).bind λgh=>(bif gh then some true else(some (x1.length:Int)).bind λgN=>(some (decide ((12:Int)<gN))).bind λfJ=>some fJ).bind λNB=>(bif NB then some true else(gz [x2]).bind λjH=>some jH).bind λU9=>K6 U9
noncomputable def eL(x0:Lr)(x1:List Pv)(x2:List Qr):Option (Bool):=match x0 with|⟨bp,bt,bC,bF⟩=>cQ (λ(BS:Bool)=>(bif BS then(ei).bind λik=>some ik else(oD ⟨bp,bt,bC,bF⟩).bind λ_=>cQ (λ(Ss:Bool)=>some Ss) λUI=>(fT ⟨bp,bt,bC,bF⟩).bind λmO=>(some (!mO)).bind λuM=>(bif uM then(ei).bind λwQ=>some wQ else some false).bind λNC=>UI NC)) λK6=>(jF ⟨bp,bt,bC,bF⟩).bind λgh=>(bif gh then some true else(some (x1.length:Int)).bind λgN=>(some (decide ((12:Int)<gN))).bind λfJ=>some fJ).bind λND=>(bif ND then some true else(gz [x2]).bind λjH=>some jH).bind λMQ=>K6 MQ
noncomputable def fe(x0:Lr)(x1:List Pv)(x2:List Qr):Option (Bool):=if fT x0=some true then eK x0 x1 x2 else eL x0 x1 x2
end
section
open Go.Fw Go.Fw.Z Go.RowKit
set_option maxHeartbeats 4000000 in
theorem oE{x0:Lr}{x1:List Pv}{x2:List Qr}{r:Bool}(h:eK x0 x1 x2=some r):Pure ah 8 [.agg (Fi x0),slc 2 (List.map Oy x1),slc 4 (List.map eQ x2)] (az r):=by
 obtain⟨bp,bt,bC,bF⟩:=x0;refine bz Tryz.func8 Y (af Y) (λec M vs hvs=>?_);unfold eK at h;refine sr<|bx Y<|ag Y<|dn<|qq<|qq ?_;refine bK h (λj6=>AS.cM 103 [(1,.sv (slc 2 (List.map Oy x1))),(2,.sv (slc 4 (List.map eQ x2))),(3,.ptr 3 0),(23,aj j6)] [(3,⟨25,[ai bp,.sv (slc 1 (List.map (eS 4 eQ) bt)),.sv (slc 1 (List.map (eS 4 eQ) bC)),.sv (slc 4 (List.map eQ bF))]⟩)] []) (λh=>?_) (λBS h=>?_);refine aW<|ld Y Y (.k4 Y Y Y Y)<|bE h λgh jJ h=>cl (vc jJ) ⟨Y,aq⟩<|mv Y<|bE h λNB Kz h=>?_;cases gh;refine gm Y<|lE (F Kz) λgN kL Kz=>gn Y kL<|lE Kz λfJ kU Kz=>gg _ Y Y kU ?_;obtain rfl:=O Kz;refine pF Y<|mv Y<|bE h λaeS PO h=>?_;cases fJ;refine gm Y<|RT.eV (l:=[x2]) (e:=(eS 4 eQ)) (.some Y Y) (.one Y (.nil)) T Y Y Y Y Y Y<|bE (F PO) λjH oR PO=>gc (gK oR) ⟨Y,aq⟩ ?_;obtain rfl:=O PO;exact pF Y<|dn<|⟨jH,h,wR []⟩;obtain rfl:=O (V PO);exact ww<|ww<|ww<|pT Y<|dn<|⟨true,h,wR []⟩;obtain rfl:=O (V Kz);refine ww<|ww<|ww<|pT Y<|mv Y<|bE h λaeT aeU h=>?_;obtain rfl:=O (V aeU);exact ww<|ww<|ww<|pT Y<|dn<|⟨true,h,wR []⟩
 try dsimp only
 refine aV.n ?_;cases BS;refine fs<|sr<|ld Y Y (.k4 Y Y Y Y) ?_;obtain⟨⟨sD,rI,Nv,Nw,Nx⟩,rJ,h⟩:=bS (F h);refine RT.I6 .none (tu rJ) [304,305,306] (by decide) Y ⟨⟨Y,T⟩,⟨Y,T⟩,⟨Y,T⟩,aq⟩ Y ⟨Y,aq⟩ T Y Y<|mo (s:=.cmp _ _) Y<|RT.xj .none Y Y T<|RT.xj .none Y Y T<|an (s:=.ptr _ _) Y<|ag Y<|dn<|qq<|qq ?_;refine bK h (λj9=>AS.cM 103 [(1,.sv (slc 2 (List.map Oy x1))),(2,.sv (slc 4 (List.map eQ x2))),(3,.ptr 3 0),(7,.ptr 27 0),(8,ai 0),(35,aj j9)] [(27,⟨79,[aj sD,ai rI,.row 304,.row 305,.row 306]⟩),(3,⟨25,[ai bp,.sv (slc 1 (List.map (eS 4 eQ) bt)),.sv (slc 1 (List.map (eS 4 eQ) bC)),.sv (slc 4 (List.map eQ bF))]⟩)] [(304,TR 23 1 (eS 4 eQ) Nv),(305,TR 3 1 cO Nw),(306,TR 23 1 (eS 4 eQ) Nx)]) (λh=>?_) (λNy h=>?_);refine aW<|mv Y<|ne false Y Y (by decide)<|mv Y<|bE h λNA aeV h=>RT.move (.some Y Y) (s:=.ptr _ _) Y T<|RT.MJ (.some Y Y) Y Y T ?_;obtain rfl:=O (F aeV);exact pF Y<|dn<|⟨false,h,wR []⟩
 try dsimp only
 refine aV.n ?_;cases Ny;refine fs<|qq<|sr<|ag Y<|dn<|bE (F h) λe33 aeW gb=>?_;refine bT (λ(Iq:(List (List Qr))×(List Int)×(List (List Qr)))=>AS.cM 103 [(2,.sv (slc 4 (List.map eQ x2))),(3,.ptr 3 0),(7,.ptr 27 0)] [(27,⟨79,[aj sD,ai rI,.row 313,.row 314,.row 315]⟩),(3,⟨25,[ai bp,.sv (slc 1 (List.map (eS 4 eQ) bt)),.sv (slc 1 (List.map (eS 4 eQ) bC)),.sv (slc 4 (List.map eQ bF))]⟩)] [(313,TR 23 1 (eS 4 eQ) Iq.1),(314,TR 3 1 cO Iq.2.1),(315,TR 23 1 (eS 4 eQ) Iq.2.2)]) (λIq=>Iq=e33) ?_ (λIq aeX=>?_);refine bj ?_
 refine bU aeW (λOG=>AS.cM 103 [(1,.sv (slc 2 (List.map Oy x1))),(2,.sv (slc 4 (List.map eQ x2))),(3,.ptr 3 0),(7,.ptr 27 0),(9,ai OG.1)] [(27,⟨79,[aj sD,ai rI,.row 313,.row 314,.row 315]⟩),(3,⟨25,[ai bp,.sv (slc 1 (List.map (eS 4 eQ) bt)),.sv (slc 1 (List.map (eS 4 eQ) bC)),.sv (slc 4 (List.map eQ bF))]⟩)] [(313,TR 23 1 (eS 4 eQ) OG.2.1),(314,TR 3 1 cO OG.2.2.1),(315,TR 23 1 (eS 4 eQ) OG.2.2.2)]) (dM (λi=>bif Nat.beq i 313 then 304 else bif Nat.beq i 314 then 305 else bif Nat.beq i 315 then 306 else i) Y Y Y Y Y ⟨.sv au,.sv au,.ptr,.ptr,.sv au,aq⟩ ⟨⟨_,Y,⟨.sv au,.sv au,.row Y,.row Y,.row Y,aq⟩⟩,⟨_,Y,⟨.sv au,.sv au,.sv au,.sv au,aq⟩⟩,aq⟩ ⟨⟨_,Y,cJ.refl _⟩,⟨_,Y,cJ.refl _⟩,⟨_,Y,cJ.refl _⟩,aq⟩ (λi hi=>by rw[cC (show i≠313 by omega)];rw[cC (show i≠314 by omega)];rw[cC (show i≠315 by omega)];rfl)) (λOG y33 G33 h aeY aeZ=>?_);obtain⟨ve,ri,rj,ru⟩:=OG
 try dsimp only
 refine qq<|sr<|mv Y<|mv Y<|lE h λux h48 h=>ln Y h48<|lE h λOB TI h=>ls _ Y Y TI<|dn ?_;cases OB;refine cF<|cc<|aV.x<|aV.x<|bG.x<|aV.n ?_;obtain rfl:=O (F h);exact⟨(ri,rj,ru),aeZ _ Y,wR []⟩;refine cT<|bB<|aV.n<|qq<|bj<|bh mixed<|mo (s:=.ptr _ _) Y<|mv Y<|mv Y ?_;obtain⟨⟨Sj,YG⟩,J5,h⟩:=bS (V h);refine ix Y Y J5<|RT.bO .none Y T Y<|lr Y Y<|mv Y<|mv Y ?_;obtain⟨⟨YH,Sk⟩,Mf,h⟩:=bS h;refine ix Y Y Mf<|RT.bO .none Y T Y<|lr Y Y ?_;obtain⟨⟨Tp,YI,JX,YJ⟩,h63,h⟩:=bS h;refine RT.I4 .none (gJ h63) 27 [313,314,315] [325,326,327] Y ⟨Y,Y,Y,aq⟩ (by decide) (by decide) Y ⟨⟨Y,T⟩,⟨Y,T⟩,⟨Y,T⟩,aq⟩ Y Y (.k3 Y Y Y) T ?_;refine RT.done ⟨by kernel_rfl,?_⟩;refine bG.n<|aV.n<|aW<|mv Y<|lE h λCr HO h=>ad _ Y Y HO<|ag Y<|RT.done ?_;obtain rfl:=O h;exact aV.n ⟨(Cr,YI,JX,YJ),aeY _ Y,dM (λi=>bif Nat.beq i 313 then 325 else bif Nat.beq i 314 then 326 else bif Nat.beq i 315 then 327 else i) Y Y Y Y Y ⟨.sv au,.sv au,.ptr,.ptr,.sv au,aq⟩ ⟨⟨_,Y,⟨.sv au,.sv au,.row Y,.row Y,.row Y,aq⟩⟩,⟨_,Y,⟨.sv au,.sv au,.sv au,.sv au,aq⟩⟩,aq⟩ ⟨⟨_,Y,cJ.refl _⟩,⟨_,Y,cJ.refl _⟩,⟨_,Y,cJ.refl _⟩,aq⟩ (λi hi=>by rw[cC (show i≠313 by omega)];rw[cC (show i≠314 by omega)];rw[cC (show i≠315 by omega)];rfl)⟩;subst aeX;obtain⟨xp,xq,xu⟩:=Iq
 try dsimp only
 refine aV.n<|sr<|mv Y<|fa Y Y<|lV Y Y Y<|bE gb λIZ TN gb=>cl (uW TN) ⟨Y,Y,aq⟩<|ag Y<|dn<|qq<|bh mixed<|mv Y<|fa Y Y<|lV Y Y Y<|bE gb λRY Yl gb=>cN (Bu Yl) ⟨Y,Y,aq⟩<|ld Y Y (.k4 Y Y Y Y)<|mv Y<|bE gb λV5 h74 gb=>?_;refine cl (Gs h74) ⟨Y,Y,aq⟩<|bE gb λx75 h75 gb=>RT.Th (k:=V5) (e:=eQ) .none Y Y Y T Y T h75<|ag Y ?_;refine RT.done ⟨by kernel_rfl,?_⟩;refine aV.n<|qq<|sr<|mo (s:=.ptr _ _) Y<|bE gb λx77 h77 gb=>RT.jq .none (GD h77) 27 [313,314,315] Y ⟨Y,Y,Y,aq⟩ (by decide) Y Y (.cons Y (.nil)) T<|mv Y<|bE gb λKU TO gb=>cl (CB TO) ⟨Y,Y,aq⟩<|mo (s:=.ptr _ _) Y<|bE gb λx81 h81 gb=>RT.jq .none (qZ h81) 27 [313,314,315] Y ⟨Y,Y,Y,aq⟩ (by decide) Y Y (.cons Y (.nil)) T<|bE gb λx82 h82 gb=>cl (fF h82) ⟨Y,Y,aq⟩ ?_;refine lE gb λWo h83 gb=>nt Y _ h83<|dn ?_;cases Wo;refine fs<|sr<|ld Y Y (.k4 Y Y Y Y)<|mv Y<|bE (F gb) λPj XL gb=>cN (zK XL) ⟨Y,Y,aq⟩ ?_;obtain⟨⟨⟨Sl,Sn⟩,⟨So,Sq⟩⟩,XM,gb⟩:=bS gb;refine cl (gw XM) ⟨Y,aq⟩<|mv Y<|bE gb λTu h89 gb=>cl (xd h89) ⟨Y,Y,aq⟩<|bE gb λPk XN gb=>RT.Th (k:=Tu) (e:=eQ) .none Y Y Y T Y T XN<|ag Y<|dn<|qq ?_;refine bK gb (λj42=>AS.cM 103 [(6,aj j42)] [] []) (λgb=>?_) (λSr gb=>?_)
 refine aW<|mv Y<|mo (s:=.ptr _ _) Y<|bE gb λV6 h93 gb=>RT.jq .none (q9 h93) 27 [313,314,315] Y ⟨Y,Y,Y,aq⟩ (by decide) Y Y (.cons Y (.nil)) T<|mv Y<|mo (s:=.ptr _ _) Y<|bE gb λx96 h96 gb=>RT.jq .none (uB h96) 27 [313,314,315] Y ⟨Y,Y,Y,aq⟩ (by decide) Y Y (.cons Y (.nil)) T<|bE gb λXf h97 gb=>cl (CC h97) ⟨Y,Y,aq⟩<|bE gb λUG h98 gb=>cl (H7 h98) ⟨Y,Y,aq⟩ ?_;refine bE gb λx99 h99 gb=>cl (fF h99) ⟨Y,Y,aq⟩<|mv Y<|bE gb λJi PR gb=>?_;cases x99;obtain rfl:=O (F PR);exact ww<|pF Y<|ag Y<|dn<|⟨false,gb,wR []⟩;refine bE (V PR) λU8 ae0 PR=>gc (lD ae0) trivial ?_;obtain rfl:=O PR;exact pT Y<|ag Y<|dn<|⟨U8,gb,wR []⟩
 try dsimp only
 refine aV.n<|bf ?_;obtain rfl:=O gb;exact R1 Y;refine cT<|sr<|ag Y<|dn<|bf<|aV.r ?_;obtain rfl:=O (V gb);exact R1 Y;refine cT<|qq ?_;refine bK (V h) (λj18=>AS.cM 103 [(6,aj j18)] [] []) (λh=>?_) (λSi h=>?_);refine aW<|mv Y<|eq false Y Y (by decide)<|mv Y<|bE h λNz uz h=>?_;obtain rfl:=O (F uz);refine ww<|ww<|ww<|pF Y<|mv Y<|bE h λae1 Kk h=>?_;obtain rfl:=O (F Kk);exact ww<|pF Y<|ag Y<|dn<|⟨false,h,wR []⟩
 try dsimp only
 refine aV.n<|bf<|aV.r ?_;obtain rfl:=O h;exact R1 Y;refine cT<|sr<|bE (V h) λik nJ h=>cl (lD nJ) trivial<|ag Y<|dn<|bf<|aV.r ?_;obtain rfl:=O h;exact R1 Y
end
section
open Go.Fw Go.Fw.Z Go.RowKit
theorem oF{x0:Lr}{x1:List Pv}{x2:List Qr}{r:Bool}(h:eL x0 x1 x2=some r):Pure ah 8 [.agg (Fi x0),slc 2 (List.map Oy x1),slc 4 (List.map eQ x2)] (az r):=by
 obtain⟨bp,bt,bC,bF⟩:=x0;refine bz Tryz.func8 Y (af Y) (λec M vs hvs=>?_);unfold eL at h;refine sr<|bx Y<|ag Y<|dn<|qq<|qq ?_;refine bK h (λj6=>AS.cM 103 [(1,.sv (slc 2 (List.map Oy x1))),(2,.sv (slc 4 (List.map eQ x2))),(3,.ptr 3 0),(23,aj j6)] [(3,⟨25,[ai bp,.sv (slc 1 (List.map (eS 4 eQ) bt)),.sv (slc 1 (List.map (eS 4 eQ) bC)),.sv (slc 4 (List.map eQ bF))]⟩)] []) (λh=>?_) (λBS h=>?_);refine aW<|ld Y Y (.k4 Y Y Y Y)<|bE h λgh jJ h=>cl (vc jJ) ⟨Y,aq⟩<|mv Y<|bE h λND nx h=>?_;cases gh;refine gm Y<|lE (F nx) λgN kL nx=>gn Y kL<|lE nx λfJ kU nx=>gg _ Y Y kU ?_;obtain rfl:=O nx;refine pF Y<|mv Y<|bE h λae2 uz h=>?_;cases fJ;refine gm Y<|RT.eV (l:=[x2]) (e:=(eS 4 eQ)) (.some Y Y) (.one Y (.nil)) T Y Y Y Y Y Y<|bE (F uz) λjH oR uz=>gc (gK oR) ⟨Y,aq⟩ ?_;obtain rfl:=O uz;exact pF Y<|dn<|⟨jH,h,wR []⟩;obtain rfl:=O (V uz);exact ww<|ww<|ww<|pT Y<|dn<|⟨true,h,wR []⟩;obtain rfl:=O (V nx);exact ww<|ww<|ww<|pT Y<|mv Y<|ww<|ww<|ww<|pT Y<|dn<|⟨true,h,wR []⟩
 try dsimp only
 refine aV.n ?_;cases BS;refine fs<|sr<|ld Y Y (.k4 Y Y Y Y)<|bE (F h) λ_ rJ h=>cl (GM rJ) ⟨Y,aq⟩<|mv Y<|ex Y Y<|ex Y Y<|ag Y<|ag Y<|dn<|qq<|sr<|mv Y<|ne true Y Y (by decide)<|mv Y<|ww<|ww<|pT Y<|dn<|cT ?_;refine qq ?_;refine bK h (λj15=>AS.cM 103 [(6,aj j15)] [] []) (λh=>?_) (λSs h=>?_);refine aW<|mv Y<|eq true Y Y (by decide)<|mv Y<|gl Y Y (.k4 Y Y Y Y)<|bE h λmO rS h=>gc (tc rS) ⟨Y,aq⟩<|lE h λuM FH h=>O9 Y _ FH<|pT Y<|mv Y<|bE h λNC mW h=>?_;cases uM;obtain rfl:=O (F mW);exact ww<|pF Y<|ag Y<|dn<|⟨false,h,wR []⟩;refine bE (V mW) λwQ D4 mW=>gc (lD D4) trivial ?_;obtain rfl:=O mW;exact pT Y<|ag Y<|dn<|⟨wQ,h,wR []⟩
 try dsimp only
 refine aV.n<|bf<|aV.r ?_;obtain rfl:=O h;exact R1 Y;refine cT<|sr<|bE (V h) λik nJ h=>cl (lD nJ) trivial<|ag Y<|dn<|bf<|aV.r ?_;obtain rfl:=O h;exact R1 Y
end
section
open Go.Fw Go.Fw.Z Go.RowKit
theorem oU{x0:Lr}{x1:List Pv}{x2:List Qr}{r:Bool}(h:fe x0 x1 x2=some r):Pure ah 8 [.agg (Fi x0),slc 2 (List.map Oy x1),slc 4 (List.map eQ x2)] (az r):=by
 unfold fe at h;split at h
 ·exact oE h
 exact oF h
end
end Go.Proofs.YtningmnklfpfjaaGreat
namespace Go.Fw
section
theorem uf{n:Nat}(h:n<=9223372036854775807):IntKind.i64.wrap (n:Int)=n:=kR (by omega)
theorem cS{x:Int}(h: -9223372036854775808<=x)(h':x<=9223372036854775807):IntKind.i64.wrap x=x:=kR ⟨h,h'⟩
theorem bX{n:Nat}(h:n<9223372036854775807):IntKind.i64.wrap ((n:Int)+1)=((n+1:Nat):Int):=by rw[kR (by omega)];simp
theorem ug{n m:Nat}(h:n+m<=9223372036854775807):IntKind.i64.wrap ((n:Int)+(m:Int))=((n+m:Nat):Int):=by rw[kR (by omega)];simp
theorem GN{n:Nat}(h:n<=9223372036854775807):IntKind.i64.wrap (((n+1:Nat):Int)-1)=(n:Int):=by rw[kR (by omega)];omega
theorem bL{α:Type}{l:List α}{i:Nat}{a:α}(h:l[i]? =some a):cW l (i:Int)=some a:=by simp[cW,h]
theorem yG{α:Type}{l:List α}{a:α}(h:l[0]? =some a):cW l 0=some a:=by simp[cW,h]
theorem NF{α:Type}{l:List α}{a:α}(h:l[1]? =some a):cW l 1=some a:=by simp[cW,h]
theorem cL{α:Type}{l:List α}{i:Nat}(h:i<l.length):oP l (i:Int)=some i:=by simp[oP,h]
theorem fG{α:Type}{l:List α}{i:Nat}{y:α}(h:i<l.length):stM l i y=some (l.set i y):=by simp[stM,h]
theorem NG{α:Type}{b:Nat}{l k:List α}(h:(l.length+k.length)*b<=140737488355328)(h':l.length+k.length<=140737488355328):wh b l k=some (l++k):=by simp[wh,h,h']
theorem zQ{α:Type}{b:Nat}{l:List α}{x:α}(hb:b<=100)(h:l.length<=1000000000000):wh b l [x]=some (l++[x]):=by
 apply NG
 ·have:(l.length+[x].length)*b<=1000000000001*100:=Nat.mul_le_mul (by simp;omega) hb;omega
 simp;omega
theorem Vc{α:Type}{b:Nat}{l k:List α}(hb:b<=100)(h:l.length+k.length<=1000000000000):wh b l k=some (l++k):=by
 apply NG
 ·have:(l.length+k.length)*b<=1000000000000*100:=Nat.mul_le_mul h hb;omega
 omega
theorem BT{α:Type}{b:Nat}{n:Nat}(hb:b<=100)(h:n<=1000000000000):LG (α:=α) b (n:Int)=some []:=by
 have:b*n<=100*1000000000000:=Nat.mul_le_mul hb h;have h2:(b:Int)*(n:Int)=((b*n:Nat):Int):=by simp
 unfold LG;rw[h2,if_pos ⟨by omega,by omega,by omega⟩]
theorem rA{α:Type}{b:Nat}{n:Nat}{z:α}(hb:b<=100)(h:n<=1000000000000):z2 b (n:Int) z=some (List.replicate n z):=by
 have:b*n<=100*1000000000000:=Nat.mul_le_mul hb h;have h2:(b:Int)*(n:Int)=((b*n:Nat):Int):=by simp
 unfold z2;rw[h2,if_pos ⟨by omega,by omega,by omega⟩,Int.toNat_natCast]
theorem NH{α:Type}{l:List α}{i j:Nat}(h:i<=j)(h':j<=l.length):wH l (i:Int) (j:Int)=some (cut l i j):=by
 unfold wH;rw[if_pos ⟨by omega,by omega,by omega⟩];simp
theorem nV{α:Type}{l:List α}{j:Nat}(h':j<=l.length):wH l 0 (j:Int)=some (l.take j):=by
 have:=NH (l:=l) (i:=0) (j:=j) (by omega) h';simpa[cut]using this
theorem rB{M a b:Nat}(h:b<=a)(h':a<M):oQ M a b=a-b:=by
 unfold oQ;rw[show(a:Int)-(b:Int)=((a-b:Nat):Int) by omega,<-Int.natCast_emod,Int.toNat_natCast,Nat.mod_eq_of_lt (by omega)]
theorem Ag{M a b:Nat}(h:a<b)(h':b<=M):oQ M a b=M+a-b:=by
 unfold oQ;have:((a:Int)-(b:Int))%(M:Int)=((M+a-b:Nat):Int):=by
  rw[<-Int.add_emod_right (a:=(a:Int)-b),show(a:Int)-(b:Int)+(M:Int)=((M+a-b:Nat):Int) by omega,<-Int.natCast_emod,Nat.mod_eq_of_lt (by omega)]
 rw[this,Int.toNat_natCast]
theorem Ah{o n i:Nat}(h:i<n):OA o n (i:Int)=some (o+i):=by simp[OA,h]
theorem qo{α:Type}{l l':List α}(h:l'.length=l.length):uK l l'=some ():=by simp[uK,h]
theorem Ex{M a b:Nat}(h:b≠0)(h':a<M):DK M a b=some (a/b):=by
 unfold DK;rw[if_neg h,Nat.mod_eq_of_lt (Nat.lt_of_le_of_lt (Nat.div_le_self _ _) h')]
theorem Ai{a b:Nat}(h:b≠0):Co a b=some (a%b):=by unfold Co;rw[if_neg h]
theorem cq{α β:Type}{a:α}{f:α->Option β}:Option.bind (some a) f=f a:=by
 have h:∀o,o=some a->Option.bind o f=f a:=by intro o ho;rw[ho];rfl
 exact h _ Y
theorem iV{α:Type}{x y:α}:(bif true then x else y)=x:=by
 have h:∀b,b=true->(bif b then x else y)=x:=by intro b hb;rw[hb];rfl
 exact h _ Y
theorem jt{α:Type}{x y:α}:(bif false then x else y)=y:=by
 have h:∀b,b=false->(bif b then x else y)=y:=by intro b hb;rw[hb];rfl
 exact h _ Y
theorem nW{S E R:Type}{body:S->Option (S⊕E)}{s:S}{f:E->Option R}{r:R}(I:S->Prop)(Post:E->Prop)(μ:S->Nat)
  (step:∀s,I s->(∃s',body s=some (.inl s')/\I s'/\μ s'<μ s)\/(∃e,body s=some (.inr e)/\Post e)) (h:I s) (hf:∀e,Post e->f e=some r):(cu body s).bind f=some r:=by
 obtain⟨e,h1,h2⟩:=xS I Post μ step h;rw[h1];exact hf e h2
theorem nT{S E R:Type}{body:S->Option (S⊕E)}{s:S}{f:E->Option R}{Q:R->Prop}(I:S->Prop)(Post:E->Prop)(μ:S->Nat)
  (step:∀s,I s->(∃s',body s=some (.inl s')/\I s'/\μ s'<μ s)\/(∃e,body s=some (.inr e)/\Post e)) (h:I s) (hf:∀e,Post e->∃r,f e=some r/\Q r):∃r,(cu body s).bind f=some r/\Q r:=by
 obtain⟨e,h1,h2⟩:=xS I Post μ step h;rw[h1];exact hf e h2
theorem bN{S E R:Type}{body:S->Option (S⊕E)}{s:S}{f:E->Option R}{r:R}(st:Nat->S)(n:Nat)(e:E)(h0:s=st 0)(hs:∀k,k<n->body (st k)=some (.inl (st (k+1))))(he:body (st n)=some (.inr e))(hf:f e=some r):(cu body s).bind f=some r:=by
 rw[h0,LK st n hs he];exact hf
theorem mw{S R:Type}{body:Nat->S->Option S}{s:S}{f:S->Option R}{r:R}(st:Nat->S){n:Nat}(h0:s=st 0)(hs:∀k,k<n->body k (st k)=some (st (k+1)))(hf:f (st n)=some r):(kS body n s).bind f=some r:=by
 rw[h0,xU st n hs];exact hf
theorem aA{α β:Type}{x:Option α}{a:α}{f:α->Option β}{r:Option β}(h:x=some a)(hf:f a=r):x.bind f=r:=by rw[h];exact hf
theorem bQ{α:Type}{b:Bool}{x y r:α}(hb:b=true)(h:x=r):(bif b then x else y)=r:=by rw[hb];exact h
theorem bJ{α:Type}{b:Bool}{x y r:α}(hb:b=false)(h:y=r):(bif b then x else y)=r:=by rw[hb];exact h
end
section
def val(B:Nat):List Nat->Nat
 |[]=>0
 |x::l=>x+B*val B l
def fH(B:Nat):Nat->Nat->List Nat
 |0,_=>[]
 |n+1,v=>v%B::fH B n (v/B)
def lF(ws:List Nat):List Nat:=(ws.reverse.dropWhile (· ==0)).reverse
def can(B v:Nat):List Nat:=lF (fH B v v)
theorem bW(B:Nat):∀n v,(fH B n v).length=n
 |0,_=>rfl
 |n+1,v=>by simp[fH,bW B n]
theorem lG(B:Nat):∀n v,val B (fH B n v)=v%B^n
 |0,v=>by simp[fH,val,Nat.mod_one]
 |n+1,v=>by
  rw[fH,val,lG B n,Nat.pow_succ,Nat.mul_comm (B^n) B,Nat.mod_mul]
theorem ny{B:Nat}(hB:0<B):∀(n v x:Nat),x∈fH B n v->x<B
 |n+1,v,x,h=>by
  rcases List.mem_cons.1 h with rfl|h
  ·exact Nat.mod_lt _ hB
  exact ny hB n _ x h
theorem iW{B:Nat}:∀(l:List Nat),(∀x∈l,x<B)->val B l<B^l.length
 |[],_=>by simp[val]
 |x::l,h=>by
  have h1:=iW l (λy hy=>h y (List.mem_cons_of_mem _ hy));have h2:=h x (by simp);rw[val,List.length_cons,Nat.pow_succ]
  calc x+B*val B l<B+B*val B l:=by omega
   _=B*(val B l+1):=by rw[Nat.mul_add];omega
   _<=B*B^l.length:=Nat.mul_le_mul_left _ h1
   _=B^l.length*B:=Nat.mul_comm _ _
theorem Aj{B:Nat}:∀(l:List Nat),(∀x∈l,x<B)->fH B l.length (val B l)=l
 |[],_=>rfl
 |x::l,h=>by
  have h2:=h x (by simp);have hB:0<B:=by omega
  rw[List.length_cons,fH,val,Nat.add_mul_mod_self_left,Nat.mod_eq_of_lt h2,Nat.add_mul_div_left _ _ hB,Nat.div_eq_of_lt h2,Nat.zero_add,Aj l (λy hy=>h y (List.mem_cons_of_mem _ hy))]
theorem xw{B:Nat}:∀(n v j:Nat),j<n->(fH B n v)[j]? =some (v/B^j%B)
 |n+1,v,0,_=>by simp[fH]
 |n+1,v,j+1,h=>by
  rw[fH,List.getElem?_cons_succ,xw n _ j (by omega),Nat.div_div_eq_div_mul,Nat.pow_succ,Nat.mul_comm B]
theorem Ey{B:Nat}:∀(a b:List Nat),val B (a++b)=val B a+B^a.length*val B b
 |[],b=>by simp[val]
 |x::a,b=>by
  rw[List.cons_append,val,val,Ey a b,List.length_cons,Nat.pow_succ,Nat.mul_add,Nat.add_assoc,Nat.mul_comm (B^a.length) B,Nat.mul_assoc]
theorem oG{B:Nat}:∀(n v:Nat),fH B (n+1) v=fH B n v++[v/B^n%B]
 |0,v=>by simp[fH]
 |n+1,v=>by
  rw[fH,oG n,fH,List.cons_append,Nat.div_div_eq_div_mul,Nat.pow_succ,Nat.mul_comm B]
theorem tB(B:Nat):∀k,fH B k 0=List.replicate k 0
 |0=>rfl
 |k+1=>by rw[fH,Nat.zero_mod,Nat.zero_div,tB B k];rfl
theorem BU{B:Nat}(hB:0<B):∀(n k v:Nat),v<B^n->fH B (n+k) v=fH B n v++List.replicate k 0
 |0,k,v,h=>by
  have:v=0:=by simpa using h
  subst this;rw[Nat.zero_add,tB];rfl
 |n+1,k,v,h=>by
  rw[show n+1+k=n+k+1 by omega,fH,fH,List.cons_append,BU hB n k (v/B) (by rw[Nat.div_lt_iff_lt_mul hB];rwa[Nat.pow_succ]at h)]
theorem rC{B:Nat}(hB:2<=B):∀v,v<B^v
 |0=>by simp
 |v+1=>by
  have:=rC hB v;rw[Nat.pow_succ];have h2:B^v*2<=B^v*B:=Nat.mul_le_mul_left _ hB;omega
theorem rD(l:List Nat):lF (l++[0])=lF l:=by simp[lF]
theorem tC(l:List Nat):∀k,lF (l++List.replicate k 0)=lF l
 |0=>by simp
 |k+1=>by rw[List.replicate_succ',<-List.append_assoc,rD,tC l k]
theorem vW(l:List Nat){x:Nat}(h:x≠0):lF (l++[x])=l++[x]:=by simp[lF,h]
theorem vX(xs:List Nat):xs=[]\/(∃ys,xs=ys++[0])\/(∃ys y,y≠0/\xs=ys++[y]):=by
 rcases List.eq_nil_or_concat xs with rfl|⟨ys,y,rfl⟩
 ·exact .inl Y
 by_cases hy:y=0
 ·subst hy;exact .inr (.inl ⟨ys,by simp⟩)
 exact .inr (.inr ⟨ys,y,hy,by simp⟩)
theorem yH:∀(n:Nat) (l:List Nat),l.length=n->∃k,l=lF l++List.replicate k 0:=by
 intro n
 induction n with
 |zero=>intro l h;obtain rfl:=List.length_eq_zero_iff.1 h;exact⟨0,Y⟩
 |succ n ih=>
  intro l h;rcases vX l with rfl|⟨ys,rfl⟩|⟨ys,y,hy,rfl⟩
  ·simp at h
  ·obtain⟨k,hk⟩:=ih ys (by simpa using h);refine⟨k+1,?_⟩;rw[rD,List.replicate_succ',<-List.append_assoc,<-hk]
  exact⟨0,by rw[vW _ hy];simp⟩
theorem KA{l:List Nat}{x:Nat}(h:x∈lF l):x∈l:=by
 obtain⟨k,hk⟩:=yH _ l Y;rw[hk];exact List.mem_append_left _ h
theorem Di(l:List Nat):(lF l).length<=l.length:=by
 obtain⟨k,hk⟩:=yH _ l Y;have:=congrArg List.length hk;rw[List.length_append]at this;omega
theorem Dj(B:Nat):∀k,val B (List.replicate k 0)=0
 |0=>rfl
 |k+1=>by rw[List.replicate_succ,val,Dj B k];simp
theorem NI(B:Nat)(l:List Nat):val B (lF l)=val B l:=by
 obtain⟨k,hk⟩:=yH _ l Y
 conv=>rhs;rw[hk,Ey,Dj]
 simp
theorem GO{B:Nat}(hB:2<=B){n v:Nat}(h:v<B^n):lF (fH B n v)=can B v:=by
 have hv:=rC hB v;rcases Nat.le_total n v with hn|hn
 ·obtain⟨k,rfl⟩:=Nat.exists_eq_add_of_le hn;rw[can,BU (by omega) n k _ h,tC]
 obtain⟨k,rfl⟩:=Nat.exists_eq_add_of_le hn;rw[can,BU (by omega) v k _ hv,tC]
theorem qp{B:Nat}(hB:2<=B){l:List Nat}(h:∀x∈l,x<B):lF l=can B (val B l):=by
 conv=>lhs;rw[<-Aj l h]
 exact GO hB (iW l h)
theorem rE{B:Nat}(hB:2<=B)(v:Nat):val B (can B v)=v:=by
 rw[can,NI,lG,Nat.mod_eq_of_lt (rC hB v)]
theorem lH{B:Nat}(hB:2<=B){v x:Nat}(h:x∈can B v):x<B:=ny (by omega) v v x (KA h)
theorem tD(B:Nat):can B 0=[]:=rfl
theorem Ez{B:Nat}(hB:2<=B){v:Nat}(h:can B v=[]):v=0:=by have:=rE hB v;rw[h]at this;exact this.symm
theorem PS{B:Nat}(hB:2<=B){v n:Nat}(h:v<B^n):(can B v).length<=n:=by
 rw[<-GO hB h];have:=Di (fH B n v);rwa[bW]at this
theorem PT{B:Nat}(hB:2<=B)(v:Nat):lF (can B v)=can B v:=by
 rw[qp hB (λx hx=>lH hB hx),rE hB]
theorem PU{B:Nat}(hB:2<=B)(v:Nat):can B v=fH B (can B v).length v:=by
 have:=Aj (can B v) (λx hx=>lH hB hx);rw[rE hB]at this;exact this.symm
theorem dW{B:Nat}(hB:2<=B)(v:Nat):v<B^(can B v).length:=by
 have:=iW (can B v) (λx hx=>lH hB hx);rwa[rE hB]at this
theorem EA{B:Nat}(hB:2<=B){v j:Nat}(h:j<(can B v).length):(can B v)[j]? =some (v/B^j%B):=by
 rw[PU hB v]at h⊢;rw[bW]at h;exact xw _ _ _ h
theorem BV{B:Nat}(hB:2<=B){v j:Nat}(h:(can B v).length<=j):v/B^j=0:=by
 refine Nat.div_eq_of_lt (Nat.lt_of_lt_of_le (dW hB v) ?_);exact Nat.pow_le_pow_right (by omega) h
theorem GP{B:Nat}(hB:2<=B){v:Nat}(h:v≠0):∃l x,x≠0/\can B v=l++[x]:=by
 rcases vX (can B v)with e|⟨ys,e⟩|⟨ys,y,hy,e⟩
 ·exact absurd (Ez hB e) h
 ·exfalso;have h1:=PT hB v;rw[e,rD]at h1;have h2:=Di ys;rw[h1]at h2;simp at h2;omega
 exact⟨ys,y,hy,e⟩
theorem vf{B:Nat}(hB:2<=B){v n:Nat}(h:n<(can B v).length):B^n<=v:=by
 by_cases h0:v=0
 ·subst h0;simp[tD]at h
 obtain⟨l,x,hx,e⟩:=GP hB h0;have h1:=rE hB v;rw[e,Ey]at h1;have hl:n<=l.length:=by rw[e]at h;simp at h;omega
 have h2:B^n<=B^l.length:=Nat.pow_le_pow_right (by omega) hl;have h3:B^l.length<=B^l.length*val B [x]:=Nat.le_mul_of_pos_right _ (by simp[val];omega);omega
theorem fk{B:Nat}(hB:2<=B){v n:Nat}:(can B v).length<=n↔v<B^n:=by
 refine⟨λh=>?_,PS hB⟩;exact Nat.lt_of_lt_of_le (dW hB v) (Nat.pow_le_pow_right (by omega) h)
theorem NJ{B:Nat}(hB:2<=B){l:List Nat}{x:Nat}(hx:x≠0)(h:∀y∈l++[x],y<B):l++[x]=can B (val B (l++[x])):=by
 rw[<-qp hB h,vW _ hx]
theorem qt{B:Nat}:∀(l:List Nat),(∀x∈l,x<B)->∀k,l.getD k 0=val B l/B^k%B
 |[],_,k=>by simp[val]
 |x::l,h,0=>by
  have h2:=h x (by simp);simp[val,Nat.add_mul_mod_self_left,Nat.mod_eq_of_lt h2]
 |x::l,h,k+1=>by
  have h2:=h x (by simp);have hB:0<B:=by omega
  rw[List.getD_cons_succ,qt l (λy hy=>h y (List.mem_cons_of_mem _ hy)) k,val,Nat.pow_succ,Nat.mul_comm (B^k) B,<-Nat.div_div_eq_div_mul,Nat.add_mul_div_left _ _ hB,Nat.div_eq_of_lt h2,Nat.zero_add]
theorem gA(B V k:Nat):V%B^(k+1)=V%B^k+B^k*(V/B^k%B):=by
 rw[Nat.pow_succ,Nat.mod_mul]
def EV(B V W k:Nat):Nat:=(V%B^k+W%B^k)/B^k
theorem Ir{B:Nat}(hB:0<B)(V W k:Nat):EV B V W k<=1:=by
 have hP:0<B^k:=Nat.pow_pos hB;have h1:=Nat.mod_lt V hP;have h2:=Nat.mod_lt W hP;have:EV B V W k<2:=by rw[EV,Nat.div_lt_iff_lt_mul hP];omega
 omega
theorem GQ{B:Nat}(hB:0<B)(V W k:Nat):(V/B^k%B+W/B^k%B+EV B V W k)/B=EV B V W (k+1):=by
 have hP:0<B^k:=Nat.pow_pos hB;rw[EV,EV,gA,gA,Nat.pow_succ,<-Nat.div_div_eq_div_mul];congr 1;rw[show V%B^k+B^k*(V/B^k%B)+(W%B^k+B^k*(W/B^k%B))=(V%B^k+W%B^k)+B^k*(V/B^k%B+W/B^k%B) by rw[Nat.mul_add];omega,Nat.add_mul_div_left _ _ hP];omega
theorem EB{B:Nat}(hB:0<B)(V W k:Nat):(V/B^k%B+W/B^k%B+EV B V W k)%B=(V+W)/B^k%B:=by
 have hP:0<B^k:=Nat.pow_pos hB;have h:(V+W)/B^k=V/B^k+W/B^k+EV B V W k:=by
  have e1:=Nat.div_add_mod V (B^k);have e2:=Nat.div_add_mod W (B^k);rw[EV]
  conv=>lhs;rw[<-e1,<-e2]
  rw[show B^k*(V/B^k)+V%B^k+(B^k*(W/B^k)+W%B^k)=(V%B^k+W%B^k)+B^k*(V/B^k+W/B^k) by rw[Nat.mul_add];omega,Nat.add_mul_div_left _ _ hP];omega
 rw[h];simp[Nat.add_mod]
theorem PV{B:Nat}{V W k:Nat}(hV:V<B^k)(hW:W<B^k):EV B V W k=(V+W)/B^k:=by
 rw[EV,Nat.mod_eq_of_lt hV,Nat.mod_eq_of_lt hW]
theorem GR(B V W:Nat):EV B V W 0=0:=by simp[EV,Nat.mod_one]
def zR(B V W k:Nat):Nat:=(V%B^k+B^k-W%B^k)/B^k
theorem GS(B V W:Nat):zR B V W 0=1:=by simp[zR,Nat.mod_one]
theorem NK{B:Nat}(hB:0<B)(V W k:Nat):zR B V W k<=1:=by
 have hP:0<B^k:=Nat.pow_pos hB;have h1:=Nat.mod_lt V hP;have:zR B V W k<2:=by
  rw[zR,Nat.div_lt_iff_lt_mul hP];generalize W%B^k=y at*;generalize V%B^k=x at*;omega
 omega
theorem Jj{B:Nat}(hB:0<B)(V W k:Nat):V%B^(k+1)+B^(k+1)-W%B^(k+1)=(V%B^k+B^k-W%B^k)+B^k*(V/B^k%B+(B-1-W/B^k%B)):=by
 have hP:0<B^k:=Nat.pow_pos hB;have h1:=Nat.mod_lt V hP;have h2:=Nat.mod_lt W hP;have h3:=Nat.mod_lt (W/B^k) hB;rw[gA,gA,Nat.pow_succ];generalize B^k=p at*;generalize V/p%B=x at*;generalize W/p%B=y at*;obtain⟨z,rfl⟩:∃z,B=y+1+z:=⟨B-y-1,by omega⟩;have e1:y+1+z-1-y=z:=by omega
 rw[e1,Nat.mul_add p x z,Nat.mul_add p (y+1) z,Nat.mul_add p y 1];omega
theorem GU{B:Nat}(hB:0<B)(V W k:Nat):(V/B^k%B+(B-1-W/B^k%B)+zR B V W k)/B=zR B V W (k+1):=by
 have hP:0<B^k:=Nat.pow_pos hB;rw[zR,zR,Jj hB,Nat.pow_succ,<-Nat.div_div_eq_div_mul,Nat.add_mul_div_left _ _ hP];congr 1;omega
theorem Is{Q V W:Nat}(hQ:0<Q)(h:W<=V):(V%Q+Q-W%Q)%Q=(V-W)%Q:=by
 have e1:=Nat.div_add_mod V Q;have e2:=Nat.div_add_mod W Q;have h1:=Nat.mod_lt V hQ;have h2:=Nat.mod_lt W hQ;have hq:W/Q<=V/Q:=Nat.div_le_div_right h;generalize V%Q=r at*;generalize W%Q=s at*;generalize V/Q=a at*;generalize W/Q=b at*;obtain⟨c,rfl⟩:=Nat.exists_eq_add_of_le hq;rw[Nat.mul_add]at e1;rcases Nat.lt_or_ge r s with Wb|Wb
 ·cases c with
  |zero=>simp at e1;omega
  |succ c=>
   rw[Nat.mul_add,Nat.mul_one]at e1;rw[show V-W=Q*c+(r+Q-s) by omega,Nat.mul_add_mod]
 rw[show V-W=Q*c+(r-s) by omega,Nat.mul_add_mod,show r+Q-s=r-s+Q by omega,Nat.add_mod_right]
theorem Jk{B:Nat}(hB:0<B){V W:Nat}(h:W<=V)(k:Nat):(V/B^k%B+(B-1-W/B^k%B)+zR B V W k)%B=(V-W)/B^k%B:=by
 have hP:0<B^k:=Nat.pow_pos hB;have hQ:0<B^(k+1):=Nat.pow_pos hB;have e:=Is hQ h;have e2:V/B^k%B+(B-1-W/B^k%B)+zR B V W k=(V%B^(k+1)+B^(k+1)-W%B^(k+1))/B^k:=by
  rw[Jj hB,Nat.add_mul_div_left _ _ hP,zR];omega
 rw[e2,<-Nat.mod_mul_right_div_self,<-Nat.mod_mul_right_div_self,<-Nat.pow_succ,e]
end
section
theorem Jl{B:Nat}(hB:0<B):∀(j N lo p d hi:Nat),lo<B^j->p<B->d<B->j<N->(fH B N (lo+B^j*(p+B*hi))).set j d=fH B N (lo+B^j*(d+B*hi))
 |0,N+1,lo,p,d,hi,hlo,hp,hd,_=>by
  have:lo=0:=by simpa using hlo
  subst this;simp only[Nat.pow_zero,Nat.zero_add,Nat.one_mul,fH,List.set_cons_zero,Nat.add_mul_mod_self_left,Nat.mod_eq_of_lt hd];rw[Nat.add_mul_div_left _ _ hB,Nat.add_mul_div_left _ _ hB,Nat.div_eq_of_lt hp,Nat.div_eq_of_lt hd]
 |j+1,N+1,lo,p,d,hi,hlo,hp,hd,hN=>by
  have e:∀q,(lo+B^(j+1)*(q+B*hi))%B=lo%B:=λq=>by
   rw[Nat.pow_succ,Nat.mul_comm (B^j) B,Nat.mul_assoc,Nat.add_mul_mod_self_left]
  have e2:∀q,(lo+B^(j+1)*(q+B*hi))/B=lo/B+B^j*(q+B*hi):=λq=>by
   rw[Nat.pow_succ,Nat.mul_comm (B^j) B,Nat.mul_assoc,Nat.add_mul_div_left _ _ hB]
  have ae3:lo/B<B^j:=by rw[Nat.div_lt_iff_lt_mul hB];rwa[Nat.pow_succ]at hlo
  rw[fH,fH,List.set_cons_succ,e,e,e2,e2,Jl hB j N (lo/B) p d hi ae3 hp hd (by omega)]
theorem uh{B:Nat}(hB:0<B){N j u u' d:Nat}(hj:j<N)(hd:d<B)(hlo:u'%B^j=u%B^j)(Vd:u'/B^j%B=d)(hhi:u'/B^(j+1)=u/B^(j+1)):(fH B N u).set j d=fH B N u':=by
 have hP:0<B^j:=Nat.pow_pos hB;have f:∀u,u=u%B^j+B^j*(u/B^j%B+B*(u/B^(j+1))):=λu=>by
  have e1:=Nat.mod_add_div u (B^j);have e2:=KB B u j;rw[Nat.add_comm]at e2;rw[<-e2,e1]
 rw[f u,Jl hB j N _ _ d _ (Nat.mod_lt _ hP) (Nat.mod_lt _ hB) hd hj]
 conv=>rhs;rw[f u',hlo,Vd,hhi]
where
 KB (B v m:Nat):v/B^m=B*(v/B^(m+1))+v/B^m%B:=by
  rw[Nat.pow_succ,<-Nat.div_div_eq_div_mul,Nat.div_add_mod]
def mT(B V W i k:Nat):Nat:=((V%B^i)*W)%B^(i+k)+B^i*(V/B^i%B)*(W%B^k)
def mC(B V W i k:Nat):Nat:=mT B V W i k/B^(i+k)
def mV(B V W i k:Nat):Nat:=mT B V W i k%B^(i+k)+B^(i+k)*(((V%B^i)*W)/B^(i+k))
theorem St{B:Nat}(hB:0<B)(V W i k:Nat):mT B V W i k<B^(i+k)*B:=by
 have h1:((V%B^i)*W)%B^(i+k)<B^(i+k):=Nat.mod_lt _ (Nat.pow_pos hB);have h2:V/B^i%B<B:=Nat.mod_lt _ hB;have h3:W%B^k<B^k:=Nat.mod_lt _ (Nat.pow_pos hB);have h4:B^i*(V/B^i%B)*(W%B^k)<=B^i*(B-1)*B^k:=Nat.mul_le_mul (Nat.mul_le_mul_left _ (by omega)) (Nat.le_of_lt h3);have h5:B^i*(B-1)*B^k=B^(i+k)*(B-1):=by rw[Nat.pow_add,Nat.mul_assoc,Nat.mul_assoc,Nat.mul_comm (B-1)]
 have h6:B^(i+k)*B=B^(i+k)*(B-1)+B^(i+k):=by
  obtain⟨b,rfl⟩:∃b,B=b+1:=⟨B-1,by omega⟩;rw[Nat.add_sub_cancel,Nat.mul_add,Nat.mul_one]
 unfold mT;omega
theorem Su{B:Nat}(hB:0<B)(V W i k:Nat):mC B V W i k<B:=by
 rw[mC,Nat.div_lt_iff_lt_mul (Nat.pow_pos hB),Nat.mul_comm];exact St hB V W i k
theorem EC{B:Nat}(V W i k:Nat):mT B V W i (k+1)=mT B V W i k+B^(i+k)*(((V%B^i)*W)/B^(i+k)%B+(V/B^i%B)*(W/B^k%B)):=by
 have e1:((V%B^i)*W)%B^(i+(k+1))=((V%B^i)*W)%B^(i+k)+B^(i+k)*(((V%B^i)*W)/B^(i+k)%B):=by rw[<-Nat.add_assoc,gA]
 have e2:W%B^(k+1)=W%B^k+B^k*(W/B^k%B):=gA B W k;unfold mT;rw[e1,e2,Nat.mul_add,Nat.mul_add (B^(i+k))];have e3:B^i*(V/B^i%B)*(B^k*(W/B^k%B))=B^(i+k)*((V/B^i%B)*(W/B^k%B)):=by
  rw[Nat.pow_add,Nat.mul_assoc,Nat.mul_assoc,Nat.mul_left_comm (V/B^i%B)]
 omega
theorem PW{B:Nat}(hB:0<B)(V W i k:Nat):(((V%B^i)*W)/B^(i+k)%B+(V/B^i%B)*(W/B^k%B)+mC B V W i k)/B=mC B V W i (k+1):=by
 have hP:0<B^(i+k):=Nat.pow_pos hB;rw[mC,mC,EC,<-Nat.add_assoc,Nat.pow_succ,<-Nat.div_div_eq_div_mul,Nat.add_mul_div_left _ _ hP];congr 1;omega
theorem Sv{B:Nat}(V W i k:Nat):mV B V W i k%B^(i+k)=mT B V W i k%B^(i+k):=by
 rw[mV,Nat.add_mul_mod_self_left,Nat.mod_mod]
theorem Jm{B:Nat}(hB:0<B)(V W i k:Nat):mV B V W i k/B^(i+k)=((V%B^i)*W)/B^(i+k):=by
 have hP:0<B^(i+k):=Nat.pow_pos hB;rw[mV,Nat.add_mul_div_left _ _ hP,Nat.div_eq_of_lt (Nat.mod_lt _ hP),Nat.zero_add]
theorem Ve{B:Nat}(hB:0<B){V W i k N:Nat}(h:i+k<N):(fH B N (mV B V W i k))[i+k]? =some (((V%B^i)*W)/B^(i+k)%B):=by
 rw[xw _ _ _ h,Jm hB]
theorem PX{B:Nat}(hB:0<B){V W i k N:Nat}(h:i+k<N):
  (fH B N (mV B V W i k)).set (i+k) ((((V%B^i)*W)/B^(i+k)%B+(V/B^i%B)*(W/B^k%B)+mC B V W i k)%B)=fH B N (mV B V W i (k+1)):=by
 have hP:0<B^(i+k):=Nat.pow_pos hB;have hPB:B^(i+(k+1))=B^(i+k)*B:=by rw[<-Nat.add_assoc,Nat.pow_succ]
 have hs:mT B V W i (k+1)/B^(i+k)=((V%B^i)*W)/B^(i+k)%B+(V/B^i%B)*(W/B^k%B)+mC B V W i k:=by
  rw[EC,Nat.add_mul_div_left _ _ hP,mC];omega
 have ht:mT B V W i (k+1)%B^(i+k)=mT B V W i k%B^(i+k):=by rw[EC,Nat.add_mul_mod_self_left]
 refine uh hB h (Nat.mod_lt _ hB) ?_ ?_ ?_
 ·rw[Sv,<-ht,mV,hPB,Nat.mul_assoc,Nat.add_mul_mod_self_left,Nat.mod_mul_right_mod]
 ·rw[mV,hPB,Nat.mul_assoc,Nat.add_mul_div_left _ _ hP,Nat.add_mul_mod_self_left,Nat.mod_mul_right_div_self,Nat.mod_mod,hs]
 rw[show i+k+1=i+(k+1) by omega,Jm hB,show i+(k+1)=i+k+1 by omega,Nat.pow_succ,<-Nat.div_div_eq_div_mul,<-Nat.div_div_eq_div_mul,Jm hB]
theorem PY{B:Nat}(V W i:Nat):mV B V W i 0=(V%B^i)*W:=by
 rw[mV,mT,Nat.pow_zero,Nat.mod_one,Nat.mul_zero,Nat.add_zero,Nat.add_zero,Nat.mod_mod,Nat.mod_add_div]
theorem PZ{B:Nat}(hB:0<B)(V W i:Nat):mC B V W i 0=0:=by
 rw[mC,mT,Nat.pow_zero,Nat.mod_one,Nat.mul_zero,Nat.add_zero,Nat.add_zero];exact Nat.div_eq_of_lt (Nat.mod_lt _ (Nat.pow_pos hB))
theorem Vf{B:Nat}(hB:0<B){V W i n N:Nat}(hW:W<B^n)(h:i+n<N):(fH B N (mV B V W i n)).set (i+n) ((0+mC B V W i n)%B)=fH B N ((V%B^(i+1))*W):=by
 have hP:0<B^(i+n):=Nat.pow_pos hB;have hp:(V%B^i)*W<B^(i+n):=by
  have h1:V%B^i<B^i:=Nat.mod_lt _ (Nat.pow_pos hB);rw[Nat.pow_add];by_cases h0:W=0
  ·subst h0;rw[Nat.mul_zero];exact Nat.mul_pos (Nat.pow_pos hB) (Nat.pow_pos hB)
  calc (V%B^i)*W<B^i*W:=Nat.mul_lt_mul_of_pos_right h1 (by omega)
   _<=B^i*B^n:=Nat.mul_le_mul_left _ (Nat.le_of_lt hW)
 have hT:mT B V W i n=(V%B^(i+1))*W:=by
  rw[mT,Nat.mod_eq_of_lt hp,Nat.mod_eq_of_lt hW,gA,Nat.add_mul]
 have hlt:=St hB V W i n;rw[hT]at hlt;refine uh hB h (Nat.mod_lt _ hB) ?_ ?_ ?_
 ·rw[Sv,hT]
 ·rw[Nat.zero_add,mC,hT]
 rw[Nat.pow_succ B (i+n),Nat.div_eq_of_lt hlt,<-Nat.div_div_eq_div_mul,Jm hB,Nat.div_eq_of_lt hp,Nat.zero_div]
def sT(B V f e i:Nat):Nat:=V%B^i*f+e
def sC(B V f e i:Nat):Nat:=sT B V f e i/B^i
theorem Jn(B V f e:Nat):sC B V f e 0=e:=by simp[sC,sT,Nat.mod_one]
theorem Jo(B V f e i:Nat):sT B V f e (i+1)=sT B V f e i+B^i*(V/B^i%B*f):=by
 unfold sT;rw[gA,Nat.add_mul,Nat.mul_assoc];omega
theorem Jp{B:Nat}(hB:0<B)(V f e i:Nat):(V/B^i%B*f+sC B V f e i)/B=sC B V f e (i+1):=by
 have hP:0<B^i:=Nat.pow_pos hB;rw[sC,sC,Jo,Nat.pow_succ,<-Nat.div_div_eq_div_mul,Nat.add_mul_div_left _ _ hP];congr 1;omega
theorem NL{B:Nat}(hB:0<B)(V f e i:Nat):(V/B^i%B*f+sC B V f e i)%B=(V*f+e)/B^i%B:=by
 have hP:0<B^i:=Nat.pow_pos hB;have h1:V*f+e=sT B V f e (i+1)+B^i*(B*(V/B^(i+1)*f)):=by
  have e1:=Nat.mod_add_div V (B^(i+1));unfold sT
  conv=>lhs;rw[<-e1,Nat.add_mul]
  rw[Nat.pow_succ,Nat.mul_assoc,Nat.mul_assoc];omega
 rw[h1,Nat.add_mul_div_left _ _ hP,Nat.add_mul_mod_self_left,Jo,Nat.add_mul_div_left _ _ hP,sC,Nat.add_comm]
theorem Sw{B:Nat}(hB:0<B){V f e:Nat}(hf:f<B)(he:e<B)(i:Nat):sC B V f e i<B:=by
 have hP:0<B^i:=Nat.pow_pos hB;rw[sC,Nat.div_lt_iff_lt_mul hP];have h1:V%B^i<=B^i-1:=by have:=Nat.mod_lt V hP;omega
 have h2:V%B^i*f<=(B^i-1)*(B-1):=Nat.mul_le_mul h1 (by omega);obtain⟨p,hp⟩:∃p,B^i=p+1:=⟨B^i-1,by omega⟩;obtain⟨b,rfl⟩:∃b,B=b+1:=⟨B-1,by omega⟩;unfold sT;rw[hp]at h2⊢;rw[Nat.add_sub_cancel,Nat.add_sub_cancel]at h2;have h3:(b+1)*(p+1)=p*b+b+p+1:=by rw[Nat.add_mul,Nat.mul_add,Nat.mul_comm b p];omega
 omega
theorem Vg{B V f e i:Nat}(h:V<B^i):sC B V f e i=(V*f+e)/B^i:=by rw[sC,sT,Nat.mod_eq_of_lt h]
def sU(B V f e i:Nat):Nat:=sT B V f e i%B^i+B^i*(V/B^i)
def qU(B V d n:Nat):Nat:=V%B^n+B^n*(V/B^n/d)
theorem P0(B V d:Nat):qU B V d 0=V/d:=by simp[qU,Nat.mod_one]
theorem Vh{B V d n:Nat}(h:V<B^n):qU B V d n=V:=by simp[qU,Nat.mod_eq_of_lt h,Nat.div_eq_of_lt h]
theorem P1(B V m:Nat):V/B^m=B*(V/B^(m+1))+V/B^m%B:=by rw[Nat.pow_succ,<-Nat.div_div_eq_div_mul,Nat.div_add_mod]
theorem Sx{B d:Nat}(V m:Nat):V/B^m=(V/B^(m+1)%d*B+V/B^m%B)+d*(B*(V/B^(m+1)/d)):=by
 have h1:=P1 B V m;have h2:=Nat.mod_add_div (V/B^(m+1)) d;generalize V/B^(m+1)=q at*;generalize V/B^m%B=y at*;rw[h1]
 conv=>lhs;rw[<-h2]
 rw[Nat.mul_add,Nat.mul_left_comm B d,Nat.mul_comm B (q%d)];omega
theorem YK{B d:Nat}(hd:0<d)(V m:Nat):V/B^m/d=B*(V/B^(m+1)/d)+(V/B^(m+1)%d*B+V/B^m%B)/d:=by
 conv=>lhs;rw[Sx (B:=B) (d:=d) V m]
 rw[Nat.add_mul_div_left _ _ hd,Nat.add_comm]
theorem YL{B d:Nat}(V m:Nat):V/B^m%d=(V/B^(m+1)%d*B+V/B^m%B)%d:=by
 conv=>lhs;rw[Sx (B:=B) (d:=d) V m]
 rw[Nat.add_mul_mod_self_left]
theorem YM{B d:Nat}(hB:0<B)(hd:0<d)(V m:Nat):V/B^(m+1)%d*B+V/B^m%B<d*B:=by
 have h1:=Nat.mod_lt (V/B^(m+1)) hd;have h2:=Nat.mod_lt (V/B^m) hB;have h3:(V/B^(m+1)%d+1)*B<=d*B:=Nat.mul_le_mul_right _ h1;rw[Nat.add_mul]at h3;omega
theorem NM{B:Nat}(hB:0<B)(V d n:Nat):qU B V d n/B^n=V/B^n/d:=by
 have hP:0<B^n:=Nat.pow_pos hB;rw[qU,Nat.add_mul_div_left _ _ hP,Nat.div_eq_of_lt (Nat.mod_lt _ hP),Nat.zero_add]
theorem YN(B V d n:Nat):qU B V d n%B^n=V%B^n:=by rw[qU,Nat.add_mul_mod_self_left,Nat.mod_mod]
theorem P2{B:Nat}(V d m:Nat):qU B V d (m+1)%B^m=V%B^m:=by
 rw[qU,Nat.pow_succ,Nat.mul_assoc,Nat.add_mul_mod_self_left,Nat.mod_mul_right_mod]
theorem Vi{B:Nat}(hB:0<B){V d m N:Nat}(h:m<N):(fH B N (qU B V d (m+1)))[m]? =some (V/B^m%B):=by
 have hP:0<B^m:=Nat.pow_pos hB;rw[xw _ _ _ h,qU,Nat.pow_succ,Nat.mul_assoc,Nat.add_mul_div_left _ _ hP,Nat.add_mul_mod_self_left,Nat.mod_mul_right_div_self,Nat.mod_mod]
theorem P3{B:Nat}(hB:0<B){V d m N:Nat}(hd:0<d)(h:m<N):(fH B N (qU B V d (m+1))).set m ((V/B^(m+1)%d*B+V/B^m%B)/d)=fH B N (qU B V d m):=by
 have hx:(V/B^(m+1)%d*B+V/B^m%B)/d<B:=by rw[Nat.div_lt_iff_lt_mul hd,Nat.mul_comm B d];exact YM hB hd V m
 have hq:=YK (B:=B) hd V m;refine uh hB h hx ?_ ?_ ?_
 ·rw[YN,P2]
 ·rw[NM hB,hq,Nat.mul_add_mod,Nat.mod_eq_of_lt hx]
 rw[NM hB,Nat.pow_succ,<-Nat.div_div_eq_div_mul,NM hB,hq,Nat.mul_add_div hB,Nat.div_eq_of_lt hx,<-Nat.pow_succ];rfl
end
section
theorem P4{B v:Nat}(hB:2<=B)(h0:v≠0)(h:v<B):can B v=[v]:=by
 have:=NJ hB (l:=[]) h0 (by simpa using h);simpa[val]using this.symm
theorem P5{B v:Nat}(hB:2<=B)(h0:v/B≠0)(h:v<B*B):can B v=[v%B,v/B]:=by
 have h1:v/B<B:=by rw[Nat.div_lt_iff_lt_mul (by omega)];exact h
 have h2:v%B<B:=Nat.mod_lt _ (by omega);have:=NJ hB (l:=[v%B]) h0 (by simp;exact⟨h2,h1⟩);simp only[List.cons_append,List.nil_append,val,Nat.mul_zero,Nat.add_zero]at this;rw[Nat.mod_add_div]at this;exact this.symm
theorem pB{B:Nat}{l:List Nat}(h:∀x∈l,x<B){i:Nat}(hi:i<l.length):l[i]? =some (val B l/B^i%B):=by
 rw[<-qt l h i];simp[List.getD,hi]
def CQ(v w:Nat):Int:=if v<w then-1 else if v=w then 0 else 1
theorem xx{v w:Nat}(h:v<w):CQ v w=-1:=by simp[CQ,h]
theorem ED(v:Nat):CQ v v=0:=by simp[CQ]
theorem Ak{v w:Nat}(h:w<v):CQ v w=1:=by
 have h1:¬v<w:=by omega
 have h2:¬v=w:=by omega
 simp[CQ,h1,h2]
theorem BW{B v w:Nat}(hB:2<=B)(h:(can B v).length<(can B w).length):v<w:=
 Nat.lt_of_lt_of_le (dW hB v) (vf hB h)
theorem GV(B v m:Nat):v/B^m=B*(v/B^(m+1))+v/B^m%B:=by
 rw[Nat.pow_succ,<-Nat.div_div_eq_div_mul,Nat.div_add_mod]
theorem Dk{B v w m:Nat}(h:v/B^m<w/B^m):v<w:=by
 rcases Nat.lt_or_ge v w with h1|h1
 ·exact h1
 have:=Nat.div_le_div_right (c:=B^m) h1;omega
theorem KC{B v w m:Nat}(h:v/B^(m+1)=w/B^(m+1)):(v/B^m%B=w/B^m%B/\v/B^m=w/B^m)\/(v/B^m%B<w/B^m%B/\v<w)\/(w/B^m%B<v/B^m%B/\w<v):=by
 have h1:=GV B v m;have h2:=GV B w m;rw[<-h]at h2;rcases Nat.lt_trichotomy (v/B^m%B) (w/B^m%B)with h3|h3|h3
 ·exact .inr (.inl ⟨h3,Dk (B:=B) (m:=m) (by omega)⟩)
 ·exact .inl ⟨h3,by omega⟩
 exact .inr (.inr ⟨h3,Dk (B:=B) (m:=m) (by omega)⟩)
end
end Go.Fw
namespace Go.Proofs.YtningmnklfpfjaaGreat
section
open Go.Fw
theorem Al(l:List Nat)(hl:l.length<=1000000000000):bu l=some (lF l):=by
 unfold bu;refine nW (λy=>y.length<=1000000000000/\lF y=lF l) (λe=>e=lF l) (λy=>y.length) ?_ ⟨hl,Y⟩ (λe he=>by rw[he]);rintro y ⟨hy,ht⟩;rcases vX y with rfl|⟨ys,rfl⟩|⟨ys,x,hx,rfl⟩
 ·right;exact⟨[],by simp[cQ],ht⟩
 ·left;have h1:((ys++[0]).length:Int)=((ys.length+1:Nat):Int):=by simp
  have h2:ys.length<=9223372036854775807:=by simp at hy;omega
  refine⟨ys,?_,⟨by simp at hy⊢;omega,by rw[<-ht,rD]⟩,by simp⟩;simp only[cQ,Option.bind_some,h1,GN h2];rw[bL (a:=0) (by simp),nV (by simp)];simp
 right;have h1:((ys++[x]).length:Int)=((ys.length+1:Nat):Int):=by simp
 have h2:ys.length<=9223372036854775807:=by simp at hy;omega
 refine⟨ys++[x],?_,by rw[<-ht,vW _ hx]⟩;simp only[cQ,Option.bind_some,h1,GN h2];rw[bL (a:=x) (by simp)];simp[hx]
def zc(n:Bool)(v:Nat):Zr:=⟨n&&v != 0,can 4294967296 v⟩
theorem Jq(n:Bool):zc n 0=⟨false,[]⟩:=by simp[zc,tD]
theorem NN(n:Bool){v:Nat}(h:v≠0):zc n v=⟨n,can 4294967296 v⟩:=by simp[zc,h]
def EW(l:List Nat):Prop:=(∀x∈l,x<4294967296)/\l.length<=100000000000
abbrev vl(l:List Nat):Nat:=val 4294967296 l
theorem jP(n:Bool)(l:List Nat)(h:EW l):cw n l=some (zc n (vl l)):=by
 unfold cw;rw[Al l (by have:=h.2;omega),qp (by decide) h.1];show _=some (zc n (val 4294967296 l));by_cases hz:val 4294967296 l=0
 ·rw[hz,Jq];simp[tD]
 have:can 4294967296 (val 4294967296 l)≠[]:=λe=>hz (Ez (by decide) e);rw[NN _ hz];simp[this]
theorem qu(n:Bool)(v:Nat)(h:v<18446744073709551616):eW n v=some (zc n v):=by
 unfold eW;by_cases hz:v=0
 ·subst hz;simp[Jq]
 rw[NN _ hz];by_cases h1:v/2^32=0
 ·rw[P4 (by decide) hz (by omega)];simp only[Option.bind_some,hz,h1,decide_false,decide_true,cond_false,cond_true];rw[Nat.mod_eq_of_lt (by omega)]
 rw[P5 (by decide) (by omega) (by omega)];simp only[Option.bind_some,hz,h1,decide_false,cond_false];rw[Nat.mod_eq_of_lt (a:=v/2^32) (by omega)]
theorem NO{a b s:Nat}(h:a<2^s):a ||| b*2^s=a+b*2^s:=by
 rw[Nat.or_comm,Nat.mul_comm b,<-Nat.two_pow_add_eq_or_of_lt h,Nat.add_comm]
theorem low_eq(l:List Nat)(h:∀x∈l,x<4294967296)(hl:l.length<=2):dN l=some (vl l):=by
 rcases l with _|⟨x,_|⟨y,_|⟨z,l⟩⟩⟩
 ·simp[dN,vl,val]
 ·have hx:=h x (by simp);simp only[dN,yG (l:=[x]) (a:=x) rfl];simp[vl,val];omega
 ·have hx:=h x (by simp);have hy:=h y (by simp);simp only[dN,yG (l:=[x,y]) (a:=x) Y,NF (l:=[x,y]) (a:=y) Y,Option.bind_some];rw[Nat.mod_eq_of_lt (a:=x) (by omega),Nat.mod_eq_of_lt (a:=y) (by omega),Nat.mod_eq_of_lt (a:=y*2^32) (by omega),NO (by omega),Nat.mod_eq_of_lt (by omega)];simp[vl,val];omega
 simp at hl
theorem gL(x c:Nat)(h:x+c<18446744073709551616):bV x c=some ((x+c)%4294967296,(x+c)/4294967296):=by
 simp[bV,Nat.mod_eq_of_lt h]
theorem jS(v w:Nat)(hv:(can 4294967296 v).length<=100000000000)(hw:(can 4294967296 w).length<=100000000000):c6 (can 4294967296 v) (can 4294967296 w)=some (CQ v w):=by
 unfold c6;rcases Nat.lt_trichotomy (can 4294967296 v).length (can 4294967296 w).length with hl|hl|hl
 ·rw[xx (BW (by decide) hl)];simp only[Option.bind_some];rw[show decide (((can 4294967296 v).length:Int)≠((can 4294967296 w).length:Int))=true by simp;omega,show decide (((can 4294967296 v).length:Int)<((can 4294967296 w).length:Int))=true by simp;omega];rfl
 ·simp only[Option.bind_some];rw[show decide (((can 4294967296 v).length:Int)≠((can 4294967296 w).length:Int))=false by simp;omega,cond_false];refine nW (λy=>∃n:Nat,y=(n:Int)-1/\n<=(can 4294967296 v).length/\v/4294967296^n=w/4294967296^n) (λe=>e=(if v=w then .inl ()else .inr (CQ v w))) (λy=>(y+1).toNat) ?_ ⟨(can 4294967296 v).length,?_,Nat.le_refl _,?_⟩ ?_
  ·rintro y ⟨n,rfl,hn,he⟩;cases n with
   |zero=>
    right;have:v=w:=by simpa using he
    subst this;exact⟨_,by simp,Y⟩
   |succ m=>
    have ER:=EA (B:=4294967296) (by decide) (v:=v) (j:=m) (by omega);have hgw:=EA (B:=4294967296) (by decide) (v:=w) (j:=m) (by omega);have e0:((m+1:Nat):Int)-1=(m:Int):=by omega
    rw[e0];rcases KC he with⟨h1,h2⟩|⟨h1,h2⟩|⟨h1,h2⟩
    ·left;refine⟨(m:Int)-1,?_,⟨m,Y,by omega,h2⟩,by omega⟩;simp only[Option.bind_some,bL ER,bL hgw,h1];rw[cS (by omega) (by omega)];simp
    ·right;refine⟨.inr (-1),?_,by rw[if_neg (by omega),xx h2]⟩;simp only[Option.bind_some,bL ER,bL hgw];simp[h1,Nat.ne_of_lt h1]
    right;refine⟨.inr 1,?_,by rw[if_neg (by omega),Ak h2]⟩;simp only[Option.bind_some,bL ER,bL hgw];simp[Nat.not_lt_of_lt h1,Nat.ne_of_gt h1]
  ·rw[cS (by omega) (by omega)]
  ·rw[BV (by decide) (Nat.le_refl _),BV (by decide) (by omega)]
  rintro e rfl;by_cases h:v=w
  ·subst h;simp[ED]
  simp[h]
 rw[Ak (BW (by decide) hl)];simp only[Option.bind_some];rw[show decide (((can 4294967296 v).length:Int)≠((can 4294967296 w).length:Int))=true by simp;omega,show decide (((can 4294967296 v).length:Int)<((can 4294967296 w).length:Int))=false by simp;omega];rfl
theorem Am{l:List Nat}(h:∀x∈l,x<4294967296)(i:Nat):l.getD i 0<4294967296:=by
 rcases Nat.lt_or_ge i l.length with hi|hi
 ·exact h _ (List.mem_of_getElem? (su hi))
 rw[vp hi];decide
theorem zk(a b:List Nat)(ha:EW a)(hb:EW b):eO a b=some (fH 4294967296 (max a.length b.length+1) (vl a+vl b)):=by
 obtain⟨hA,hla⟩:=ha;obtain⟨hB,hlb⟩:=hb;have hV:val 4294967296 a<4294967296^(max a.length b.length):=Nat.lt_of_lt_of_le (iW a hA) (Nat.pow_le_pow_right (by decide) (by omega));have hW:val 4294967296 b<4294967296^(max a.length b.length):=Nat.lt_of_lt_of_le (iW b hB) (Nat.pow_le_pow_right (by decide) (by omega));unfold eO;simp only[Option.bind_some];rw[show max (a.length:Int) (b.length:Int)=((max a.length b.length:Nat):Int) by omega,bX (by omega),BT (by decide) (by omega),Option.bind_some];refine mw (λk=>(EV 4294967296 (vl a) (vl b) k,fH 4294967296 k (vl a+vl b))) (by simp[GR,fH]) (λk hk=>?_) ?_
 ·have hx:=Am hA k;have hy:=Am hB k;have hc:=Ir (B:=4294967296) (by decide) (vl a) (vl b) k;have hxe:=qt a hA k;have hye:=qt b hB k;simp only[Option.bind_some];rw[Nat.mod_eq_of_lt (a:=a.getD k 0) (by omega),Nat.mod_eq_of_lt (a:=b.getD k 0) (by omega),Nat.mod_eq_of_lt (a:=a.getD k 0+b.getD k 0) (by omega),gL _ _ (by omega)];simp only[Option.bind_some];rw[zQ (by decide) (by rw[bW];omega),Option.bind_some,hxe,hye,GQ (by decide),EB (by decide),<-oG]
 have hc:=Ir (B:=4294967296) (by decide) (vl a) (vl b) (max a.length b.length);simp only;rw[gL _ _ (by omega)];simp only[Option.bind_some];rw[zQ (by decide) (by rw[bW];omega),Option.bind_some,Nat.zero_add,PV hV hW,<-oG]
theorem zm(a b:List Nat)(ha:EW a)(hb:EW b)(hl:b.length<=a.length)(hle:vl b<=vl a):dj a b=some (fH 4294967296 a.length (vl a-vl b)):=by
 obtain⟨hA,hla⟩:=ha;obtain⟨hB,hlb⟩:=hb;have hmx:max a.length b.length=a.length:=by omega
 unfold dj;simp only[Option.bind_some];rw[BT (by decide) (by omega),Option.bind_some,hmx];refine mw (λk=>(zR 4294967296 (vl a) (vl b) k,fH 4294967296 k (vl a-vl b))) (by simp[GS,fH]) (λk hk=>?_) Y;have hx:=Am hA k;have hy:=Am hB k;have hc:=NK (B:=4294967296) (by decide) (vl a) (vl b) k;have hxe:=qt a hA k;have hye:=qt b hB k;simp only[Option.bind_some];rw[Nat.mod_eq_of_lt (a:=a.getD k 0) (by omega),Nat.mod_eq_of_lt (a:=b.getD k 0) (by omega),rB (by omega) (by omega),Nat.mod_eq_of_lt (a:=a.getD k 0+(4294967295-b.getD k 0)) (by omega),gL _ _ (by omega)];simp only[Option.bind_some];rw[zQ (by decide) (by rw[bW];omega),Option.bind_some,hxe,hye,GU (B:=4294967296) (by decide),Jk (B:=4294967296) (by decide) hle,<-oG]
theorem GW(a b:List Nat)(ha:EW a)(hb:EW b):fM a b=some (fH 4294967296 (a.length+b.length) (vl a*vl b)):=by
 obtain⟨hA,hla⟩:=ha;obtain⟨hB,hlb⟩:=hb;unfold fM;simp only[Option.bind_some];rw[ug (by omega),rA (by decide) (by omega),Option.bind_some];refine bN (λi=>((i:Int),fH 4294967296 (a.length+b.length) (vl a%4294967296^i*vl b))) a.length (fH 4294967296 (a.length+b.length) (vl a%4294967296^a.length*vl b)) (by simp[Nat.mod_one,tB]) (λi hi=>?_) (by simp) (by rw[Nat.mod_eq_of_lt (iW a hA)]);have Z2:=pB hA hi;have hx:val 4294967296 a/4294967296^i%4294967296<4294967296:=Nat.mod_lt _ (by decide);simp only[Option.bind_some,show decide ((i:Int)<(a.length:Int))=true by simp;omega,cond_true];rw[bL Z2,Option.bind_some];refine bN (λk=>((k:Int),mC 4294967296 (vl a) (vl b) i k,fH 4294967296 (a.length+b.length) (mV 4294967296 (vl a) (vl b) i k))) b.length (mC 4294967296 (vl a) (vl b) i b.length,fH 4294967296 (a.length+b.length) (mV 4294967296 (vl a) (vl b) i b.length)) (by simp[PZ,PY]) (λk hk=>?_) (by simp) ?_
 ·have hgy:=pB hB hk;have Z3:=Ve (B:=4294967296) (by decide) (V:=vl a) (W:=vl b) (i:=i) (k:=k) (N:=a.length+b.length) (by omega);have hy:val 4294967296 b/4294967296^k%4294967296<4294967296:=Nat.mod_lt _ (by decide);have hp:vl a%4294967296^i*vl b/4294967296^(i+k)%4294967296<4294967296:=Nat.mod_lt _ (by decide);have hc:=Su (B:=4294967296) (by decide) (vl a) (vl b) i k;have hxy:val 4294967296 a/4294967296^i%4294967296*(val 4294967296 b/4294967296^k%4294967296)<=4294967295*4294967295:=Nat.mul_le_mul (by omega) (by omega);simp only[Option.bind_some,show decide ((k:Int)<(b.length:Int))=true by simp;omega,cond_true];rw[bL hgy,Option.bind_some,ug (by omega),cL (by rw[bW];omega),Option.bind_some,Z3,Option.bind_some]
  rw[Nat.mod_eq_of_lt (a:=vl a%4294967296^i*vl b/4294967296^(i+k)%4294967296) (by omega),Nat.mod_eq_of_lt (a:=val 4294967296 a/4294967296^i%4294967296) (b:=18446744073709551616) (by omega),Nat.mod_eq_of_lt (a:=val 4294967296 b/4294967296^k%4294967296) (b:=18446744073709551616) (by omega),Nat.mod_eq_of_lt (a:=val 4294967296 a/4294967296^i%4294967296*(val 4294967296 b/4294967296^k%4294967296)) (by omega),Nat.mod_eq_of_lt (a:=vl a%4294967296^i*vl b/4294967296^(i+k)%4294967296+_) (by omega),gL _ _ (by omega)];simp only[Option.bind_some];rw[fG (by rw[bW];omega),Option.bind_some,PW (B:=4294967296) (by decide),PX (B:=4294967296) (by decide) (by omega),bX (by omega)]
 have hc:=Su (B:=4294967296) (by decide) (vl a) (vl b) i b.length;simp only[Option.bind_some];rw[ug (by omega),gL _ _ (by omega)];simp only[Option.bind_some];rw[cL (by rw[bW];omega),Option.bind_some,fG (by rw[bW];omega),Option.bind_some,Vf (B:=4294967296) (by decide) (iW b hB) (by omega),bX (by omega)]
end
section
open Go.Fw
theorem P6{a b s:Nat}(h:a<2^s):b*2^s ||| a=b*2^s+a:=by rw[Nat.or_comm,NO h,Nat.add_comm]
theorem Jr{a b:Nat}(h:a<4294967296):b*4294967296 ||| a=b*4294967296+a:=P6 (s:=32) h
theorem GX(a:List Nat)(d:Nat)(ha:EW a)(hd:0<d)(hd2:d<=4294967296):gZ a d=some (vl a%d,fH 4294967296 a.length (vl a/d)):=by
 obtain⟨hA,hla⟩:=ha;unfold gZ;simp only[Option.bind_some];rw[cS (by omega) (by omega)];refine bN (λi=>(vl a/4294967296^(a.length-i)%d,((a.length-i:Nat):Int)-1,fH 4294967296 a.length (qU 4294967296 (vl a) d (a.length-i)))) a.length (vl a%d,fH 4294967296 a.length (vl a/d)) ?_ (λi hi=>?_) (by simp[P0]) ?_
 ·simp only[Nat.sub_zero];rw[Vh (iW a hA),Aj a hA,Nat.div_eq_of_lt (iW a hA),Nat.zero_mod]
 ·obtain⟨m,hm⟩:∃m,a.length-i=m+1:=⟨a.length-i-1,by omega⟩;have hm':a.length-(i+1)=m:=by omega
  have hml:m<a.length:=by omega
  rw[hm,hm'];have hy:vl a/4294967296^m%4294967296<4294967296:=Nat.mod_lt _ (by decide);have hr:vl a/4294967296^(m+1)%d<d:=Nat.mod_lt _ hd;have hq:=YM (B:=4294967296) (by decide) hd (vl a) m;have hqd:(vl a/4294967296^(m+1)%d*4294967296+vl a/4294967296^m%4294967296)/d<4294967296:=by rw[Nat.div_lt_iff_lt_mul hd,Nat.mul_comm 4294967296 d];exact hq
  have hg:=Vi (B:=4294967296) (by decide) (V:=vl a) (d:=d) (m:=m) (N:=a.length) hml;have hlt:vl a/4294967296^(m+1)%d*4294967296+vl a/4294967296^m%4294967296<18446744073709551616:=by omega
  have V0:vl a/4294967296^(m+1)%d*4294967296<18446744073709551616:=Nat.lt_of_le_of_lt (Nat.le_add_right _ _) hlt;have Ck:vl a/4294967296^m%4294967296<18446744073709551616:=Nat.lt_of_le_of_lt (Nat.le_add_left _ _) hlt;have hi1:((m+1:Nat):Int)-1=(m:Int):=by omega
  simp only[hi1,show decide ((0:Int)<=(m:Int))=true by simp,cond_true,Option.bind_some];rw[cL (by rw[bW];omega),Option.bind_some,hg];simp only[Option.bind_some];rw[show(2:Nat)^32=4294967296 from rfl];rw[Nat.mod_eq_of_lt (a:=vl a/4294967296^(m+1)%d*4294967296) V0,Nat.mod_eq_of_lt (a:=vl a/4294967296^m%4294967296) (b:=18446744073709551616) Ck,Jr hy,Nat.mod_eq_of_lt (a:=vl a/4294967296^(m+1)%d*4294967296+vl a/4294967296^m%4294967296) hlt,Ex (by omega) hlt,Ai (by omega)];simp only[Option.bind_some];rw[Nat.mod_eq_of_lt (b:=4294967296) (a:=(vl a/4294967296^(m+1)%d*4294967296+vl a/4294967296^m%4294967296)/d) hqd,fG (by rw[bW];omega),Option.bind_some,cS (by omega) (by omega)];rw[P3 (B:=4294967296) (by decide) hd hml,<-YL (B:=4294967296) (d:=d) (vl a) m]
 simp only;rw[qo (by rw[bW]),Option.bind_some]
theorem shiftLeft_eq(a:List Nat)(s:Nat)(ha:EW a)(hs:s<32):fy a s=some (fH 4294967296 (a.length+1) (vl a*2^s)):=by
 obtain⟨hA,hla⟩:=ha;have hf:2^s<4294967296:=by
  have:2^s<2^32:=Nat.pow_lt_pow_right (by decide) hs;omega
 unfold fy;simp only[Option.bind_some];rw[bX (by omega),BT (by decide) (by omega),Option.bind_some];refine bN (λi=>((i:Int),sC 4294967296 (vl a) (2^s) 0 i,fH 4294967296 i (vl a*2^s+0))) a.length (sC 4294967296 (vl a) (2^s) 0 a.length,fH 4294967296 a.length (vl a*2^s+0)) (by simp[Jn,fH]) (λi hi=>?_) (by simp) ?_
 ·have hx:vl a/4294967296^i%4294967296<4294967296:=Nat.mod_lt _ (by decide);have hc:=Sw (B:=4294967296) (by decide) (V:=vl a) hf (show(0:Nat)<4294967296 by decide) i;have hxf:vl a/4294967296^i%4294967296*2^s<=4294967295*4294967295:=Nat.mul_le_mul (by omega) (by omega);have hg:a[i]? =some (vl a/4294967296^i%4294967296):=pB hA hi;simp only[show decide ((i:Int)<(a.length:Int))=true by simp;omega,cond_true];rw[bL hg];simp only[Option.bind_some];rw[show min s 64=s by omega,Nat.mod_eq_of_lt (a:=vl a/4294967296^i%4294967296) (b:=18446744073709551616) (by omega),Nat.mod_eq_of_lt (b:=18446744073709551616) (by omega),gL _ _ (by omega)];simp only[Option.bind_some];rw[zQ (by decide) (by rw[bW];omega),Option.bind_some,Jp (B:=4294967296) (by decide),NL (B:=4294967296) (by decide),bX (by omega),<-oG]
 have hc:=Sw (B:=4294967296) (by decide) (V:=vl a) hf (show(0:Nat)<4294967296 by decide) a.length;simp only;rw[gL _ _ (by omega)];simp only[Option.bind_some];rw[zQ (by decide) (by rw[bW];omega),Option.bind_some,Nat.zero_add,Vg (iW a hA),<-oG];simp
theorem CR(a:List Nat)(s:Nat):iz a s=fy a s:=rfl
def vY:Oz:=[0,1,2,2,3,3,3,3,4,4,4,4,4,4,4,4,5,5,5,5,5,5,5,5,5,5,5,5,5,5,5,5]++List.replicate 32 6++List.replicate 64 7++List.replicate 128 8
theorem Vj:∀y:Nat,y<256->uJ vY (y:Int)=some ((uJ vY (y:Int)).getD 0)/\(uJ vY (y:Int)).getD 0<=8/\y<2^(uJ vY (y:Int)).getD 0/\(y=0\/2^(uJ vY (y:Int)).getD 0<=2*y):=by decide+kernel
set_option maxRecDepth 20000 in
theorem NP(x:Nat)(h:x<4294967296):∃n:Nat,gu x=some (n:Int)/\n<=32/\x<2^n/\(x=0\/2^n<=2*x):=by
 have key:∀(y k:Nat),y<256->y=x/2^k->k<=24->(x≠0->y≠0)->∃n:Nat,(((uJ vY ((y%256:Nat):Int)).bind λgN=>(some (IntKind.i64.wrap (gN:Int))).bind λfJ=>(some (IntKind.i64.wrap ((k:Int)+fJ))).bind λfC=>some fC)=some (n:Int))/\n<=32/\x<2^n/\(x=0\/2^n<=2*x):=by
  intro y k hy hyx hk Z4;obtain⟨h1,h2,h3,h4⟩:=Vj y hy;rw[Nat.mod_eq_of_lt hy,h1];generalize (uJ vY (y:Int)).getD 0=t at*;have hp:0<2^k:=Nat.two_pow_pos _;have e1:2^(k+t)=2^k*2^t:=Nat.pow_add ..;have e2:=Nat.div_add_mod x (2^k);have e3:=Nat.mod_lt x hp;rw[<-hyx]at e2;refine⟨k+t,?_,by omega,?_,?_⟩
  ·simp only[Option.bind_some];rw[uf (by omega),ug (by omega)]
  ·rw[e1];have:2^k*(y+1)<=2^k*2^t:=Nat.mul_le_mul_left _ h3;rw[Nat.mul_add]at this;omega
  rcases h4 with h4|h4
  ·left;cases Nat.eq_zero_or_pos x with
   |inl h=>exact h
   |inr h=>exact absurd h4 (Z4 (by omega))
  right;rw[e1];have:2^k*2^t<=2^k*(2*y):=Nat.mul_le_mul_left _ h4;rw[show 2^k*(2*y)=2*(2^k*y) by rw[Nat.mul_left_comm]]at this;omega
 unfold gu;simp only[cQ,Option.bind_some];by_cases c1:65536<=x
 ·rw[show decide (65536<=x)=true by simpa using c1];simp only[cond_true];by_cases c2:256<=x/2^16
  ·rw[show decide (256<=x/2^16)=true by simpa using c2];simp only[cond_true];rw[show IntKind.i64.wrap (16+8)=((24:Nat):Int) by decide];exact key (x/2^16/2^8) 24 (by omega) (by omega) (by omega) (by omega)
  rw[show decide (256<=x/2^16)=false by simpa using c2];simp only[cond_false];exact key (x/2^16) 16 (by omega) Y (by omega) (by omega)
 rw[show decide (65536<=x)=false by simpa using c1];simp only[cond_false];by_cases c2:256<=x
 ·rw[show decide (256<=x)=true by simpa using c2];simp only[cond_true];rw[show IntKind.i64.wrap (0+8)=((8:Nat):Int) by decide];exact key (x/2^8) 8 (by omega) Y (by omega) (by omega)
 rw[show decide (256<=x)=false by simpa using c2];simp only[cond_false];exact key x 0 (by omega) (by simp) (by omega) (λh=>h)
theorem YO(x:Nat)(h:x<4294967296)(h0:x≠0):∃s:Nat,dG x=some (s:Int)/\s<32/\2147483648<=x*2^s/\x*2^s<4294967296:=by
 obtain⟨n,h1,h2,h3,h4⟩:=NP x h;have h4:2^n<=2*x:=h4.resolve_left h0;have hn:n≠0:=by rintro rfl;simp at h3;omega
 refine⟨32-n,?_,by omega,?_,?_⟩
 ·unfold dG;rw[h1];simp only[Option.bind_some];rw[cS (by omega) (by omega)];congr 1;omega
 ·have:2^n*2^(32-n)<=2*x*2^(32-n):=Nat.mul_le_mul_right _ h4;rw[<-Nat.pow_add,show n+(32-n)=32 by omega,Nat.mul_assoc]at this;omega
 have:x*2^(32-n)<2^n*2^(32-n):=Nat.mul_lt_mul_of_pos_right h3 (Nat.two_pow_pos _);rw[<-Nat.pow_add,show n+(32-n)=32 by omega]at this;omega
end
end Go.Proofs.YtningmnklfpfjaaGreat
namespace Go.Fw
section
section YP
variable {B V U W:Nat}
theorem Vk{P F T:Nat}(hP:0<P)(hF:0<F)(hV:F*P<=V)(hU:U<(T+1)*P):U/V<=T/F:=by
 have Vl:0<V:=Nat.lt_of_lt_of_le (Nat.mul_pos hF hP) hV;rw[Nat.le_div_iff_mul_le hF];rcases Nat.lt_or_ge T (U/V*F)with h|h
 ·exfalso;have h1:U/V*V<=U:=Nat.div_mul_le_self U V;have h2:U/V*(F*P)<=U/V*V:=Nat.mul_le_mul_left _ hV;have h3:(T+1)*P<=U/V*F*P:=Nat.mul_le_mul_right _ h;rw[Nat.mul_assoc]at h3;omega
 exact h
theorem P7{P F S T u g r:Nat}(hV:(F*B+S)*P<=V)(hU:U<(T*B+u+1)*P)(WH:g*F+r=T)(h:r*B+u<g*S):U<g*V:=by
 have h1:g*((F*B+S)*P)<=g*V:=Nat.mul_le_mul_left _ hV;have h2:(T*B+u+1)*P<=g*(F*B+S)*P:=by
  apply Nat.mul_le_mul_right;rw[Nat.mul_add,<-Nat.mul_assoc,<-WH,Nat.add_mul];omega
 rw[Nat.mul_assoc]at h2;omega
theorem Vm{P V2 U2 g:Nat}(hV:V<(V2+1)*P)(hU:U2*P<=U)(hq:U/V<B)(hB:B<=V2)(Vl:0<V)(h:g*V2<=U2):g<=U/V+1:=by
 rcases Nat.lt_or_ge (U/V+1) g with h'|h'
 ·exfalso;have h1:U<(U/V+1)*V:=by have:=Nat.lt_div_mul_add (a:=U) Vl;rw[Nat.add_mul,Nat.one_mul];exact this
  have h2:(U/V+1)*V<=(U/V+1)*((V2+1)*P):=Nat.mul_le_mul_left _ (Nat.le_of_lt hV);have h3:g*V2*P<=U2*P:=Nat.mul_le_mul_right _ h;have h4:(U/V+2)*V2<=g*V2:=Nat.mul_le_mul_right _ h';have h5:(U/V+2)*V2*P<=g*V2*P:=Nat.mul_le_mul_right _ h4;have h6:(U/V+1)*((V2+1)*P)<=(U/V+2)*V2*P:=by
   rw[<-Nat.mul_assoc];apply Nat.mul_le_mul_right;rw[Nat.mul_add,Nat.add_mul (U/V) 2 V2,Nat.add_mul (U/V) 1 V2];omega
  omega
 exact h'
end YP
def mix(B o i X U A:Nat):Nat:=A%B^o+B^o*(X%B^i+B^i*(U/B^i))
theorem Js(B o i X U A:Nat):mix B o i X U A%B^o=A%B^o:=by rw[mix,Nat.add_mul_mod_self_left,Nat.mod_mod]
section mix
variable {B:Nat}(hB:0<B)(o i X U A:Nat)
include hB
theorem xy:mix B o i X U A/B^o=X%B^i+B^i*(U/B^i):=by
 rw[mix,Nat.add_mul_div_left _ _ (Nat.pow_pos hB),Nat.div_eq_of_lt (Nat.mod_lt _ (Nat.pow_pos hB)),Nat.zero_add]
theorem xz:mix B o i X U A/B^(o+i)=U/B^i:=by
 rw[Nat.pow_add,<-Nat.div_div_eq_div_mul,xy hB,Nat.add_mul_div_left _ _ (Nat.pow_pos hB),Nat.div_eq_of_lt (Nat.mod_lt _ (Nat.pow_pos hB)),Nat.zero_add]
theorem P8:mix B o i X U A%B^(o+i)=A%B^o+B^o*(X%B^i):=by
 rw[Nat.pow_add,Nat.mod_mul,Js,xy hB,Nat.add_mul_mod_self_left,Nat.mod_mod]
theorem EE{N:Nat}(h:o+i<N):(fH B N (mix B o i X U A)).set (o+i) (X/B^i%B)=fH B N (mix B o (i+1) X U A):=by
 apply uh hB h (Nat.mod_lt _ hB)
 ·rw[P8 hB,Nat.pow_add,Nat.mod_mul,Js,xy hB,Nat.pow_succ B i,Nat.mul_assoc,Nat.add_mul_mod_self_left,Nat.mod_mul,Nat.add_mul_mod_self_left,Nat.mod_mod]
 ·rw[Nat.pow_add,<-Nat.div_div_eq_div_mul,xy hB,Nat.pow_succ B i,Nat.mod_mul,Nat.mul_assoc,Nat.add_assoc,<-Nat.mul_add,Nat.add_mul_div_left _ _ (Nat.pow_pos hB),Nat.div_eq_of_lt (Nat.mod_lt _ (Nat.pow_pos hB)),Nat.zero_add,Nat.add_mul_mod_self_left,Nat.mod_mod]
 have h1:=xz hB o (i+1) X U A;have h2:=xz hB o i X U A;rw[show o+i+1=o+(i+1) by omega,h1,show o+(i+1)=(o+i)+1 by omega,Nat.pow_succ B (o+i),<-Nat.div_div_eq_div_mul,h2,Nat.pow_succ,<-Nat.div_div_eq_div_mul]
end mix
theorem GY{B o m X U A:Nat}(hU:U<B^m):mix B o m X U A=A%B^o+B^o*(X%B^m):=by rw[mix,Nat.div_eq_of_lt hU];simp
theorem GZ{B:Nat}(o X A:Nat):mix B o 0 X (A/B^o) A=A:=by
 simp only[mix,Nat.pow_zero,Nat.mod_one,Nat.zero_add,Nat.one_mul,Nat.div_one];exact Nat.mod_add_div A (B^o)
theorem KD{B U U' T i:Nat}(h:U%B^i=U'%B^i):zR B U T i=zR B U' T i:=by rw[zR,zR,h]
theorem NQ{B:Nat}(hB:0<B){U T m i:Nat}(hi:i<m)(hT:T<=U+B^m):(U/B^i%B+(B-1-T/B^i%B)+zR B U T i)%B=(U+B^m-T)/B^i%B:=by
 have e:B^m=B^i*(B*B^(m-i-1)):=by rw[<-Nat.pow_succ',<-Nat.pow_add];congr 1;omega
 have h1:(U+B^m)%B^i=U%B^i:=by rw[e,Nat.add_mul_mod_self_left]
 have h2:(U+B^m)/B^i%B=U/B^i%B:=by rw[e,Nat.add_mul_div_left _ _ (Nat.pow_pos hB),Nat.add_mul_mod_self_left]
 rw[<-h2,KD (U':=U+B^m) h1.symm,Jk hB hT]
theorem P9{B m U T:Nat}(hB:0<B)(hU:U<B^m)(hT:T<B^m):zR B U T m=if U<T then 0 else 1:=by
 rw[zR,Nat.mod_eq_of_lt hU,Nat.mod_eq_of_lt hT];have hp:0<B^m:=Nat.pow_pos hB;split
 ·exact Nat.div_eq_of_lt (by omega)
 rw[show U+B^m-T=(U-T)+B^m by omega,Nat.add_div_right _ hp,Nat.div_eq_of_lt (by omega)]
end
end Go.Fw
namespace Go.Proofs.YtningmnklfpfjaaGreat
section
open Go.Fw
theorem nj{N A j:Nat}(h:j<N):(fH 4294967296 N A)[j]? =some (A/4294967296^j%4294967296):=xw N A j h
theorem two32:(2:Nat)^32=4294967296:=rfl
theorem YQ:(2:Nat)^63=9223372036854775808:=rfl
theorem EF(A o j:Nat):A/4294967296^(o+j)=A/4294967296^o/4294967296^j:=by rw[Nat.pow_add,Nat.div_div_eq_div_mul]
theorem G0{N A o n:Nat}{v:List Nat}(hv:EW v)(hn:v.length=n+2)(hN:N<=100000000001)(ho:o+(n+2)<N)
  (hU:A/4294967296^o<4294967296*vl v) (NR:2147483648*4294967296^(n+1)<=vl v):
  ∃r,g9 (fH 4294967296 N A) o (n+3) v=some r/\r.2=fH 4294967296 N A/\A/4294967296^o/vl v<=r.1/\r.1<=A/4294967296^o/vl v+1:=by
 obtain⟨hV,hlv⟩:=hv;obtain⟨U,OH⟩:∃U,A/4294967296^o=U:=⟨_,Y⟩;obtain⟨V,OI⟩:∃V,vl v=V:=⟨_,Y⟩;have zS:V<4294967296^(n+2):=by rw[<-OI,<-hn];exact iW v hV
 have Sy:0<4294967296^(n+1):=Nat.pow_pos (by decide);have hP:0<4294967296^n:=Nat.pow_pos (by decide);have Vn:4294967296^(n+1)=4294967296^n*4294967296:=Nat.pow_succ ..;have G1:4294967296^(n+2)=4294967296^(n+1)*4294967296:=Nat.pow_succ ..;rw[OH,OI]at hU⊢;rw[OI]at NR;have YR:U<4294967296^(n+1)*4294967296*4294967296:=by
  have:4294967296*V<4294967296*4294967296^(n+2):=Nat.mul_lt_mul_of_pos_left zS (by decide);rw[G1]at this;omega
 obtain⟨F,hF⟩:∃F,V/4294967296^(n+1)=F:=⟨_,Y⟩;obtain⟨S,hS⟩:∃S,V/4294967296^n%4294967296=S:=⟨_,Y⟩;obtain⟨T,hT⟩:∃T,U/4294967296^(n+1)=T:=⟨_,Y⟩;obtain⟨u,hu⟩:∃u,U/4294967296^n%4294967296=u:=⟨_,Y⟩;have ae7:F<4294967296:=by rw[<-hF,Nat.div_lt_iff_lt_mul Sy];rw[G1,Nat.mul_comm]at zS;exact zS
 have ahW:2147483648<=F:=by rw[<-hF,Nat.le_div_iff_mul_le Sy];exact NR
 have ahX:S<4294967296:=by rw[<-hS];exact Nat.mod_lt _ (by decide)
 have YS:u<4294967296:=by rw[<-hu];exact Nat.mod_lt _ (by decide)
 have ae8:T<4294967296*4294967296:=by rw[<-hT,Nat.div_lt_iff_lt_mul Sy];rw[Nat.mul_comm,<-Nat.mul_assoc];exact YR
 have hV2:V/4294967296^n=F*4294967296+S:=by rw[<-hF,<-hS,Vn,<-Nat.div_div_eq_div_mul,Nat.mul_comm,Nat.div_add_mod]
 have hU2:U/4294967296^n=T*4294967296+u:=by rw[<-hT,<-hu,Vn,<-Nat.div_div_eq_div_mul,Nat.mul_comm,Nat.div_add_mod]
 have hq:U/V<4294967296:=by rw[Nat.div_lt_iff_lt_mul (by omega)];exact hU
 have YT:(F*4294967296+S)*4294967296^n<=V:=by rw[<-hV2];exact Nat.div_mul_le_self _ _
 have YU:V<(F*4294967296+S+1)*4294967296^n:=by rw[<-hV2,Nat.add_mul,Nat.one_mul];exact Nat.lt_div_mul_add hP
 have YV:(T*4294967296+u)*4294967296^n<=U:=by rw[<-hU2];exact Nat.div_mul_le_self _ _
 have YW:U<(T*4294967296+u+1)*4294967296^n:=by rw[<-hU2,Nat.add_mul,Nat.one_mul];exact Nat.lt_div_mul_add hP
 have SA:F*4294967296^(n+1)<=V:=by rw[<-hF];exact Nat.div_mul_le_self _ _
 have SB:U<(T+1)*4294967296^(n+1):=by rw[<-hT,Nat.add_mul,Nat.one_mul];exact Nat.lt_div_mul_add Sy
 have SC:V<(F+1)*4294967296^(n+1):=by rw[<-hF,Nat.add_mul,Nat.one_mul];exact Nat.lt_div_mul_add Sy
 have hTF:T<4294967296*(F+1):=by
  rw[<-hT,Nat.div_lt_iff_lt_mul Sy];have:4294967296*V<4294967296*((F+1)*4294967296^(n+1)):=Nat.mul_lt_mul_of_pos_left SC (by decide);rw[Nat.mul_assoc];omega
 have g1:(fH 4294967296 N A)[o+(n+2)]? =some (U/4294967296^(n+2)%4294967296):=by rw[nj (by omega),EF,OH]
 have g2:(fH 4294967296 N A)[o+(n+1)]? =some (U/4294967296^(n+1)%4294967296):=by rw[nj (by omega),EF,OH]
 have g3:(fH 4294967296 N A)[o+n]? =some u:=by rw[nj (by omega),EF,OH,hu]
 have g4:v[n+1]? =some F:=by rw[pB hV (by omega),show val 4294967296 v=V from OI,hF,Nat.mod_eq_of_lt ae7]
 have g5:v[n]? =some S:=by rw[pB hV (by omega),show val 4294967296 v=V from OI,hS]
 have hun:U/4294967296^(n+2)<4294967296:=by rw[G1,<-Nat.div_div_eq_div_mul,hT,Nat.div_lt_iff_lt_mul (by decide)];exact ae8
 have It:U/4294967296^(n+2)%4294967296*4294967296+U/4294967296^(n+1)%4294967296=T:=by
  rw[Nat.mod_eq_of_lt hun,G1,<-Nat.div_div_eq_div_mul,hT,Nat.mul_comm,Nat.div_add_mod]
 obtain⟨t1,ht1⟩:∃t,U/4294967296^(n+2)%4294967296=t:=⟨_,Y⟩;obtain⟨t2,ht2⟩:∃t,U/4294967296^(n+1)%4294967296=t:=⟨_,Y⟩;have l1:t1<4294967296:=by rw[<-ht1];exact Nat.mod_lt _ (by decide)
 have l2:t2<4294967296:=by rw[<-ht2];exact Nat.mod_lt _ (by decide)
 rw[ht1]at g1 It;rw[ht2]at g2 It;clear ht1 ht2 hU2 hV2;have c1:((n+2:Nat):Int)-1=((n+1:Nat):Int):=by omega
 have c2:((n+2:Nat):Int)-2=(n:Int):=by omega
 unfold g9;simp only[Option.bind_some,hn,c1,c2];rw[uf (by omega),uf (by omega),Ah (by omega),Ah (by omega),Ah (by omega)];simp only[Option.bind_some];rw[g1,g2,bL g4,bL g5];simp only[Option.bind_some,two32];rw[Nat.mod_eq_of_lt (a:=t1) (by omega),Nat.mod_eq_of_lt (a:=t2) (by omega),Nat.mod_eq_of_lt (a:=t1*4294967296) (by omega),Jr l2,It,Nat.mod_eq_of_lt (a:=T) (by omega),Nat.mod_eq_of_lt (a:=F) (by omega),Nat.mod_eq_of_lt (a:=S) (by omega),Ex (by omega) (by omega),Ai (by omega)];simp only[Option.bind_some];have afd:=Vk (V:=V) (U:=U) Sy (show 0<F by omega) SA SB;have hle:∀g,g*(F*4294967296+S)<=T*4294967296+u->g<=U/V+1:=λg h=>Vm (B:=4294967296) YU YV hq (by omega) (by omega) h;have afe:∀g r,g*F+r=T->r*4294967296+u<g*S->U/V<g:=λg r i1 ht=>(Nat.div_lt_iff_lt_mul (by omega)).2 (P7 YT YW i1 ht);have hg0:T/F<=4294967297:=by
  have:T/F<4294967298:=by
   rw[Nat.div_lt_iff_lt_mul (by omega)];omega
  omega
 generalize U/V=q at*;clear YT YU YV YW SA SB SC hTF YR NR zS Vn G1 hP Sy hF hS hT hu OH OI hU;have hdm:=Nat.div_add_mod T F;have hml:=Nat.mod_lt T (show 0<F by omega);have aff:T/F*F+T%F=T:=by rw[Nat.mul_comm];exact hdm
 clear hdm;refine nT (λx=>x.1*F+x.2=T/\q<=x.1/\x.2<4294967296/\x.1<=4294967297) (λe=>q<=e/\e<=q+1) (λx=>x.1) ?_ ⟨aff,afd,by show T%F<_;omega,hg0⟩ ?_
 ·rintro⟨g,r⟩ ⟨i1,i2,i3,i4⟩;simp only at i1 i2 i3 i4;have down:q<g->(∃s',(bif decide ((r+F)%18446744073709551616/4294967296≠0)then some (.inr (oQ 18446744073709551616 g 1))else some (.inl (oQ 18446744073709551616 g 1,(r+F)%18446744073709551616)):Option ((Nat×Nat)⊕Nat))=some (.inl s')/\(s'.1*F+s'.2=T/\q<=s'.1/\s'.2<4294967296/\s'.1<=4294967297)/\s'.1<g)\/
    (∃e,(bif decide ((r+F)%18446744073709551616/4294967296≠0)then some (.inr (oQ 18446744073709551616 g 1))else some (.inl (oQ 18446744073709551616 g 1,(r+F)%18446744073709551616)):Option ((Nat×Nat)⊕Nat))=some (.inr e)/\q<=e/\e<=q+1):=by
   intro hlt;have e1:(g-1)*F+(r+F)=T:=by
    obtain⟨k,rfl⟩:∃k,g=k+1:=⟨g-1,by omega⟩;rw[Nat.add_sub_cancel];rw[Nat.add_mul]at i1;omega
   rw[rB (by omega) (by omega),Nat.mod_eq_of_lt (a:=r+F) (by omega)];by_cases hb:r+F<4294967296
   ·left;refine⟨(g-1,r+F),by simp[Nat.div_eq_of_lt hb],⟨e1,by simp only;omega,hb,by simp only;omega⟩,by simp only;omega⟩
   right;have hne:(r+F)/4294967296≠0:=by omega
   refine⟨g-1,by simp[hne],by omega,?_⟩;refine hle _ ?_;have m1:(g-1)*S<=4294967296*4294967295:=Nat.mul_le_mul (by omega) (by omega);rw[Nat.mul_add,<-Nat.mul_assoc];have m2:((g-1)*F+(r+F))*4294967296=T*4294967296:=by rw[e1]
   rw[Nat.add_mul]at m2;omega
  simp only[cQ,cq];by_cases hg:g<4294967296
  ·rw[show decide (g/4294967296≠0)=false by simp;omega];have hgS:g*S<=4294967295*4294967295:=Nat.mul_le_mul (by omega) (by omega);simp only[jt];rw[g3];simp only[cq];rw[Nat.mod_eq_of_lt (a:=g*S) (by omega),Nat.mod_eq_of_lt (a:=r*4294967296) (by omega),Nat.mod_eq_of_lt (a:=u) (by omega),Jr YS,Nat.mod_eq_of_lt (a:=r*4294967296+u) (by omega)];by_cases ht:r*4294967296+u<g*S
   ·rw[show decide (r*4294967296+u<g*S)=true by simpa using ht];simp only[cq,iV];exact down (afe _ _ i1 ht)
   rw[show decide (r*4294967296+u<g*S)=false by simpa using ht];right;refine⟨g,by simp,i2,?_⟩;refine hle _ ?_;rw[Nat.mul_add,<-Nat.mul_assoc,<-i1,Nat.add_mul];omega
  rw[show decide (g/4294967296≠0)=true by simp;omega];simp only[cq,iV];exact down (by omega)
 rintro e ⟨h2,h3⟩;exact⟨(e,fH 4294967296 N A),by rw[qo Y,Option.bind_some],Y,h2,h3⟩
end
section
open Go.Fw
theorem uF{N A o n f:Nat}{v:List Nat}(hv:EW v)(hn:v.length=n)(hN:N<=100000000001)(ho:o+n<N)(hf:f<=4294967296)
  (hU:A/4294967296^o<4294967296^(n+1)):
  dm (fH 4294967296 N A) o (n+1) v f=some (decide (A/4294967296^o<vl v*f),fH 4294967296 N (A%4294967296^o+4294967296^o*((A/4294967296^o+4294967296^(n+1)-vl v*f)%4294967296^(n+1)))):=by
 obtain⟨hV,hlv⟩:=hv;obtain⟨U,OH⟩:∃U,A/4294967296^o=U:=⟨_,Y⟩;obtain⟨V,OI⟩:∃V,vl v=V:=⟨_,Y⟩;have zS:V<4294967296^n:=by rw[<-OI,<-hn];exact iW v hV
 have Ls:4294967296^(n+1)=4294967296^n*4294967296:=Nat.pow_succ ..;have hT:V*f<4294967296^(n+1):=by
  rw[Ls]
  calc V*f<=V*4294967296:=Nat.mul_le_mul_left _ hf
   _<4294967296^n*4294967296:=Nat.mul_lt_mul_of_pos_right zS (by decide)
 rw[OH]at hU⊢;rw[OI];obtain⟨X,hX⟩:∃X,U+4294967296^(n+1)-V*f=X:=⟨_,Y⟩;rw[hX];unfold dm;simp only[cq];have Vo:∀i,zR 4294967296 U (V*f) i<=1:=λi=>NK (by decide) _ _ _;refine bN (λi=>(1-zR 4294967296 U (V*f) i,(i:Int),sC 4294967296 V f 0 i,fH 4294967296 N (mix 4294967296 o i X U A))) (n+1) (1-zR 4294967296 U (V*f) (n+1),fH 4294967296 N (mix 4294967296 o (n+1) X U A)) ?_ (λi hi=>?_) ?_ ?_
 ·rw[GS,Jn,<-OH,GZ];rfl
 ·
  obtain⟨t,ht⟩:∃t,V*f/4294967296^i%4294967296=t:=⟨_,Y⟩;obtain⟨c,hc⟩:∃c,sC 4294967296 V f 0 i=c:=⟨_,Y⟩;obtain⟨p,hp⟩:∃p,V/4294967296^i%4294967296*f=p:=⟨_,Y⟩;have ah0:c<4294967296:=by
   rw[<-hc,sC,sT,Nat.add_zero,Nat.div_lt_iff_lt_mul (Nat.pow_pos (by decide))]
   calc V%4294967296^i*f<=V%4294967296^i*4294967296:=Nat.mul_le_mul_left _ hf
    _<4294967296*4294967296^i:=by rw[Nat.mul_comm];exact Nat.mul_lt_mul_of_pos_left (Nat.mod_lt _ (Nat.pow_pos (by decide))) (by decide)
  have ah1:p<=4294967295*4294967296:=by
   rw[<-hp];exact Nat.mul_le_mul (by have:=Nat.mod_lt (V/4294967296^i) (show 0<4294967296 by decide);omega) hf
  have Vd:(p+c)%4294967296=t:=by rw[<-hp,<-hc,NL (B:=4294967296) (by decide),Nat.add_zero,ht]
  have hstep:(p+c)/4294967296=sC 4294967296 V f 0 (i+1):=by rw[<-hp,<-hc,Jp (B:=4294967296) (by decide)]
  have ah2:t<4294967296:=by rw[<-ht];exact Nat.mod_lt _ (by decide)
  obtain⟨u,hu⟩:∃u,U/4294967296^i%4294967296=u:=⟨_,Y⟩;have YS:u<4294967296:=by rw[<-hu];exact Nat.mod_lt _ (by decide)
  have hg:(fH 4294967296 N (mix 4294967296 o i X U A))[o+i]? =some u:=by rw[nj (by omega),xz (by decide),hu]
  have hl:=Vo i;obtain⟨l,hle⟩:∃l,zR 4294967296 U (V*f) i=l:=⟨_,Y⟩;have hxd:(u+(4294967296-1-t)+l)%4294967296=X/4294967296^i%4294967296:=by rw[<-hu,<-ht,<-hle,NQ (B:=4294967296) (by decide) hi (by omega),hX]
  have hls:(u+(4294967296-1-t)+l)/4294967296=zR 4294967296 U (V*f) (i+1):=by rw[<-hu,<-ht,<-hle,GU (B:=4294967296) (by decide)]
  rw[hle]at hl;have hput:=EE (B:=4294967296) (by decide) o i X U A (N:=N) (by omega);rw[hle,hc,<-hls];simp only[show decide ((i:Int)<((n+1:Nat):Int))=true by simp;omega,iV,cq,cQ];rw[Ah (by omega)];simp only[cq,hg];have way:∀k:Nat->Option ((Nat×Int×Nat×List Nat)⊕(Nat×List Nat)),(bif decide ((i:Int)<(v.length:Int))then(cW v (i:Int)).bind λik=>k (ik%18446744073709551616*f%18446744073709551616)else k 0)=k p:=by
   intro k;by_cases hin:i<v.length
   ·rw[show decide ((i:Int)<(v.length:Int))=true by simp;omega,iV];have ER:v[i]? =some (V/4294967296^i%4294967296):=by rw[<-OI];exact pB hV hin
    rw[bL ER,cq,Nat.mod_eq_of_lt (a:=V/4294967296^i%4294967296) (b:=18446744073709551616) (by have:=Nat.mod_lt (V/4294967296^i) (show 0<4294967296 by decide);omega),hp,Nat.mod_eq_of_lt (a:=p) (by omega)]
   rw[show decide ((i:Int)<(v.length:Int))=false by simp;omega,jt];have:V/4294967296^i=0:=Nat.div_eq_of_lt (Nat.lt_of_lt_of_le zS (Nat.pow_le_pow_right (by decide) (by omega)));rw[<-hp,this];simp
  refine(way (λy=>(bV y c).bind _)).trans ?_;rw[gL _ _ (by omega)];simp only[cq];rw[Vd,hstep,Nat.mod_eq_of_lt (a:=u) (by omega),Nat.mod_eq_of_lt (a:=t) (by omega)];rw[fG (by rw[bW];omega),cq,bX (by omega),YQ];by_cases S6:u<t+(1-l)
  ·have e1:oQ 18446744073709551616 (oQ 18446744073709551616 u t) (1-l)=18446744073709551616+u-t-(1-l):=by
    by_cases h1:u<t
    ·rw[Ag h1 (by omega),rB (by omega) (by omega)]
    rw[rB (a:=u) (b:=t) (by omega) (by omega),Ag (by omega) (by omega)];omega
   rw[e1];have e2:(18446744073709551616+u-t-(1-l))%4294967296=X/4294967296^i%4294967296:=by rw[<-hxd];omega
   have e3:(18446744073709551616+u-t-(1-l))/9223372036854775808=1-(u+(4294967296-1-t)+l)/4294967296:=by omega
   rw[e2,e3,hput]
  have e1:oQ 18446744073709551616 (oQ 18446744073709551616 u t) (1-l)=u-t-(1-l):=by
   rw[rB (a:=u) (b:=t) (by omega) (by omega),rB (by omega) (by omega)]
  rw[e1];have e2:(u-t-(1-l))%4294967296=X/4294967296^i%4294967296:=by rw[<-hxd];omega
  have e3:(u-t-(1-l))/9223372036854775808=1-(u+(4294967296-1-t)+l)/4294967296:=by omega
  rw[e2,e3,hput]
 ·simp
 simp only[cq];rw[qo (by rw[bW,bW]),cq,GY hU,P9 (by decide) hU hT];congr 2;by_cases h:U<V*f<;>simp[h]
end
section
open Go.Fw
theorem YX{B V:Nat}(hB:0<B)(hV:0<V)(A k:Nat):A%(V*B^(k+1))/B^k<B*V:=by
 rw[Nat.div_lt_iff_lt_mul (Nat.pow_pos hB)];have:V*B^(k+1)=B*V*B^k:=by rw[Nat.pow_succ,Nat.mul_comm (B^k),<-Nat.mul_assoc,Nat.mul_comm V]
 rw[<-this];exact Nat.mod_lt _ (Nat.mul_pos hV (Nat.pow_pos hB))
theorem Vp{B V:Nat}(A k:Nat):A%(V*B^(k+1))%B^k+B^k*(A%(V*B^(k+1))/B^k%V)=A%(V*B^k):=by
 rw[<-Nat.mod_mul,Nat.mul_comm (B^k),Nat.mod_mod_of_dvd];rw[Nat.pow_succ,<-Nat.mul_assoc];exact Nat.dvd_mul_right _ _
theorem Vq{B V:Nat}(A k:Nat):A%(V*B^(k+1))/B^k/V=A/V/B^k%B:=by
 rw[Nat.div_div_eq_div_mul,Nat.mul_comm (B^k),Nat.pow_succ,<-Nat.mul_assoc,Nat.mod_mul_right_div_self,Nat.div_div_eq_div_mul]
theorem NS{B:Nat}(hB:0<B){N k:Nat}(h:k<N)(Q:Nat):(fH B N (Q/B^(k+1)*B^(k+1))).set k (Q/B^k%B)=fH B N (Q/B^k*B^k):=by
 have hP:0<B^k:=Nat.pow_pos hB;refine uh hB h (Nat.mod_lt _ hB) ?_ ?_ ?_
 ·rw[Nat.mul_mod_left,Nat.pow_succ,Nat.mul_comm (B^k),<-Nat.mul_assoc,Nat.mul_mod_left]
 ·rw[Nat.mul_div_cancel _ hP]
 rw[Nat.mul_div_cancel _ (Nat.pow_pos hB),Nat.pow_succ,<-Nat.div_div_eq_div_mul,Nat.mul_div_cancel _ hP,Nat.div_div_eq_div_mul]
theorem Jt{α:Type}{l:List α}{o n:Nat}(h:o<l.length)(h':o+n<=l.length):Tj l (o:Int) ((o+n:Nat):Int)=some (o,n):=by
 unfold Tj;rw[if_pos (by omega)];congr 2;omega
theorem Qa{U V g M:Nat}(hV:0<V)(h1:U/V<=g)(h2:g<=U/V+1)(hM:U<M)(hVM:V<=M):
  (V*g<=U/\g=U/V/\(U+M-V*g)%M=U%V)\/(U<V*g/\g=U/V+1/\U+M-V*g<M/\(U+M-V*g+V)%M=U%V):=by
 have hd:=Nat.div_add_mod U V;have hm:=Nat.mod_lt U hV
 revert h1 h2 hd hm
 generalize U/V=q;generalize U%V=r;intro h1 h2 hd hm;rcases Nat.lt_or_ge q g with h|h
 ·obtain rfl:g=q+1:=by omega
  have e:V*(q+1)=V*q+V:=Nat.mul_succ ..;right;refine⟨by omega,Y,by omega,?_⟩;rw[show U+M-V*(q+1)+V=r+M by omega,Nat.add_mod_right,Nat.mod_eq_of_lt (by omega)]
 obtain rfl:g=q:=by omega
 left;refine⟨by omega,Y,?_⟩;rw[show U+M-V*g=r+M by omega,Nat.add_mod_right,Nat.mod_eq_of_lt (by omega)]
theorem Qb{R D e i:Nat}(hD:0<D)(he:4294967296=D*e):(R*D/4294967296^(i+1)%4294967296*4294967296+R*D/4294967296^i%4294967296)/D%4294967296=R/4294967296^i%4294967296:=by
 have h1:R*D/4294967296^(i+1)%4294967296*4294967296+R*D/4294967296^i%4294967296=R*D/4294967296^i%(4294967296*4294967296):=by
  rw[Nat.mod_mul,Nat.div_div_eq_div_mul,show 4294967296^i*4294967296=4294967296^(i+1)from(Nat.pow_succ ..).symm,Nat.add_comm,Nat.mul_comm 4294967296]
 have h2:(4294967296*4294967296:Nat)=D*(e*4294967296):=by
  rw[<-Nat.mul_assoc,<-he]
 rw[h1,h2,Nat.mod_mul_right_div_self,Nat.mod_mul_left_mod,Nat.div_div_eq_div_mul,Nat.mul_comm (4294967296^i) D,<-Nat.div_div_eq_div_mul,Nat.mul_div_cancel _ hD]
theorem Vr{B:Nat}(hB:0<B){N i R:Nat}(h:i<N):(fH B N (R%B^i)).set i (R/B^i%B)=fH B N (R%B^(i+1)):=by
 refine uh hB h (Nat.mod_lt _ hB) ?_ ?_ ?_
 ·rw[Nat.mod_mod,Nat.mod_mod_of_dvd _ (Nat.pow_dvd_pow _ (Nat.le_succ i))]
 ·rw[Nat.pow_succ,Nat.mod_mul_right_div_self,Nat.mod_mod]
 rw[Nat.div_eq_of_lt (Nat.mod_lt _ (Nat.pow_pos hB)),Nat.div_eq_of_lt];exact Nat.lt_of_lt_of_le (Nat.mod_lt _ (Nat.pow_pos hB)) (Nat.pow_le_pow_right hB (Nat.le_succ i))
theorem Iu(a b:List Nat)(ha:EW a)(hb:EW b){n:Nat}(hn:b.length=n+2)(hl:b.length<=a.length)(It:b[n+1]? ≠some 0):
  iF a b=some (fH 4294967296 (a.length-b.length+1) (vl a/vl b),fH 4294967296 b.length (vl a%vl b)):=by
 obtain⟨hA,hla⟩:=ha;obtain⟨hB,hlb⟩:=hb;have hP:∀k,0<4294967296^k:=λk=>Nat.pow_pos (by decide);obtain⟨Va,hVa⟩:∃V,vl a=V:=⟨_,Y⟩;obtain⟨Vb,hVb⟩:∃V,vl b=V:=⟨_,Y⟩;have Vs:Vb<4294967296^(n+2):=by rw[<-hVb,<-hn];exact iW b hB
 have halt:Va<4294967296^a.length:=by rw[<-hVa];exact iW a hA
 have G1:4294967296^(n+2)=4294967296^(n+1)*4294967296:=Nat.pow_succ ..;obtain⟨x,hx⟩:∃x,Vb/4294967296^(n+1)=x:=⟨_,Y⟩;have YY:x<4294967296:=by rw[<-hx,Nat.div_lt_iff_lt_mul (hP _)];rw[G1,Nat.mul_comm]at Vs;exact Vs
 have Z2:b[n+1]? =some x:=by rw[pB hB (by omega),show val 4294967296 b=Vb from hVb,hx,Nat.mod_eq_of_lt YY]
 have hx0:x≠0:=λe=>It (by rw[Z2,e]);obtain⟨s,V0,Ck,ZO,hs4⟩:=YO x YY hx0;have YZ:0<2^s:=Nat.two_pow_pos s;have Y0:2^s<4294967296:=by
  have:2^s<2^32:=Nat.pow_lt_pow_right (by decide) Ck;rw[two32]at this;exact this
 obtain⟨D,hD⟩:∃D,2^s=D:=⟨_,Y⟩;rw[hD]at ZO hs4 YZ Y0;obtain⟨V,hV⟩:∃V,Vb*D=V:=⟨_,Y⟩;obtain⟨A,Z5⟩:∃A,Va*D=A:=⟨_,Y⟩;have zS:V<4294967296^(n+2):=by
  have h1:Vb<(x+1)*4294967296^(n+1):=by rw[<-hx,Nat.add_mul,Nat.one_mul];exact Nat.lt_div_mul_add (hP _)
  have h2:(x+1)*D<=4294967296:=by
   obtain⟨e,he⟩:∃e,4294967296=D*e:=⟨2^(32-s),by rw[<-hD,<-Nat.pow_add,show s+(32-s)=32 by omega,two32]⟩;have h3:x<e:=by
    apply Nat.lt_of_mul_lt_mul_left (a:=D);rw[<-he,Nat.mul_comm];exact hs4
   calc (x+1)*D<=e*D:=Nat.mul_le_mul_right _ h3
    _=4294967296:=by rw[Nat.mul_comm,<-he]
  rw[<-hV,G1]
  calc Vb*D<(x+1)*4294967296^(n+1)*D:=Nat.mul_lt_mul_of_pos_right h1 YZ
   _=4294967296^(n+1)*((x+1)*D):=by rw[Nat.mul_comm (x+1),Nat.mul_assoc]
   _<=4294967296^(n+1)*4294967296:=Nat.mul_le_mul_left _ h2
 have NT:2147483648*4294967296^(n+1)<=V:=by
  have h1:x*4294967296^(n+1)<=Vb:=by rw[<-hx];exact Nat.div_mul_le_self _ _
  rw[<-hV]
  calc 2147483648*4294967296^(n+1)<=x*D*4294967296^(n+1):=Nat.mul_le_mul_right _ ZO
   _=x*4294967296^(n+1)*D:=by rw[Nat.mul_assoc,Nat.mul_comm D,<-Nat.mul_assoc]
   _<=Vb*D:=Nat.mul_le_mul_right _ h1
 have Vl:0<V:=Nat.lt_of_lt_of_le (Nat.mul_pos (by decide) (hP _)) NT;have hb0:0<Vb:=by
  rcases Nat.eq_zero_or_pos Vb with h|h
  ·rw[<-hV,h,Nat.zero_mul]at Vl;omega
  exact h
 have hAV:A/V=Va/Vb:=by rw[<-Z5,<-hV,Nat.mul_div_mul_right _ _ YZ]
 have afh:A%V=Va%Vb*D:=by rw[<-Z5,<-hV,Nat.mul_mod_mul_right]
 obtain⟨K,hK⟩:∃K,a.length=K+(n+2):=⟨a.length-(n+2),by omega⟩;have Y1:A<V*4294967296^(K+1):=by
  have h1:4294967296^(n+1)<=Vb:=by
   have:1*4294967296^(n+1)<=x*4294967296^(n+1):=Nat.mul_le_mul_right _ (by omega);have h2:x*4294967296^(n+1)<=Vb:=by rw[<-hx];exact Nat.div_mul_le_self _ _
   omega
  rw[<-Z5,<-hV]
  calc Va*D<4294967296^a.length*D:=Nat.mul_lt_mul_of_pos_right halt YZ
   _=4294967296^(n+1)*4294967296^(K+1)*D:=by rw[hK,<-Nat.pow_add];congr 2;omega
   _<=Vb*4294967296^(K+1)*D:=Nat.mul_le_mul_right _ (Nat.mul_le_mul_right _ h1)
   _=Vb*D*4294967296^(K+1):=by rw[Nat.mul_assoc,Nat.mul_comm _ D,<-Nat.mul_assoc]
 obtain⟨v,Z6⟩:∃v,fH 4294967296 (n+2) V=v:=⟨_,Y⟩;have hvl:v.length=n+2:=by rw[<-Z6,bW]
 have hvW:EW v:=⟨λy hy=>by rw[<-Z6]at hy;exact ny (by decide) _ _ _ hy,by omega⟩;have Y2:vl v=V:=by rw[<-Z6];show val _ _=_;rw[lG,Nat.mod_eq_of_lt zS]
 have Y3:List.take b.length (fH 4294967296 (b.length+1) (Vb*2^s))=v:=by
  rw[hD,hV,hn,oG,List.take_append_of_le_length (by rw[bW];omega),List.take_of_length_le (by rw[bW];omega),Z6]
 unfold iF;simp only[cq];rw[show((b.length:Nat):Int)-1=((n+1:Nat):Int) by omega,uf (by omega),bL Z2,cq,V0,cq];rw[show((s:Int)%18446744073709551616).toNat=s by rw[Int.emod_eq_of_lt (by omega) (by omega)];simp];rw[CR,shiftLeft_eq a s ⟨hA,hla⟩ Ck,cq,shiftLeft_eq b s ⟨hB,hlb⟩ Ck,cq,nV (by rw[bW];omega),cq];obtain⟨Q,hQ⟩:∃Q,A/V=Q:=⟨_,Y⟩;have afj:Q<4294967296^(K+1):=by rw[<-hQ,Nat.div_lt_iff_lt_mul Vl,Nat.mul_comm];exact Y1
 rw[hVa,hVb,<-hAV,hQ,Y3,hD,Z5,hn];rw[show a.length-(n+2)+1=K+1 by omega];rw[cS (x:=(a.length:Int)-((n+2:Nat):Int)) (by omega) (by omega),cS (x:=(a.length:Int)-((n+2:Nat):Int)+1) (by omega) (by omega),show(a.length:Int)-((n+2:Nat):Int)+1=((K+1:Nat):Int) by omega,rA (by decide) (by omega),cq,show(a.length:Int)-((n+2:Nat):Int)=(K:Int) by omega];refine bN (λj=>((K:Int)-(j:Int),fH 4294967296 (K+1) (Q/4294967296^(K+1-j)*4294967296^(K+1-j)),fH 4294967296 (a.length+1) (A%(V*4294967296^(K+1-j))))) (K+1) (fH 4294967296 (K+1) Q,fH 4294967296 (a.length+1) (A%V)) ?_ (λj hj=>?_) ?_ ?_
 ·rw[show K+1-0=K+1 by omega,Nat.mod_eq_of_lt Y1,Nat.div_eq_of_lt afj,Nat.zero_mul,tB];simp
 ·
  obtain⟨k,hk⟩:∃k,K=k+j:=⟨K-j,by omega⟩;rw[show K+1-j=k+1 by omega,show K+1-(j+1)=k by omega,show(K:Int)-(j:Int)=(k:Int) by omega,show(K:Int)-((j+1:Nat):Int)=(k:Int)-1 by omega];have hU:=YX (B:=4294967296) (by decide) Vl A k;have Qc:=Vp (B:=4294967296) (V:=V) A k;have Vt:=Vq (B:=4294967296) (V:=V) A k;obtain⟨N,hN⟩:∃N,a.length+1=N:=⟨_,Y⟩;obtain⟨A1,hA1⟩:∃A1,A%(V*4294967296^(k+1))=A1:=⟨_,Y⟩;rw[hN];rw[hA1]at hU Qc Vt⊢;rw[hQ]at Vt;obtain⟨⟨g,lg⟩,hge,hgl,Z7,OE⟩:=G0 (N:=N) (A:=A1) (o:=k) (n:=n) (v:=v) hvW hvl (by omega) (by omega) (by rw[Y2];exact hU) (by rw[Y2];exact NT);simp only at hgl Z7 OE;rw[Y2]at Z7 OE;subst hgl;have hsub:=uF (N:=N) (A:=A1) (o:=k) (n:=n+2) (v:=v) (f:=g) hvW hvl (by omega) (by omega) ?_ ?_
  ·rw[Y2]at hsub;obtain⟨U,OH⟩:∃U,A1/4294967296^k=U:=⟨_,Y⟩;rw[OH]at hU Qc Vt Z7 OE hsub;have Qd:4294967296^(n+2+1)=4294967296^(n+2)*4294967296:=Nat.pow_succ ..;have hUM:U<4294967296^(n+2+1):=by
    have:4294967296*V<4294967296*4294967296^(n+2):=Nat.mul_lt_mul_of_pos_left zS (by decide);rw[Qd];omega
   have NU:=Qa (M:=4294967296^(n+2+1)) Vl Z7 OE hUM (by rw[Qd];omega);have hql:U/V<4294967296:=by rw[Vt];exact Nat.mod_lt _ (by decide)
   rw[show decide ((0:Int)<=(k:Int))=true by simp,iV];rw[ug (by omega),bX (by omega),show k+(n+2)+1=k+(n+3) by omega,Jt (by rw[bW];omega) (by rw[bW];omega),cq,hge,cq,qo Y,cq,Jt (by rw[bW];omega) (by rw[bW];omega),cq];show(Option.bind (dm _ k (n+2+1) v g) _)=_;rw[hsub,cq,qo (by rw[bW,bW]),cq];simp only[cQ];rcases NU with⟨hc1,E6,Y4⟩|⟨hc1,E6,Y4,hc4⟩
   ·rw[show decide (U<V*g)=false by simp;omega,jt,Y4,Qc,E6,Nat.mod_eq_of_lt hql,Vt,cL (by rw[bW];omega),cq,fG (by rw[bW];omega),cq,NS (by decide) (by omega),cS (by omega) (by omega)]
   rw[show decide (U<V*g)=true by simp;omega,iV,rB (by omega) (by omega),show g-1=U/V by omega,Nat.mod_eq_of_lt hql,Vt];rw[Nat.mod_eq_of_lt Y4];obtain⟨aa,hY⟩:∃aa,U+4294967296^(n+2+1)-V*g=aa:=⟨_,Y⟩;rw[hY]at Y4 hc4⊢;obtain⟨A2,hA2⟩:∃A2,A1%4294967296^k+4294967296^k*aa=A2:=⟨_,Y⟩;rw[hA2];have hw2:A2/4294967296^k=aa:=by rw[<-hA2,Nat.add_mul_div_left _ _ (hP k),Nat.div_eq_of_lt (Nat.mod_lt _ (hP k)),Nat.zero_add]
   have Lb:A2%4294967296^k=A1%4294967296^k:=by rw[<-hA2,Nat.add_mul_mod_self_left,Nat.mod_mod]
   have hcr:∀i,EV 4294967296 aa V i<=1:=λi=>Ir (by decide) _ _ _;refine bN (λi=>((i:Int),EV 4294967296 aa V i,fH 4294967296 N (mix 4294967296 k i (aa+V) aa A2))) (n+2) (EV 4294967296 aa V (n+2),fH 4294967296 N (mix 4294967296 k (n+2) (aa+V) aa A2)) ?_ (λi hi=>?_) ?_ ?_
   ·rw[GR,<-hw2,GZ];rfl
   ·have ER:v[i]? =some (V/4294967296^i%4294967296):=by rw[<-Y2];exact pB hvW.1 (by omega)
    have hgu:(fH 4294967296 N (mix 4294967296 k i (aa+V) aa A2))[k+i]? =some (aa/4294967296^i%4294967296):=by rw[nj (by omega),xz (by decide)]
    have V0:=GQ (B:=4294967296) (by decide) aa V i;have Ck:=EB (B:=4294967296) (by decide) aa V i;have hput:=EE (B:=4294967296) (by decide) k i (aa+V) aa A2 (N:=N) (by omega);have hci:=hcr i;have hv1:=Nat.mod_lt (V/4294967296^i) (show 0<4294967296 by decide);have Wu:=Nat.mod_lt (aa/4294967296^i) (show 0<4294967296 by decide);simp only[show decide ((i:Int)<(v.length:Int))=true by simp;omega,iV];rw[bL ER,cq,ug (by omega),cL (by rw[bW];omega),cq,hgu,cq,Nat.mod_eq_of_lt (a:=aa/4294967296^i%4294967296) (b:=18446744073709551616) (by omega),Nat.mod_eq_of_lt (a:=V/4294967296^i%4294967296) (b:=18446744073709551616) (by omega),Nat.mod_eq_of_lt (b:=18446744073709551616) (by omega),gL _ _ (by omega),cq,cq,fG (by rw[bW];omega),cq,bX (by omega)];rw[V0,Ck,hput]
   ·simp[hvl]
   have hgu:(fH 4294967296 N (mix 4294967296 k (n+2) (aa+V) aa A2))[k+(n+2)]? =some (aa/4294967296^(n+2)%4294967296):=by rw[nj (by omega),xz (by decide)]
   have Ck:=EB (B:=4294967296) (by decide) aa V (n+2);have hput:=EE (B:=4294967296) (by decide) k (n+2) (aa+V) aa A2 (N:=N) (by omega);have hci:=hcr (n+2);have Wu:=Nat.mod_lt (aa/4294967296^(n+2)) (show 0<4294967296 by decide);rw[Nat.div_eq_of_lt zS,Nat.zero_mod,Nat.add_zero]at Ck;simp only[];rw[cL (by rw[bW];omega),cq,hgu,cq,Nat.mod_eq_of_lt (a:=aa/4294967296^(n+2)%4294967296) (b:=18446744073709551616) (by omega),gL _ _ (by omega),cq,cq,fG (by rw[bW];omega),cq,Ck,hput,GY Y4,Lb,hc4,Qc,cL (by rw[bW];omega),cq,fG (by rw[bW];omega),cq,NS (by decide) (by omega),cS (by omega) (by omega)]
  ·
   have hql:A1/4294967296^k/V<4294967296:=by rw[Vt];exact Nat.mod_lt _ (by decide)
   omega
  have Qd:4294967296^(n+2+1)=4294967296^(n+2)*4294967296:=Nat.pow_succ ..;have:4294967296*V<4294967296*4294967296^(n+2):=Nat.mul_lt_mul_of_pos_left zS (by decide);rw[Qd];omega
 ·rw[show K+1-(K+1)=0 by omega,Nat.pow_zero,Nat.mul_one,Nat.mul_one,Nat.div_one,show decide (0<=(K:Int)-((K+1:Nat):Int))=false by simp;omega,jt]
 obtain⟨R,hR⟩:∃R,Va%Vb=R:=⟨_,Y⟩;rw[afh,hR];have afn:R<4294967296^(n+2):=by rw[<-hR];exact Nat.lt_trans (Nat.mod_lt _ hb0) Vs
 rw[rA (by decide) (by omega),cq];refine bN (λi=>((i:Int),fH 4294967296 (n+2) (R%4294967296^i))) (n+2) (fH 4294967296 (n+2) R) ?_ (λi hi=>?_) ?_ Y
 ·rw[Nat.pow_zero,Nat.mod_one,tB];rfl
 ·obtain⟨e,he⟩:∃e,4294967296=D*e:=⟨2^(32-s),by rw[<-hD,<-Nat.pow_add,show s+(32-s)=32 by omega,two32]⟩;have Y5:=Qb (R:=R) (i:=i) YZ he;obtain⟨u,hu⟩:∃u,R*D/4294967296^i%4294967296=u:=⟨_,Y⟩;obtain⟨w,hw⟩:∃w,R*D/4294967296^(i+1)%4294967296=w:=⟨_,Y⟩;have VT:u<4294967296:=by rw[<-hu];exact Nat.mod_lt _ (by decide)
  have hw1:w<4294967296:=by rw[<-hw];exact Nat.mod_lt _ (by decide)
  rw[hu,hw]at Y5;simp only[show decide ((i:Int)<((n+2:Nat):Int))=true by simp;omega,iV];rw[cL (by rw[bW];omega),cq,nj (by omega),cq,hu,bX (by omega),cL (by rw[bW];omega),cq,nj (by omega),cq,hw,Nat.mod_eq_of_lt (a:=u) (by omega),Nat.mod_eq_of_lt (a:=w) (by omega),two32,Nat.mod_eq_of_lt (a:=w*4294967296) (by omega),Nat.or_comm,Jr VT,Nat.mod_eq_of_lt (a:=w*4294967296+u) (by omega),show min s 64=s by omega,hD,Y5,cL (by rw[bW];omega),cq,fG (by rw[bW];omega),cq];rw[Vr (by decide) hi]
 rw[Nat.mod_eq_of_lt afn];simp
end
section
open Go.Fw
def sv(n:Bool)(v:Nat):Int:=bif n then-(v:Int)else v
def zi(z:Zr):Int:=sv z.neg (vl z.w)
def zn(i:Int):Zr:=⟨decide (i<0),can 4294967296 i.natAbs⟩
def Wl(z:Zr):Prop:=(∀x∈z.w,x<4294967296)/\z.w.length<=10000000000
def Fit(L:Nat)(i:Int):Prop:=i.natAbs<4294967296^L
theorem NV(n:Bool)(v:Nat):(sv n v).natAbs=v:=by cases n<;>simp[sv]
theorem EG(z:Zr):(zi z).natAbs=vl z.w:=NV _ _
theorem Vu(n:Bool)(v:Nat):decide (sv n v<0)=(n&&v != 0):=by
 cases n
 ·have:¬((v:Int)<0):=by omega
  simp[sv,this]
 rcases v with _|v
 ·simp[sv]
 simp[sv]
theorem pC(n:Bool)(v:Nat):zc n v=zn (sv n v):=by rw[zc,zn,Vu,NV]
theorem Qe(i:Int):sv (decide (i<0)) i.natAbs=i:=by
 by_cases h:i<0
 ·rw[show decide (i<0)=true by simp[h]];simp[sv];omega
 rw[show decide (i<0)=false by simp[h]];simp[sv];omega
theorem fL(i:Int):zi (zn i)=i:=by
 show sv (decide (i<0)) (vl (can 4294967296 i.natAbs))=i;rw[show vl (can 4294967296 i.natAbs)=i.natAbs from rE (by decide) _,Qe]
theorem EH(n:Bool)(v:Nat):sv (!n) v=-sv n v:=by cases n<;>simp[sv]
theorem oH(v:Nat):sv false v=v:=rfl
theorem Fit.mono{L M:Nat}{i:Int}(h:Fit L i)(hl:L<=M):Fit M i:=Nat.lt_of_lt_of_le h (Nat.pow_le_pow_right (by decide) hl)
theorem Fit.neg{L:Nat}{i:Int}(h:Fit L i):Fit L (-i):=by unfold Fit at*;rw[Int.natAbs_neg];exact h
theorem Fit.add{L:Nat}{i j:Int}(h:Fit L i)(h':Fit L j):Fit (L+1) (i+j):=by
 unfold Fit at*;have:=Int.natAbs_add_le i j;rw[Nat.pow_succ];omega
theorem Fit.sub{L:Nat}{i j:Int}(h:Fit L i)(h':Fit L j):Fit (L+1) (i-j):=by
 rw[Int.sub_eq_add_neg];exact h.add h'.neg
theorem Fit.mul{L M:Nat}{i j:Int}(h:Fit L i)(h':Fit M j):Fit (L+M) (i*j):=by
 unfold Fit at*;rw[Int.natAbs_mul,Nat.pow_add];exact Nat.mul_lt_mul'' h h'
theorem Fit.i64{i:Int}(h: -9223372036854775808<=i)(h':i<=9223372036854775807):Fit 2 i:=by
 unfold Fit;rw[show(4294967296:Nat)^2=18446744073709551616 by decide];omega
theorem Fit.le{L:Nat}{i j:Int}(h:Fit L i)(h':j.natAbs<=i.natAbs):Fit L j:=Nat.lt_of_le_of_lt h' h
theorem jQ{L:Nat}{i:Int}(h:Fit L i)(hL:L<=10000000000):Wl (zn i):=
 ⟨λ_ hx=>lH (by decide) hx,Nat.le_trans ((fk (by decide)).2 h) hL⟩
theorem Wl.fit{z:Zr}(h:Wl z):Fit z.w.length (zi z):=by
 unfold Fit;rw[EG];exact iW z.w h.1
theorem Wl.lt{z:Zr}(h:Wl z):vl z.w<4294967296^z.w.length:=iW z.w h.1
theorem Wl.cl{z:Zr}(h:Wl z):(can 4294967296 (vl z.w)).length<=10000000000:=
 Nat.le_trans ((fk (by decide)).2 (Wl.lt h)) h.2
theorem Wl.trim{z:Zr}(h:Wl z):bu z.w=some (can 4294967296 (vl z.w)):=by
 rw[Al _ (by have:=h.2;omega),qp (by decide) h.1]
theorem gB{v:Nat}(h:(can 4294967296 v).length<=10000000001):EW (can 4294967296 v):=⟨λ_ hx=>lH (by decide) hx,by omega⟩
theorem eT(v:Nat):vl (can 4294967296 v)=v:=rE (by decide) v
theorem fU{v:Nat}:((can 4294967296 v).length:Int)<=2↔v<18446744073709551616:=by
 have:=fk (B:=4294967296) (by decide) (v:=v) (n:=2);rw[show(4294967296:Nat)^2=18446744073709551616 by decide]at this;omega
theorem lI{v:Nat}:((can 4294967296 v).length:Int)<=1↔v<4294967296:=by
 have:=fk (B:=4294967296) (by decide) (v:=v) (n:=1);rw[show(4294967296:Nat)^1=4294967296 by decide]at this;omega
theorem qw{v:Nat}:(can 4294967296 v).length=0↔v=0:=by
 constructor
 ·intro h;exact Ez (by decide) (List.length_eq_zero_iff.1 h)
 intro h;rw[h,tD];rfl
theorem xA(l:List Nat)(h:l.length<=1000000000000):ek l=some l:=by
 unfold ek;rw[Vc (by decide) (by simp;omega)];simp
end
section
open Go.Fw
theorem G2(a b:Nat):decide (CQ a b<0)=decide (a<b):=by
 rcases Nat.lt_trichotomy a b with h|h|h
 ·rw[xx h];simp[h]
 ·rw[h,ED];simp
 rw[Ak h];simp;omega
theorem zo(a b:Nat)(ha:(can 4294967296 a).length<=10000000000)(hb:(can 4294967296 b).length<=10000000000)(h0:b≠0):
  ∃q r,fN (can 4294967296 a) (can 4294967296 b)=some (q,r)/\EW q/\vl q=a/b/\EW r/\vl r=a%b/\q.length<=10000000001/\r.length<=10000000001:=by
 unfold fN;rw[jS a b (by omega) (by omega)];simp only[cq];by_cases hlt:a<b
 ·rw[xx hlt];simp only[show decide ((-1:Int)<0)=true by decide,iV];rw[xA _ (by omega)];refine⟨_,_,Y,⟨by simp,by simp⟩,?_,gB (by omega),?_,by simp,by omega⟩
  ·rw[Nat.div_eq_of_lt hlt];rfl
  rw[eT,Nat.mod_eq_of_lt hlt]
 rw[G2,show decide (a<b)=false by simp[hlt]];simp only[jt];by_cases h2:a<18446744073709551616
 ·rw[show decide (((can 4294967296 a).length:Int)<=2)=true by rw[decide_eq_true_eq];exact fU.2 h2];have Cb:b<18446744073709551616:=by omega
  simp only[iV];have l1:=low_eq (can 4294967296 a) (λ_ hx=>lH (by decide) hx) (by have:=fU.2 h2;omega);have l2:=low_eq (can 4294967296 b) (λ_ hx=>lH (by decide) hx) (by have:=fU.2 Cb;omega);rw[eT]at l1 l2;rw[l1,cq,l2,cq,Ex h0 h2,cq,qu _ _ (Nat.lt_of_le_of_lt (Nat.div_le_self _ _) h2),cq,Ai h0,cq,qu _ _ (Nat.lt_of_le_of_lt (Nat.mod_le _ _) h2),cq];have hq:a/b<18446744073709551616:=Nat.lt_of_le_of_lt (Nat.div_le_self _ _) h2;have hr:a%b<18446744073709551616:=Nat.lt_of_le_of_lt (Nat.mod_le _ _) h2;have c1:=fU.2 hq;have c2:=fU.2 hr;exact⟨_,_,Y,gB (by omega),eT _,gB (by omega),eT _,by show(can _ _).length<=_;omega,by show(can _ _).length<=_;omega⟩
 rw[show decide (((can 4294967296 a).length:Int)<=2)=false by rw[decide_eq_false_iff_not];exact λh=>h2 (fU.1 h)];simp only[jt];have yX:(can 4294967296 b).length≠0:=λh=>h0 (qw.1 h);by_cases h1:b<4294967296
 ·have h1':=lI.2 h1;rw[show decide (((can 4294967296 b).length:Int)=1)=true by simp;omega,iV];have hg:(can 4294967296 b)[0]? =some b:=by rw[EA (by decide) (by omega)];simp;exact h1
  rw[xA _ (by omega),cq,yG hg,cq,Nat.mod_eq_of_lt (b:=18446744073709551616) (by omega),GX _ _ (gB (by omega)) (by omega) (by omega),cq,eT];simp only[];rw[qo (by rw[bW]),cq];have hm:a%b<b:=Nat.mod_lt _ (by omega);rw[Nat.mod_eq_of_lt (a:=a%b) (by omega)];refine⟨_,_,Y,⟨λx hx=>ny (by decide) _ _ _ hx,by rw[bW];omega⟩,?_,⟨?_,by simp⟩,?_,by rw[bW];omega,by simp⟩
  ·show val _ _=_;rw[lG,Nat.mod_eq_of_lt (Nat.lt_of_le_of_lt (Nat.div_le_self _ _) (dW (by decide) a))]
  ·intro x hx;simp at hx;omega
  simp[vl,val]
 have h1':¬(((can 4294967296 b).length:Int)<=1):=λh=>h1 (lI.1 h);rw[show decide (((can 4294967296 b).length:Int)=1)=false by simp;omega,jt];obtain⟨n,hn⟩:∃n,(can 4294967296 b).length=n+2:=⟨(can 4294967296 b).length-2,by omega⟩;have hl:(can 4294967296 b).length<=(can 4294967296 a).length:=(fk (by decide)).2 (Nat.lt_of_le_of_lt (by omega) (dW (by decide) a));obtain⟨l,x,hx,he⟩:=GP (B:=4294967296) (by decide) h0;have It:(can 4294967296 b)[n+1]? ≠some 0:=by
  have:l.length=n+1:=by rw[he]at hn;simp at hn;omega
  rw[he,<-this];simp;exact hx
 rw[Iu _ _ (gB (by omega)) (gB (by omega)) hn hl It,cq,eT,eT];have hbp:0<b:=by omega
 have e1:a<4294967296^(can 4294967296 a).length:=dW (by decide) a;have e2:b<4294967296^(can 4294967296 b).length:=dW (by decide) b;have e3:4294967296^(n+1)<=b:=vf (by decide) (by omega);refine⟨_,_,Y,⟨λx hx=>ny (by decide) _ _ _ hx,by rw[bW];omega⟩,?_,⟨λx hx=>ny (by decide) _ _ _ hx,by rw[bW];omega⟩,?_,by rw[bW];omega,by rw[bW];omega⟩
 ·show val _ _=_;rw[lG,Nat.mod_eq_of_lt];rw[Nat.div_lt_iff_lt_mul hbp];have:4294967296^((can 4294967296 a).length-(can 4294967296 b).length+1)*4294967296^(n+1)=4294967296^(can 4294967296 a).length:=by rw[<-Nat.pow_add];congr 1;omega
  calc a<4294967296^((can 4294967296 a).length-(can 4294967296 b).length+1)*4294967296^(n+1):=by rw[this];exact e1
   _<=_:=Nat.mul_le_mul_left _ e3
 show val _ _=_;rw[lG,Nat.mod_eq_of_lt (Nat.lt_trans (Nat.mod_lt _ hbp) e2)]
end
section
open Go.Fw
theorem mz{x:Int}(h1: -9223372036854775808<=x)(h2:x<=9223372036854775807):cg x=some (zn x):=by
 unfold cg;simp only[cq,cQ];by_cases hx:x<0
 ·have e:(x%18446744073709551616).toNat=18446744073709551616-x.natAbs:=by omega
  rw[show decide (x<0)=true by simp[hx],iV,e,Ag (by omega) (by omega),show 18446744073709551616+0-(18446744073709551616-x.natAbs)=x.natAbs by omega,qu _ _ (by omega),cq,pC,show sv true x.natAbs=x by simp[sv];omega]
 have e:(x%18446744073709551616).toNat=x.natAbs:=by omega
 rw[show decide (x<0)=false by simp[hx],jt,e,qu _ _ (by omega),cq,pC,show sv false x.natAbs=x by simp[sv];omega]
def fz(i:Int):Prop:=-9223372036854775808<=i/\i<=9223372036854775807
instance(i:Int):Decidable (fz i):=by unfold fz;infer_instance
def tF(i:Int):Int×Bool:=if fz i then(i,true)else(0,false)
theorem oI{z:Zr}(h:Wl z):dJ z=some (tF (zi z)):=by
 obtain⟨n,w⟩:=z;unfold dJ;have ht:=h.trim;have afo:vl w<18446744073709551616->dN (can 4294967296 (vl w))=some (vl w):=λh2=>by
  rw[low_eq _ (λ_ hx=>lH (by decide) hx) (by have:=fU.2 h2;omega),eT]
 show(bu w).bind _=some (tF (sv n (vl w)));rw[show bu w=some (can 4294967296 (vl w))from ht];simp only[cq];generalize vl w=v at*;by_cases h2:v<18446744073709551616
 ·have:=fU.2 h2;rw[show decide ((2:Int)<((can 4294967296 v).length:Int))=false by simp;omega,jt,afo h2,cq];cases n
  ·rw[jt,oH];by_cases h3:v<9223372036854775808
   ·rw[show decide (9223372036854775808<=v)=false by simp;omega,jt,uf (by omega),tF,if_pos (by unfold fz;omega)]
   rw[show decide (9223372036854775808<=v)=true by simp;omega,iV,tF,if_neg (by unfold fz;omega)]
  rw[iV,show sv true v=-(v:Int)from rfl];by_cases h3:9223372036854775808<v
  ·rw[show decide (9223372036854775808<v)=true by simp;omega,iV,tF,if_neg (by unfold fz;omega)]
  rw[show decide (9223372036854775808<v)=false by simp;omega,jt,tF,if_pos (by unfold fz;omega)];by_cases h0:v=0
  ·subst h0;rfl
  rw[Ag (by omega) (by omega)];rw[show IntKind.i64.wrap ((18446744073709551616+0-v:Nat):Int)=-(v:Int) by
   rw[IntKind.wrap];simp[IntKind.signed,IntKind.bits];omega]
 have:¬(((can 4294967296 v).length:Int)<=2):=λh=>h2 (fU.1 h);rw[show decide ((2:Int)<((can 4294967296 v).length:Int))=true by simp;omega,iV,tF,if_neg (by unfold fz;cases n<;>simp[sv]<;>omega)]
theorem sign_eq{z:Zr}(h:Wl z):c9 z=some (zi z).sign:=by
 obtain⟨n,w⟩:=z;unfold c9;show(bu w).bind _=some (sv n (vl w)).sign;rw[show bu w=some (can 4294967296 (vl w))from h.trim];simp only[cq];generalize vl w=v;by_cases h0:v=0
 ·subst h0;cases n<;>rfl
 have:(can 4294967296 v).length≠0:=λh=>h0 (qw.1 h);rw[show decide (((can 4294967296 v).length:Int)=0)=false by simp;intro e;rw[e]at this;exact this Y,jt];cases n
 ·rw[jt,oH,Int.sign_eq_one_of_pos (by omega)]
 rw[iV,show sv true v=-(v:Int)from Y,Int.sign_eq_neg_one_of_neg (by omega)]
def qx(i j:Int):Int:=if i<j then-1 else if i=j then 0 else 1
theorem mG{i j:Int}(h:i<j):qx i j=-1:=by simp[qx,h]
theorem mH{i j:Int}(h:j<i):qx i j=1:=by
 have h1:¬i<j:=by omega
 have h2:¬i=j:=by omega
 simp[qx,h1,h2]
theorem uj(i:Int):qx i i=0:=by simp[qx]
theorem G3(v w:Nat):CQ v w=qx (v:Int) (w:Int):=by
 rcases Nat.lt_trichotomy v w with h|h|h
 ·rw[xx h,mG (by omega)]
 ·rw[h,ED,uj]
 rw[Ak h,mH (by omega)]
theorem NW(i j:Int):qx (-i) (-j)=qx j i:=by
 rcases Int.lt_trichotomy i j with h|h|h
 ·rw[mH h,mH (by omega)]
 ·rw[h,uj,uj]
 rw[mG h,mG (by omega)]
theorem Vv{x y:Zr}(hx:Wl x)(hy:Wl y):mS x y=some (qx (zi x) (zi y)):=by
 obtain⟨n,w⟩:=x;obtain⟨m,u⟩:=y;unfold mS;show(c9 ⟨n,w⟩).bind _=_;rw[sign_eq hx,cq];show(c9 ⟨m,u⟩).bind _=_;rw[sign_eq hy,cq,show bu w=some (can 4294967296 (vl w))from hx.trim,show bu u=some (can 4294967296 (vl u))from hy.trim];simp only[cq];rw[jS _ _ (Nat.le_trans hx.cl (by decide)) (Nat.le_trans hy.cl (by decide)),jS _ _ (Nat.le_trans hy.cl (by decide)) (Nat.le_trans hx.cl (by decide))];simp only[cq];rw[show zi ⟨n,w⟩=sv n (vl w)from Y,show zi ⟨m,u⟩=sv m (vl u)from rfl];generalize vl w=a;generalize vl u=b;rw[G3,G3];obtain⟨i,hi⟩:∃i,sv n a=i:=⟨_,Y⟩;obtain⟨j,hj⟩:∃j,sv m b=j:=⟨_,Y⟩;have VS:(i<0->i=-(a:Int))/\(0<=i->i=a):=by rw[<-hi];cases n<;>simp[sv]<;>omega
 have hjb:(j<0->j=-(b:Int))/\(0<=j->j=b):=by rw[<-hj];cases m<;>simp[sv]<;>omega
 rw[hi,hj];rcases Int.lt_trichotomy i 0 with h1|h1|h1<;>rcases Int.lt_trichotomy j 0 with h2|h2|h2
 ·rw[Int.sign_eq_neg_one_of_neg h1,Int.sign_eq_neg_one_of_neg h2,VS.1 h1,hjb.1 h2,NW];rfl
 ·rw[Int.sign_eq_neg_one_of_neg h1,show Int.sign j=0 by rw[h2];rfl,show qx i j=-1 from mG (by omega)];rfl
 ·rw[Int.sign_eq_neg_one_of_neg h1,Int.sign_eq_one_of_pos h2,show qx i j=-1 from mG (by omega)];rfl
 ·rw[show Int.sign i=0 by rw[h1];rfl,Int.sign_eq_neg_one_of_neg h2,show qx i j=1 from mH (by omega)];rfl
 ·rw[show Int.sign i=0 by rw[h1];rfl,show Int.sign j=0 by rw[h2];rfl,<-VS.2 (by omega),<-hjb.2 (by omega)];rfl
 ·rw[show Int.sign i=0 by rw[h1];rfl,Int.sign_eq_one_of_pos h2,show qx i j=-1 from mG (by omega)];rfl
 ·rw[Int.sign_eq_one_of_pos h1,Int.sign_eq_neg_one_of_neg h2,show qx i j=1 from mH (by omega)];rfl
 ·rw[Int.sign_eq_one_of_pos h1,show Int.sign j=0 by rw[h2];rfl,show qx i j=1 from mH (by omega)];rfl
 rw[Int.sign_eq_one_of_pos h1,Int.sign_eq_one_of_pos h2,<-VS.2 (by omega),<-hjb.2 (by omega)];rfl
theorem neg_eq{x:Zr}(hx:Wl x):fK x=some (zn (-zi x)):=by
 obtain⟨n,w⟩:=x;unfold fK;have hc:(can 4294967296 (vl w)).length<=10000000000:=hx.cl;simp only[cq];rw[show bu w=some (can 4294967296 (vl w))from hx.trim,cq,xA _ (by omega),cq,jP _ _ (gB (by omega)),cq,eT,pC,EH];rfl
end
section
open Go.Fw
theorem xB(n m:Bool)(a b:Nat)(ha:(can 4294967296 a).length<=10000000000)(hb:(can 4294967296 b).length<=10000000000):
  dx n (can 4294967296 a) m (can 4294967296 b)=some (zn (sv n a+sv m b)):=by
 have la:=dW (B:=4294967296) (by decide) a;have lb:=dW (B:=4294967296) (by decide) b;unfold dx;simp only[cq];by_cases hnm:n=m
 ·subst hnm;rw[show(n==n)=true by simp,iV,zk _ _ (gB (by omega)) (gB (by omega)),cq,eT,eT,jP _ _ ⟨λx hx=>ny (by decide) _ _ _ hx,by rw[bW];omega⟩,cq];have hv:vl (fH 4294967296 (max (can 4294967296 a).length (can 4294967296 b).length+1) (a+b))=a+b:=by
   show val _ _=_;rw[lG,Nat.mod_eq_of_lt];have h1:a<4294967296^(max (can 4294967296 a).length (can 4294967296 b).length):=Nat.lt_of_lt_of_le la (Nat.pow_le_pow_right (by decide) (by omega));have h2:b<4294967296^(max (can 4294967296 a).length (can 4294967296 b).length):=Nat.lt_of_lt_of_le lb (Nat.pow_le_pow_right (by decide) (by omega));rw[Nat.pow_succ];omega
  rw[hv,pC,show sv n (a+b)=sv n a+sv n b by cases n<;>simp[sv];omega]
 rw[show(n==m)=false by simp[hnm],jt,jS _ _ (by omega) (by omega),cq,G2];have hm:m= !n:=by cases n<;>cases m<;>simp_all
 subst hm;have hv:∀c d,d<=c->(can 4294967296 c).length<=10000000000->dj (can 4294967296 c) (can 4294967296 d)=some (fH 4294967296 (can 4294967296 c).length (c-d))/\vl (fH 4294967296 (can 4294967296 c).length (c-d))=c-d:=by
  intro c d hdc uG;have lc:=dW (B:=4294967296) (by decide) c;have hdl:(can 4294967296 d).length<=(can 4294967296 c).length:=(fk (by decide)).2 (by omega);constructor
  ·rw[zm _ _ (gB (by omega)) (gB (by omega)) hdl (by rw[eT,eT];exact hdc),eT,eT]
  show val _ _=_;rw[lG,Nat.mod_eq_of_lt (by omega)]
 by_cases hlt:a<b
 ·obtain⟨h1,h2⟩:=hv b a (by omega) hb;rw[show decide (a<b)=true by simp[hlt],iV,h1,cq,jP _ _ ⟨λx hx=>ny (by decide) _ _ _ hx,by rw[bW];omega⟩,cq,h2,pC,show sv (!n) (b-a)=sv n a+sv (!n) b by cases n<;>simp[sv]<;>omega]
 obtain⟨h1,h2⟩:=hv a b (by omega) ha;rw[show decide (a<b)=false by simp[hlt],jt,h1,cq,jP _ _ ⟨λx hx=>ny (by decide) _ _ _ hx,by rw[bW];omega⟩,cq,h2,pC,show sv n (a-b)=sv n a+sv (!n) b by cases n<;>simp[sv]<;>omega]
theorem Ju(v:BitVec 64):IntKind.i64.wrap (v.toNat:Int)=v.toInt:=by
 rw[BitVec.toInt_eq_toNat_cond];have:=v.isLt;rw[show(2:Nat)^64=18446744073709551616 by decide]at this⊢;split
 ·rw[uf (by omega)]
 rw[IntKind.wrap];simp[IntKind.signed,IntKind.bits];omega
theorem Jv(v:BitVec 64):BitVec.ofInt 64 (IntKind.i64.wrap (v.toNat:Int))=v:=by rw[Ju,BitVec.ofInt_toInt]
theorem yI{x:Int}(h:fz x):(BitVec.ofInt 64 x).msb=decide (x<0):=by
 rw[BitVec.msb_eq_toInt,BitVec.toInt_ofInt];unfold fz at h;have:x.bmod (2^64)=x:=by
  rw[Int.bmod_def];simp only[show((2^64:Nat):Int)=18446744073709551616 by decide];split<;>omega
 rw[this]
theorem Dl(v:BitVec 64):decide ((0:Int)<=IntKind.i64.wrap (v.toNat:Int))= !v.msb:=by
 rw[Ju,BitVec.msb_eq_toInt];by_cases h:v.toInt<0
 ·simp[h]
 simp[h];omega
theorem qy(x:Int):fz (IntKind.i64.wrap x):=by
 unfold fz;rw[IntKind.wrap];simp[IntKind.signed,IntKind.bits];split<;>omega
theorem BX{α:Type}(b:Bool)(x:α):(bif b then x else x)=x:=by cases b<;>rfl
theorem iH{i:Int}(h:fz i):tF i=(i,true):=if_pos h
theorem oJ{i:Int}(h:¬fz i):tF i=(0,false):=if_neg h
theorem add_eq{x y:Zr}(hx:Wl x)(hy:Wl y):mQ x y=some (zn (zi x+zi y)):=by
 obtain⟨n,w⟩:=x;obtain⟨m,u⟩:=y;unfold mQ;simp only[oI hx,oI hy,cq,cQ];have hK:((bu w).bind λuM=>(bu u).bind λwj=>(dx n uM m wj).bind λx=>some x)=some (zn (zi ⟨n,w⟩+zi ⟨m,u⟩)):=by
  rw[show bu w=some (can 4294967296 (vl w))from hx.trim,show bu u=some (can 4294967296 (vl u))from hy.trim,cq,cq,xB _ _ _ _ hx.cl hy.cl,cq];rfl
 have hK':((bu w).bind λuM=>(bu u).bind λwj=>(dx n uM m wj).bind λx=>some ⟨x.neg,x.w⟩)=some (zn (zi ⟨n,w⟩+zi ⟨m,u⟩)):=hK;rw[hK'];generalize zi ⟨n,w⟩=i;generalize zi ⟨m,u⟩=j;by_cases h1:fz i
 ·by_cases h2:fz j
  ·rw[iH h1,iH h2,iV,cq,iV,Jv,Jv,Dl,BitVec.msb_and,BitVec.msb_xor,BitVec.msb_xor,yI h1,yI h2,yI (qy _),mz (qy _).1 (qy _).2,cq];by_cases hr:fz (i+j)
   ·rw[cS hr.1 hr.2];exact BX _ _
   have:(!((decide (i<0)^^decide (IntKind.i64.wrap (i+j)<0))&&(decide (j<0)^^decide (IntKind.i64.wrap (i+j)<0))))=false:=by
    unfold fz at*;by_cases hs:i<0
    ·have e:IntKind.i64.wrap (i+j)=i+j+18446744073709551616:=by rw[IntKind.wrap];simp[IntKind.signed,IntKind.bits];omega
     rw[e,show decide (i<0)=true by simp[hs],show decide (j<0)=true by simp;omega,show decide (i+j+18446744073709551616<0)=false by simp;omega];rfl
    have e:IntKind.i64.wrap (i+j)=i+j-18446744073709551616:=by rw[IntKind.wrap];simp[IntKind.signed,IntKind.bits];omega
    rw[e,show decide (i<0)=false by simp[hs],show decide (j<0)=false by simp;omega,show decide (i+j-18446744073709551616<0)=true by simp;omega];rfl
   rw[this,jt]
  rw[iH h1,oJ h2,iV,cq,jt]
 rw[oJ h1,jt,cq,jt]
theorem sub_eq{x y:Zr}(hx:Wl x)(hy:Wl y):mR x y=some (zn (zi x-zi y)):=by
 obtain⟨n,w⟩:=x;obtain⟨m,u⟩:=y;unfold mR;simp only[oI hx,oI hy,cq,cQ];have hK':((bu w).bind λuM=>(bu u).bind λwj=>(dx n uM (!m) wj).bind λx=>some ⟨x.neg,x.w⟩)=some (zn (zi ⟨n,w⟩-zi ⟨m,u⟩)):=by
  rw[show bu w=some (can 4294967296 (vl w))from hx.trim,show bu u=some (can 4294967296 (vl u))from hy.trim,cq,cq,xB _ _ _ _ hx.cl hy.cl,cq,EH,<-Int.sub_eq_add_neg];rfl
 rw[hK'];generalize zi ⟨n,w⟩=i;generalize zi ⟨m,u⟩=j;by_cases h1:fz i
 ·by_cases h2:fz j
  ·rw[iH h1,iH h2,iV,cq,iV,Jv,Jv,Dl,BitVec.msb_and,BitVec.msb_xor,BitVec.msb_xor,yI h1,yI h2,yI (qy _),mz (qy _).1 (qy _).2,cq];by_cases hr:fz (i-j)
   ·rw[cS hr.1 hr.2];exact BX _ _
   have:(!((decide (i<0)^^decide (j<0))&&(decide (i<0)^^decide (IntKind.i64.wrap (i-j)<0))))=false:=by
    unfold fz at*;by_cases hs:i<0
    ·have e:IntKind.i64.wrap (i-j)=i-j+18446744073709551616:=by rw[IntKind.wrap];simp[IntKind.signed,IntKind.bits];omega
     rw[e,show decide (i<0)=true by simp[hs],show decide (j<0)=false by simp;omega,show decide (i-j+18446744073709551616<0)=false by simp;omega];rfl
    have e:IntKind.i64.wrap (i-j)=i-j-18446744073709551616:=by rw[IntKind.wrap];simp[IntKind.signed,IntKind.bits];omega
    rw[e,show decide (i<0)=false by simp[hs],show decide (j<0)=true by simp;omega,show decide (i-j-18446744073709551616<0)=true by simp;omega];rfl
   rw[this,jt]
  rw[iH h1,oJ h2,iV,cq,jt]
 rw[oJ h1,jt,cq,jt]
theorem NX(n m:Bool)(a b:Nat):sv (!(n==m)) (a*b)=sv n a*sv m b:=by
 cases n<;>cases m<;>simp[sv,Int.neg_mul,Int.mul_neg]
theorem mul_eq{x y:Zr}(hx:Wl x)(hy:Wl y):c7 x y=some (zn (zi x*zi y)):=by
 obtain⟨n,w⟩:=x;obtain⟨m,u⟩:=y;unfold c7;have Z8:(can 4294967296 (vl w)).length<=10000000000:=hx.cl;have Y6:(can 4294967296 (vl u)).length<=10000000000:=hy.cl;simp only[];rw[show bu w=some (can 4294967296 (vl w))from hx.trim,show bu u=some (can 4294967296 (vl u))from hy.trim,cq,cq,show zi ⟨n,w⟩=sv n (vl w)from Y,show zi ⟨m,u⟩=sv m (vl u)from rfl];simp only[cq,cQ];generalize vl w=a at*;generalize vl u=b at*;have la:=dW (B:=4294967296) (by decide) a;have lb:=dW (B:=4294967296) (by decide) b;have hK:((fM (can 4294967296 a) (can 4294967296 b)).bind λuO=>(cw (!(n==m)) uO).bind λx=>some ⟨x.neg,x.w⟩)=some (zn (sv n a*sv m b)):=by
  rw[GW _ _ (gB (by omega)) (gB (by omega)),cq,eT,eT,jP _ _ ⟨λx hx=>ny (by decide) _ _ _ hx,by rw[bW];omega⟩,cq,pC];have hv:vl (fH 4294967296 ((can 4294967296 a).length+(can 4294967296 b).length) (a*b))=a*b:=by
   show val _ _=_;rw[lG,Nat.mod_eq_of_lt];rw[Nat.pow_add];exact Nat.mul_lt_mul'' la lb
  rw[hv,NX]
 rw[hK];by_cases h1:a<4294967296
 ·by_cases h2:b<4294967296
  ·have l1:=low_eq (can 4294967296 a) (λ_ hx=>lH (by decide) hx) (by have:=lI.2 h1;omega);have l2:=low_eq (can 4294967296 b) (λ_ hx=>lH (by decide) hx) (by have:=lI.2 h2;omega);rw[eT]at l1 l2;have hlt:a*b<18446744073709551616:=Nat.mul_lt_mul'' h1 h2;rw[show decide (((can 4294967296 a).length:Int)<=1)=true by rw[decide_eq_true_eq];exact lI.2 h1,iV,cq,show decide (((can 4294967296 b).length:Int)<=1)=true by rw[decide_eq_true_eq];exact lI.2 h2,iV,l1,l2,cq,cq,Nat.mod_eq_of_lt hlt,qu _ _ hlt,cq,pC,NX]
  rw[show decide (((can 4294967296 a).length:Int)<=1)=true by rw[decide_eq_true_eq];exact lI.2 h1,iV,cq,show decide (((can 4294967296 b).length:Int)<=1)=false by rw[decide_eq_false_iff_not];exact λh=>h2 (lI.1 h),jt]
 rw[show decide (((can 4294967296 a).length:Int)<=1)=false by rw[decide_eq_false_iff_not];exact λh=>h1 (lI.1 h),jt,cq,jt]
end
section
open Go.Fw
theorem Vw(n m:Bool){a b:Nat}(hb:0<b):
  sv n a/sv m b=(if n=true/\0<a%b then sv (!(n==m)) (a/b+1)else sv (!(n==m)) (a/b))/\
  sv n a%sv m b=(if n=true/\0<a%b then((b-a%b:Nat):Int)else((a%b:Nat):Int)):=by
 have hd:=Nat.div_add_mod a b;have hm:=Nat.mod_lt a hb
 revert hd hm
 generalize a/b=q;generalize a%b=r;intro hd hm;have hd':(b:Int)*q+r=a:=by exact_mod_cast hd
 have pos:∀n,sv n a/(b:Int)=(if n=true/\0<r then sv n (q+1)else sv n q)/\sv n a%(b:Int)=(if n=true/\0<r then((b-r:Nat):Int)else(r:Int)):=by
  intro n;apply(Int.ediv_emod_unique (by omega)).2;cases n
  ·simp[sv];omega
  by_cases hr:0<r
  ·simp only[hr,and_self,if_true,sv,cond_true];have:(b:Int)* -((q+1:Nat):Int)=-((b:Int)*q)-b:=by
    rw[Int.mul_neg,Int.natCast_add,Int.mul_add];simp;omega
   rw[this];omega
  have:r=0:=by omega
  subst this;simp[sv,Int.mul_neg];omega
 cases m
 ·have:=pos n;rw[oH,show(!(n==false))=n by cases n<;>rfl];exact this
 have:=pos n;rw[show sv true b=-(b:Int)from rfl,Int.ediv_neg,Int.emod_neg,this.1,this.2,show(!(n==true))= !n by cases n<;>rfl,EH,EH];refine⟨?_,Y⟩;split<;>rfl
theorem Vx{a b:Nat}(hba:b<=a)(uG:(can 4294967296 a).length<=10000000000):dj (can 4294967296 a) (can 4294967296 b)=some (fH 4294967296 (can 4294967296 a).length (a-b))/\vl (fH 4294967296 (can 4294967296 a).length (a-b))=a-b:=by
 have lc:=dW (B:=4294967296) (by decide) a;have hdl:(can 4294967296 b).length<=(can 4294967296 a).length:=(fk (by decide)).2 (by omega);constructor
 ·rw[zm _ _ (gB (by omega)) (gB (by omega)) hdl (by rw[eT,eT];exact hba),eT,eT]
 show val _ _=_;rw[lG,Nat.mod_eq_of_lt (by omega)]
def Qf(i j:Int):Zr×Zr×Int:=if j=0 then(⟨false,[]⟩,⟨false,[]⟩,7)else(zn (i/j),zn (i%j),0)
theorem divMod_eq{x y:Zr}(hx:Wl x)(hy:Wl y):fg x y=some (Qf (zi x) (zi y)):=by
 obtain⟨n,w⟩:=x;obtain⟨m,u⟩:=y;unfold fg;have Z8:(can 4294967296 (vl w)).length<=10000000000:=hx.cl;have Y6:(can 4294967296 (vl u)).length<=10000000000:=hy.cl;simp only[];rw[show bu w=some (can 4294967296 (vl w))from hx.trim,show bu u=some (can 4294967296 (vl u))from hy.trim,cq,cq,show zi ⟨n,w⟩=sv n (vl w)from Y,show zi ⟨m,u⟩=sv m (vl u)from rfl];simp only[cq,cQ];generalize vl w=a at*;generalize vl u=b at*;by_cases h0:b=0
 ·subst h0;rw[show sv m 0=0 by cases m<;>rfl];rfl
 have yX:(can 4294967296 b).length≠0:=λh=>h0 (qw.1 h);rw[show decide (((can 4294967296 b).length:Int)=0)=false by simp;intro e;rw[e]at yX;exact yX Y,jt];obtain⟨q,r,hqr,Z9,hq2,Ut,X8,hq3,hr3⟩:=zo a b Z8 Y6 h0;have hm:a%b<b:=Nat.mod_lt _ (by omega);obtain⟨e1,e2⟩:=Vw n m (a:=a) (show 0<b by omega);have hj:sv m b≠0:=by cases m<;>simp[sv]<;>omega
 rw[hqr,cq];simp only[];rw[Al r (by have:=Ut.2;omega),qp (by decide) Ut.1,show val 4294967296 r=a%b from X8,cq,Qf,if_neg hj,e1,e2];have NY:(can 4294967296 (a%b)).length<=(can 4294967296 b).length:=(fk (by decide)).2 (Nat.lt_trans hm (dW (by decide) b));have hK:∀c:Bool,(decide (n=true/\0<a%b)=c)->(bif c then(eO q [1]).bind λuO=>(dj (can 4294967296 b) (can 4294967296 (a%b))).bind λsy=>(cw (!(n==m)) uO).bind λx=>(cw false sy).bind λx_1=>some ((⟨x.neg,x.w⟩:Zr),(⟨x_1.neg,x_1.w⟩:Zr),(0:Int))
   else(cw (!(n==m)) q).bind λx=>(cw false (can 4294967296 (a%b))).bind λx_1=>some ((⟨x.neg,x.w⟩:Zr),(⟨x_1.neg,x_1.w⟩:Zr),(0:Int)))=
   some (zn (if n=true/\0<a%b then sv (!(n==m)) (a/b+1)else sv (!(n==m)) (a/b)),zn (if n=true/\0<a%b then((b-a%b:Nat):Int)else((a%b:Nat):Int)),0):=by
  intro c hc;cases c
  ·have Y7:=of_decide_eq_false hc;rw[jt,if_neg Y7,if_neg Y7,jP _ _ Z9,cq,jP _ _ (gB (by omega)),cq,eT,hq2,pC,pC,oH]
  have Y7:=of_decide_eq_true hc;obtain⟨s1,s2⟩:=Vx (a:=b) (b:=a%b) (by omega) Y6;have w1:EW [1]:=⟨by simp,by simp⟩;rw[iV,if_pos Y7,if_pos Y7,zk _ _ Z9 w1,cq,s1,cq,jP _ _ ⟨λx hx=>ny (by decide) _ _ _ hx,by rw[bW];simp;omega⟩,cq,jP _ _ ⟨λx hx=>ny (by decide) _ _ _ hx,by rw[bW];omega⟩,cq,s2,pC,pC,oH];have:vl (fH 4294967296 (max q.length [1].length+1) (vl q+vl [1]))=a/b+1:=by
   show val _ _=_;rw[lG,show vl [1]=1 by decide,hq2,Nat.mod_eq_of_lt];have h1:vl q<4294967296^q.length:=iW q Z9.1;rw[hq2]at h1;have h2:4294967296^q.length<=4294967296^(max q.length [1].length):=Nat.pow_le_pow_right (by decide) (by omega);have h3:0<4294967296^(max q.length [1].length):=Nat.pow_pos (by decide);rw[Nat.pow_succ];omega
  rw[this]
 have hz:(0<(can 4294967296 (a%b)).length)↔0<a%b:=by
  have:=qw (v:=a%b);omega
 cases n
 ·rw[jt,cq];exact hK false (by simp)
 rw[iV,cq];refine hK _ ?_;simp only[true_and];by_cases h:0<a%b
 ·simp[h,hz.2 h]
 have h':¬0<(can 4294967296 (a%b)).length:=λe=>h (hz.1 e);have h'':¬((0:Int)<((can 4294967296 (a%b)).length:Int)):=by omega
 simp only[h,h'',decide_false]
theorem Vy{x y:Zr}(hx:Wl x)(hy:Wl y):kH x y=some (zn (Int.gcd (zi x) (zi y):Int)):=by
 obtain⟨n,w⟩:=x;obtain⟨m,u⟩:=y;unfold kH;have Z8:(can 4294967296 (vl w)).length<=10000000000:=hx.cl;have Y6:(can 4294967296 (vl u)).length<=10000000000:=hy.cl;simp only[];rw[show bu w=some (can 4294967296 (vl w))from hx.trim,show bu u=some (can 4294967296 (vl u))from hy.trim,cq,cq,Int.gcd,EG,EG];show _=some (zn ((Nat.gcd (vl w) (vl u):Nat):Int));generalize vl w=a at*;generalize vl u=b at*;refine nW (λs=>∃c d,s=(can 4294967296 c,can 4294967296 d)/\Nat.gcd c d=Nat.gcd a b/\(can 4294967296 c).length<=10000000000/\(can 4294967296 d).length<=10000000000)
  (λs=>∃c d,s=(can 4294967296 c,can 4294967296 d)/\Nat.gcd c d=Nat.gcd a b/\(can 4294967296 c).length<=10000000000/\(d=0\/(c<18446744073709551616/\d<18446744073709551616))) (λs=>vl s.2) ?_ ⟨a,b,Y,Y,Z8,Y6⟩ ?_
 ·rintro _ ⟨c,d,rfl,hg,hc,hd⟩;simp only[cq,cQ];by_cases h0:d=0
  ·right;subst h0;exact⟨_,Y,c,0,Y,hg,hc,.inl Y⟩
  have yX:(can 4294967296 d).length≠0:=λh=>h0 (qw.1 h);rw[show decide ((0:Int)<((can 4294967296 d).length:Int))=true by simp;omega,iV];by_cases h2:c<18446744073709551616/\d<18446744073709551616
  ·right;have c1:=fU.2 h2.1;have c2:=fU.2 h2.2;rw[show decide ((2:Int)<((can 4294967296 c).length:Int))=false by simp;omega,jt,show decide ((2:Int)<((can 4294967296 d).length:Int))=false by simp;omega];exact⟨_,Y,c,d,Y,hg,hc,.inr h2⟩
  left;have hm:c%d<d:=Nat.mod_lt _ (by omega);obtain⟨q,r,hqr,Z9,hq2,Ut,X8,-,-⟩:=zo c d hc hd h0;have Lq:((bif decide ((2:Int)<((can 4294967296 c).length:Int))then some true else some (decide ((2:Int)<((can 4294967296 d).length:Int)))):Option Bool)=some true:=by
   by_cases E6:c<18446744073709551616
   ·have hd2:¬d<18446744073709551616:=λh=>h2 ⟨E6,h⟩;have:¬(((can 4294967296 d).length:Int)<=2):=λh=>hd2 (fU.1 h);rw[show decide ((2:Int)<((can 4294967296 d).length:Int))=true by simp;omega];exact BX _ _
   have:¬(((can 4294967296 c).length:Int)<=2):=λh=>E6 (fU.1 h);rw[show decide ((2:Int)<((can 4294967296 c).length:Int))=true by simp;omega,iV]
  rw[Lq,cq,cq,iV,hqr,cq];simp only[];rw[Al r (by have:=Ut.2;omega),qp (by decide) Ut.1,show val 4294967296 r=c%d from X8,cq];refine⟨_,Y,⟨d,c%d,Y,?_,hd,?_⟩,?_⟩
  ·rw[<-hg,Nat.gcd_comm d,<-Nat.gcd_rec,Nat.gcd_comm]
  ·exact Nat.le_trans ((fk (by decide)).2 (Nat.lt_trans hm (dW (by decide) d))) hd
  simp only[eT];exact hm
 rintro _ ⟨c,d,rfl,hg,hc,NU⟩;simp only[cq];by_cases h0:d=0
 ·subst h0;rw[show decide (((can 4294967296 0).length:Int)=0)=true by simp[tD],iV,xA _ (by omega),cq,jP _ _ (gB (by omega)),cq,eT,pC,oH,<-hg,Nat.gcd_zero_right]
 have h2:=NU.resolve_left h0;have yX:(can 4294967296 d).length≠0:=λh=>h0 (qw.1 h);have c1:=fU.2 h2.1;have c2:=fU.2 h2.2;rw[show decide (((can 4294967296 d).length:Int)=0)=false by simp;intro e;rw[e]at yX;exact yX Y,jt,low_eq _ (λ_ hx=>lH (by decide) hx) (by omega),cq,low_eq _ (λ_ hx=>lH (by decide) hx) (by omega),cq,eT,eT];refine nW (λs=>Nat.gcd s.1 s.2=Nat.gcd a b/\s.1<18446744073709551616/\s.2<18446744073709551616) (λe=>e=Nat.gcd a b/\e<18446744073709551616) (λs=>s.2) ?_ ⟨hg,h2.1,h2.2⟩ ?_
 ·rintro⟨s,t⟩ ⟨i1,i2,i3⟩;simp only at i1 i2 i3⊢;by_cases ht:0<t
  ·left;rw[show decide (0<t)=true by simp[ht],iV,Ai (by omega),cq];refine⟨_,Y,⟨?_,i3,?_⟩,Nat.mod_lt _ ht⟩
   ·rw[<-i1,Nat.gcd_comm t,<-Nat.gcd_rec,Nat.gcd_comm]
   exact Nat.lt_trans (Nat.mod_lt _ ht) i3
  right;rw[show decide (0<t)=false by simp[ht],jt];refine⟨_,Y,?_,i2⟩;rw[<-i1,show t=0 by omega,Nat.gcd_zero_right]
 rintro e ⟨rfl,he⟩;rw[qu _ _ he,cq,pC,oH]
end
section
open Go.Fw
def zl(l:List Nat):List Int:=l.map (λ(n:Nat)=>(n:Int))
abbrev Wh(l:List Nat):Nat:=val 65536 l
end
section
open Go.Fw
theorem p9(k:Nat):10^(9*(k+1))=10^(9*k)*1000000000:=by
 rw[show 9*(k+1)=9*k+9 by omega,Nat.pow_add]
end
section
open Go.Fw
def body(s:Oz):Oz:=if s.head?=some 45 then s.tail else s
def dv(s:Oz):Nat:=s.foldl (λa c=>a*10+(c.toNat-48)) 0
def z0:Zr:=⟨false,[]⟩
end
section
open Go.Fw
theorem zeta'(z:Zr):(⟨z.neg,z.w⟩:Zr)=z:=by cases z;rfl
theorem KE{i:Int}(h:fz i):Fit 2 i:=Fit.i64 h.1 h.2
end
section
open Go.Fw
theorem Qg(l:List Zr)(hl:l.length<=100):∃b,lq l=some b/\(b=false->∀z∈l,z.w.length<=12):=by
 unfold lq;simp only[cq];refine nT (λy=>∃i:Nat,y=(i:Int)/\i<=l.length/\∀z∈l.take i,z.w.length<=12) (λe=>(∃c,e=.inl c/\∀z∈l,z.w.length<=12)\/e=.inr true) (λy=>l.length-y.toNat) ?_ ⟨0,Y,by omega,by simp⟩ ?_
 ·rintro _ ⟨i,rfl,hi,ht⟩;by_cases hlt:i<l.length
  ·have g:l[i]? =some l[i]:=by simp
   rw[show decide ((i:Int)<(l.length:Int))=true by simp[hlt],iV,bL g,cq];by_cases gO:l[i].w.length<=12
   ·left;rw[show decide ((12:Int)<(l[i].w.length:Int))=false by rw[decide_eq_false_iff_not];omega,jt,bX (by omega)];refine⟨_,Y,⟨i+1,Y,hlt,?_⟩,by omega⟩;rw[List.take_add_one,g];intro z hz;rcases List.mem_append.1 hz with h|h
    ·exact ht z h
    simp at h;rw[h];exact gO
   right;rw[show decide ((12:Int)<(l[i].w.length:Int))=true by rw[decide_eq_true_eq];omega,iV];exact⟨_,Y,.inr Y⟩
  right;rw[show decide ((i:Int)<(l.length:Int))=false by simp;omega,jt];rw[List.take_of_length_le (by omega)]at ht;exact⟨_,Y,.inl ⟨_,Y,ht⟩⟩
 rintro e (⟨c,rfl,he⟩|rfl)
 ·exact⟨false,Y,λ_=>he⟩
 exact⟨true,rfl,λh=>by cases h⟩
theorem NZ(i j:Int):(i-j).sign=qx i j:=by
 rcases Int.lt_trichotomy i j with h|h|h
 ·rw[mG h,Int.sign_eq_neg_one_of_neg (by omega)]
 ·rw[h,uj,Int.sub_self];rfl
 rw[mH h,Int.sign_eq_one_of_pos (by omega)]
abbrev OkZ(z:Zr):Prop:=True/\(z.w.length<=9223372036854775807/\∀x∈z.w,x<4294967296)
end
section
open Go.Fw
def qd(q:Qr):Int:=if zi q.den=0 then 1 else zi q.den
def qv(q:Qr):Rat:=Rat.divInt (zi q.num) (qd q)
def qn(r:Rat):Qr:=⟨zn r.num,if r.den=1 then⟨false,[]⟩else zn (r.den:Int)⟩
def FQ(L:Nat)(r:Rat):Prop:=Fit L r.num/\Fit L (r.den:Int)
structure kA (L:Nat) (q:Qr) (r:Rat):Prop where
 n:∀x∈q.num.w,x<4294967296
 d:∀x∈q.den.w,x<4294967296
 ln:q.num.w.length<=L
 ld:q.den.w.length<=L
 l1:1<=L
 v:qv q=r
theorem Y8(q:Qr):qd q≠0:=by
 unfold qd;by_cases h:zi q.den=0
 ·rw[if_pos h];decide
 rw[if_neg h];exact h
theorem Y9(r:Rat):qv (qn r)=r:=by
 unfold qv qd qn;by_cases h:r.den=1
 ·rw[if_pos h];show Rat.divInt (zi (zn r.num)) (if zi ⟨false,[]⟩=0 then 1 else zi ⟨false,[]⟩)=r;rw[if_pos (show zi ⟨false,[]⟩=0 from rfl),fL];have:=Rat.num_divInt_den r;rw[h]at this;exact this
 rw[if_neg h];show Rat.divInt (zi (zn r.num)) (if zi (zn (r.den:Int))=0 then 1 else zi (zn (r.den:Int)))=r;have:=r.den_nz;rw[fL,fL,if_neg (by omega),Rat.num_divInt_den]
theorem Jw{w:List Nat}{n:Bool}{L:Nat}(h:∀x∈w,x<4294967296)(hl:w.length<=L):Fit L (zi ⟨n,w⟩):=by
 unfold Fit;rw[EG];exact Nat.lt_of_lt_of_le (iW w h) (Nat.pow_le_pow_right (by decide) hl)
theorem An{L:Nat}(h:1<=L):Fit L 1:=by
 unfold Fit;exact Nat.lt_of_lt_of_le (show(1:Int).natAbs<4294967296^1 by decide) (Nat.pow_le_pow_right (by decide) h)
theorem FQ.rep{L:Nat}{r:Rat}(h:FQ L r)(h1:1<=L):kA L (qn r) r:=by
 refine⟨λx hx=>lH (by decide) hx,?_,(fk (by decide)).2 h.1,?_,h1,Y9 r⟩
 ·unfold qn;by_cases e:r.den=1
  ·rw[if_pos e];simp
  rw[if_neg e];exact λx hx=>lH (by decide) hx
 unfold qn;by_cases e:r.den=1
 ·rw[if_pos e];simp
 rw[if_neg e];exact(fk (by decide)).2 h.2
theorem kA.wn{L:Nat}{q:Qr}{r:Rat}(h:kA L q r)(hL:L<=10000000000):Wl q.num:=⟨h.n,Nat.le_trans h.ln hL⟩
theorem kA.wd{L:Nat}{q:Qr}{r:Rat}(h:kA L q r)(hL:L<=10000000000):Wl q.den:=⟨h.d,Nat.le_trans h.ld hL⟩
theorem kA.fn{L:Nat}{q:Qr}{r:Rat}(h:kA L q r):Fit L (zi q.num):=Jw (n:=q.num.neg) h.n h.ln
theorem kA.fd{L:Nat}{q:Qr}{r:Rat}(h:kA L q r):Fit L (zi q.den):=Jw (n:=q.den.neg) h.d h.ld
theorem kA.fqd{L:Nat}{q:Qr}{r:Rat}(h:kA L q r):Fit L (qd q):=by
 unfold qd;by_cases e:zi q.den=0
 ·rw[if_pos e];exact An h.l1
 rw[if_neg e];exact h.fd
theorem kA.mono{L M:Nat}{q:Qr}{r:Rat}(h:kA L q r)(hl:L<=M):kA M q r:=⟨h.n,h.d,Nat.le_trans h.ln hl,Nat.le_trans h.ld hl,Nat.le_trans h.l1 hl,h.v⟩
theorem FQ.mono{L M:Nat}{r:Rat}(h:FQ L r)(hl:L<=M):FQ M r:=⟨h.1.mono hl,h.2.mono hl⟩
theorem qA{L:Nat}{a d:Int}(h0:d≠0)(ha:Fit L a)(hd:Fit L d):FQ L (Rat.divInt a d):=by
 generalize hr:Rat.divInt a d=r;obtain⟨n',d',z',c⟩:=r;obtain⟨m,hm,h1,h2⟩:=Rat.divInt_num_den h0 hr;have hm':0<m.natAbs:=Int.natAbs_pos.2 hm;refine⟨ha.le ?_,hd.le ?_⟩
 ·rw[h1,Int.natAbs_mul];exact Nat.le_mul_of_pos_right _ hm'
 rw[h2,Int.natAbs_mul];exact Nat.le_mul_of_pos_right _ hm'
theorem kA.fq{L:Nat}{q:Qr}{r:Rat}(h:kA L q r):FQ L r:=by rw[<-h.v];exact qA (Y8 q) h.fn h.fqd
theorem um(r:Rat):r=Rat.divInt r.num (r.den:Int):=(Rat.num_divInt_den r).symm
theorem pP(r:Rat):(r.den:Int)≠0:=by have:=r.den_nz;omega
theorem FQ.add{L M:Nat}{x y:Rat}(hx:FQ L x)(hy:FQ M y):FQ (L+M+1) (x+y):=by
 have e:x+y=Rat.divInt (x.num*y.den+y.num*x.den) (x.den*y.den):=by
  conv=>lhs;rw[um x,um y,Rat.divInt_add_divInt _ _ (pP x) (pP y)]
 rw[e];refine qA (Int.mul_ne_zero (pP x) (pP y)) ?_ ?_
 ·exact(hx.1.mul hy.2).add (by rw[Nat.add_comm L M];exact hy.1.mul hx.2)
 exact(hx.2.mul hy.2).mono (by omega)
theorem FQ.sub{L M:Nat}{x y:Rat}(hx:FQ L x)(hy:FQ M y):FQ (L+M+1) (x-y):=by
 have e:x-y=Rat.divInt (x.num*y.den-y.num*x.den) (x.den*y.den):=by
  conv=>lhs;rw[um x,um y,Rat.divInt_sub_divInt _ _ (pP x) (pP y)]
 rw[e];refine qA (Int.mul_ne_zero (pP x) (pP y)) ?_ ?_
 ·exact(hx.1.mul hy.2).sub (by rw[Nat.add_comm L M];exact hy.1.mul hx.2)
 exact(hx.2.mul hy.2).mono (by omega)
theorem FQ.mul{L M:Nat}{x y:Rat}(hx:FQ L x)(hy:FQ M y):FQ (L+M) (x*y):=by
 have e:x*y=Rat.divInt (x.num*y.num) (x.den*y.den):=by
  conv=>lhs;rw[um x,um y,Rat.divInt_mul_divInt]
 rw[e];exact qA (Int.mul_ne_zero (pP x) (pP y)) (hx.1.mul hy.1) (hx.2.mul hy.2)
theorem FQ.neg{L:Nat}{x:Rat}(hx:FQ L x):FQ L (-x):=⟨hx.1.neg,hx.2⟩
theorem FQ.inv{L:Nat}{x:Rat}(hx:FQ L x)(h:x≠0):FQ L x⁻¹:=by
 have hn:x.num≠0:=λe=>h (Rat.num_eq_zero.1 e);rw[Rat.inv_def];exact qA hn hx.2 hx.1
theorem FQ.div{L M:Nat}{x y:Rat}(hx:FQ L x)(hy:FQ M y)(h:y≠0):FQ (L+M) (x/y):=by rw[Rat.div_def];exact hx.mul (hy.inv h)
theorem FQ.int{L:Nat}{i:Int}(h:Fit L i)(h1:1<=L):FQ L (i:Rat):=⟨h,An h1⟩
def oK(x y:Rat):Int:=if x<y then-1 else if x=y then 0 else 1
theorem uo(x:Rat):oK x x=0:=by unfold oK;rw[if_neg Rat.lt_irrefl,if_pos rfl]
theorem KF{a b c d:Int}(hb:0<b)(hd:0<d):Rat.divInt a b<Rat.divInt c d↔a*d<c*b:=by
 have hb':(0:Rat)<(b:Rat):=Rat.intCast_pos.2 hb;have hd':(0:Rat)<(d:Rat):=Rat.intCast_pos.2 hd;rw[Rat.divInt_eq_div,Rat.divInt_eq_div,Rat.div_lt_iff hb',Rat.div_def,Rat.mul_assoc,Rat.mul_comm (d:Rat)⁻¹,<-Rat.mul_assoc,<-Rat.div_def,Rat.lt_div_iff hd',<-Rat.intCast_mul,<-Rat.intCast_mul,Rat.intCast_lt_intCast]
theorem G4{a b c d:Int}(hb:0<b)(hd:0<d):oK (Rat.divInt a b) (Rat.divInt c d)=qx (a*d) (c*b):=by
 unfold oK qx;have e1:=KF (a:=a) (c:=c) hb hd;have e2:=Rat.divInt_eq_divInt_iff (n₁:=a) (d₁:=b) (n₂:=c) (d₂:=d) (by omega) (by omega);by_cases h1:a*d<c*b
 ·rw[if_pos (e1.2 h1),if_pos h1]
 rw[if_neg (λh=>h1 (e1.1 h)),if_neg h1];by_cases h2:a*d=c*b
 ·rw[if_pos (e2.2 h2),if_pos h2]
 rw[if_neg (λh=>h2 (e2.1 h)),if_neg h2]
theorem tG{a b:Int}(hb:0<b):a.sign=oK (Rat.divInt a b) 0:=by
 have:(0:Rat)=Rat.divInt 0 1:=rfl;rw[this,G4 hb (by decide),Int.mul_one,Int.zero_mul,<-NZ,Int.sub_zero]
theorem Dm{a d:Int}(hd:0<d):qn (Rat.divInt a d)=⟨zn (a/(Int.gcd a d:Int)),if d/(Int.gcd a d:Int)=1 then⟨false,[]⟩else zn (d/(Int.gcd a d:Int))⟩:=by
 have h1:(Rat.divInt a d).num=a/(Int.gcd a d:Int):=by rw[Rat.num_divInt,Int.sign_eq_one_of_pos hd,Int.one_mul,Int.gcd_comm]
 have h2:((Rat.divInt a d).den:Int)=d/(Int.gcd a d:Int):=by
  rw[Rat.den_divInt,if_neg (by omega),Int.gcd_comm];have:(d.natAbs:Int)=d:=by omega
  rw[Int.natCast_ediv,this]
 unfold qn;rw[h1,h2];by_cases e:(Rat.divInt a d).den=1
 ·rw[if_pos e,if_pos (by omega)]
 rw[if_neg e,if_neg (by omega)]
theorem Qh(k:Int):((bif(tF k).2 then some (decide ((tF k).1=1))else some false):Option Bool)=some (decide (k=1)):=by
 by_cases h:fz k
 ·rw[iH h];rfl
 rw[oJ h];have:¬k=1:=by rintro rfl;exact h (by decide)
 rw[decide_eq_false this];rfl
theorem BY{n d:Zr}(hn:Wl n)(hd:Wl d)(h:0<zi d):((kH n d).bind λg=>(fg n g).bind λa=>(fg d g).bind λb=>(dJ b.1).bind λc=>
  (bif c.2 then some (decide (c.1=1))else some false).bind λe=>bif e then some (⟨a.1,⟨false,[]⟩⟩:Qr)else some ⟨a.1,b.1⟩)=some (qn (Rat.divInt (zi n) (zi d))):=by
 have g0:(Int.gcd (zi n) (zi d):Int)≠0:=by
  have:0<Int.gcd (zi n) (zi d):=Int.gcd_pos_of_ne_zero_right _ (by omega);omega
 have wg:Wl (zn (Int.gcd (zi n) (zi d):Int)):=jQ ((Wl.fit hd).le (by
  have:=Nat.le_of_dvd (Int.natAbs_pos.2 (show zi d≠0 by omega)) (Int.gcd_dvd_natAbs_right (zi n) (zi d));simpa using this)) hd.2
 have wq:Wl (zn (zi d/(Int.gcd (zi n) (zi d):Int))):=jQ ((Wl.fit hd).le (Int.natAbs_ediv_le_natAbs _ _)) hd.2;rw[Vy hn hd,cq,divMod_eq hn wg,cq,divMod_eq hd wg,cq,fL,Qf,if_neg g0,Qf,if_neg g0];simp only[];rw[oI wq,cq,fL,Qh,cq,Dm h];by_cases e:zi d/(Int.gcd (zi n) (zi d):Int)=1
 ·rw[decide_eq_true e,iV,if_pos e]
 rw[decide_eq_false e,jt,if_neg e]
theorem reduce_eq{x y:Zr}(hx:Wl x)(hy:Wl y)(h0:zi y≠0):eY x y=some (qn (Rat.divInt (zi x) (zi y))):=by
 unfold eY;simp only[cQ,cq,zeta',sign_eq hy];by_cases h:zi y<0
 ·rw[show decide ((zi y).sign<0)=true by rw[Int.sign_eq_neg_one_of_neg h];rfl,iV,neg_eq hx,cq,neg_eq hy,cq];have hp:=BY (jQ (Wl.fit hx).neg hx.2) (jQ (Wl.fit hy).neg hy.2) (by rw[fL];omega);rw[fL,fL,Rat.neg_divInt_neg]at hp;exact hp
 rw[show decide ((zi y).sign<0)=false by rw[Int.sign_eq_one_of_pos (by omega)];rfl,jt];exact BY hx hy (by omega)
end
section
open Go.Fw
theorem tH(q:Qr):(⟨⟨q.num.neg,q.num.w⟩,⟨q.den.neg,q.den.w⟩⟩:Qr)=q:=by cases q;rfl
theorem tJ(q:Qr):(⟨q.num,q.den⟩:Qr)=q:=by cases q;rfl
theorem parts_eq{L:Nat}{q:Qr}{r:Rat}(h:kA L q r)(hL:L<=10000000000):∃n d:Zr,dg q=some (n,d)/\Wl n/\Wl d/\0<zi d/\Rat.divInt (zi n) (zi d)=r/\Fit L (zi n)/\Fit L (zi d):=by
 have wn:=h.wn hL;have wd:=h.wd hL;have hv:=h.v;unfold dg;simp only[zeta',cq,sign_eq wd,mz (x:=1) (by decide) (by decide),neg_eq wn,neg_eq wd];unfold qv qd at hv;rcases Int.lt_trichotomy (zi q.den) 0 with h1|h1|h1
 ·refine⟨_,_,?_,jQ h.fn.neg hL,jQ h.fd.neg hL,by rw[fL];omega,?_,by rw[fL];exact h.fn.neg,by rw[fL];exact h.fd.neg⟩
  ·rw[Int.sign_eq_neg_one_of_neg h1];rfl
  rw[fL,fL,Rat.neg_divInt_neg,<-hv,if_neg (by omega)]
 ·refine⟨_,_,?_,wn,jQ (An h.l1) hL,by rw[fL];decide,?_,h.fn,by rw[fL];exact An h.l1⟩
  ·rw[h1];rfl
  rw[fL,<-hv,if_pos h1]
 refine⟨_,_,?_,wn,wd,h1,?_,h.fn,h.fd⟩
 ·rw[Int.sign_eq_one_of_pos h1];rfl
 rw[<-hv,if_neg (by omega)]
def Sm(a:Int):Prop:=-2147483648<a/\a<2147483648
theorem Sm.ok{a:Int}(h:Sm a):fz a:=by unfold Sm at h;unfold fz;omega
theorem lJ{L:Nat}{q:Qr}{r:Rat}(h:kA L q r)(hL:L<=10000000000):∃a b c,dK q=some (a,b,c)/\(c=true->Sm a/\0<b/\Sm b/\Rat.divInt a b=r):=by
 have wn:=h.wn hL;have wd:=h.wd hL;have hv:=h.v;unfold dK;simp only[zeta',cq,cQ,oI wn,oI wd];unfold qv qd at hv;generalize zi q.num=n at*;generalize zi q.den=d at*;by_cases hs:Sm n/\Sm d
 ·obtain⟨h1,h2⟩:=hs;rw[iH h1.ok,iH h2.ok];unfold Sm at h1 h2;simp only[];rw[decide_eq_false (show ¬n<=-2147483648 by omega),decide_eq_false (show ¬2147483648<=n by omega),decide_eq_false (show ¬d<=-2147483648 by omega),decide_eq_false (show ¬2147483648<=d by omega)];simp only[Bool.not_true,jt,cq];by_cases h0:d=0
  ·rw[decide_eq_true h0,iV];refine⟨_,_,_,Y,λ_=>⟨h1,by decide,⟨by decide,by decide⟩,?_⟩⟩;rw[<-hv,if_pos h0]
  rw[decide_eq_false h0,jt];rw[if_neg h0]at hv;by_cases hneg:d<0
  ·rw[decide_eq_true hneg,iV,cS (by omega) (by omega),cS (by omega) (by omega)];refine⟨_,_,_,Y,λ_=>⟨⟨by omega,by omega⟩,by omega,⟨by omega,by omega⟩,?_⟩⟩;rw[Int.zero_sub,Int.zero_sub,Rat.neg_divInt_neg,hv]
  rw[decide_eq_false hneg,jt];exact⟨_,_,_,Y,λ_=>⟨h1,by omega,h2,hv⟩⟩
 refine⟨0,0,false,?_,λe=>by cases e⟩;by_cases o1:fz n
 ·by_cases o2:fz d
  ·rw[iH o1,iH o2];simp only[Bool.not_true,jt,cq];unfold Sm at hs;by_cases c1:n<=-2147483648
   ·rw[decide_eq_true c1];simp only[cq,iV]
   rw[decide_eq_false c1];simp only[cq,jt];by_cases c2:2147483648<=n
   ·rw[decide_eq_true c2];simp only[cq,iV]
   rw[decide_eq_false c2];simp only[cq,jt];by_cases c3:d<=-2147483648
   ·rw[decide_eq_true c3];simp only[cq,iV]
   rw[decide_eq_false c3];simp only[cq,jt];rw[decide_eq_true (show 2147483648<=d by omega)];simp only[iV]
  rw[iH o1,oJ o2];simp only[Bool.not_true,Bool.not_false,jt,cq,iV]
 rw[oJ o1];simp only[Bool.not_false,cq,iV]
theorem G5{a g:Int}(hg:0<g)(h:g∣a):Int.tdiv a g=a/g:=by
 obtain⟨k,rfl⟩:=h;rw[Int.mul_tdiv_cancel_left _ (by omega),Int.mul_ediv_cancel_left _ (by omega)]
theorem qB{n d:Int}(hd:0<d)(hd':d<=9223372036854775807)(hn: -9223372036854775807<=n)(hn':n<=9223372036854775807):e5 n d=some (qn (Rat.divInt n d)):=by
 unfold e5;simp only[cq,cQ];refine nW (λs=>Int.gcd s.1 s.2=Int.gcd n d/\s.1.natAbs<=9223372036854775807/\s.2.natAbs<=9223372036854775807) (λe=>e.natAbs=Int.gcd n d/\e.natAbs<=9223372036854775807) (λs=>s.2.natAbs) ?_ ⟨Y,by simp only[];omega,by simp only[];omega⟩ ?_
 ·rintro⟨a,b⟩ ⟨i1,i2,i3⟩;simp only at i1 i2 i3⊢;by_cases hb:b=0
  ·right;subst hb;refine⟨a,by simp,?_,i2⟩;rw[<-i1];simp[Int.gcd]
  left;rw[decide_eq_true hb,iV,JR,if_neg hb,cq];have hm:(Int.tmod a b).natAbs=a.natAbs%b.natAbs:=Int.natAbs_tmod a b;have hlt:=Nat.mod_lt a.natAbs (Int.natAbs_pos.2 hb);refine⟨_,Y,⟨?_,i3,by simp only[];omega⟩,by simp only[];omega⟩;simp only[];rw[<-i1,Int.gcd,Int.gcd,hm,Nat.gcd_comm b.natAbs,<-Nat.gcd_rec,Nat.gcd_comm]
 rintro e ⟨he,hle⟩;obtain⟨g,hg⟩:∃g:Int,(Int.gcd n d:Int)=g:=⟨_,Y⟩;have Z3:0<g:=by have:=Int.gcd_pos_of_ne_zero_right n (show d≠0 by omega);omega
 have hgn:g∣n:=hg▸Int.gcd_dvd_left ..;have hgd:g∣d:=hg▸Int.gcd_dvd_right ..;have hK:∀m:Int,m=g->(bif decide (m=d)then(wI n m).bind λik=>(cg ik).bind λx=>some (⟨⟨x.neg,x.w⟩,⟨false,[]⟩⟩:Qr)else(wI n m).bind λiK=>(cg iK).bind λx=>(wI d m).bind λtZ=>(cg tZ).bind λy=>some ⟨⟨x.neg,x.w⟩,⟨y.neg,y.w⟩⟩)=some (qn (Rat.divInt n d)):=by
  rintro m rfl;have b1:(n/m).natAbs<=n.natAbs:=Int.natAbs_ediv_le_natAbs _ _;have b2:(d/m).natAbs<=d.natAbs:=Int.natAbs_ediv_le_natAbs _ _;have q1:wI n m=some (n/m):=by
   rw[wI,if_neg (by omega),G5 Z3 hgn,cS (by omega) (by omega)]
  have q2:wI d m=some (d/m):=by
   rw[wI,if_neg (by omega),G5 Z3 hgd,cS (by omega) (by omega)]
  rw[Dm hd,hg,q1,q2];simp only[cq,mz (x:=n/m) (by omega) (by omega),mz (x:=d/m) (by omega) (by omega),zeta'];by_cases e1:m=d
  ·rw[decide_eq_true e1,iV,if_pos (by rw[e1];exact Int.ediv_self (by omega))]
  rw[decide_eq_false e1,jt,if_neg];intro e2;have:=Int.ediv_mul_cancel hgd;rw[e2]at this;omega
 by_cases hneg:e<0
 ·rw[decide_eq_true hneg,iV,cS (by omega) (by omega)];exact hK _ (by omega)
 rw[decide_eq_false hneg,jt];exact hK _ (by omega)
theorem iP{a b:Int}(ha:Sm a)(hb:Sm b): -4611686018427387904<a*b/\a*b<4611686018427387904:=by
 unfold Sm at ha hb;have h1:(a*b).natAbs=a.natAbs*b.natAbs:=Int.natAbs_mul a b;have h2:a.natAbs*b.natAbs<=2147483647*2147483647:=Nat.mul_le_mul (by omega) (by omega);omega
theorem pD{a b:Int}(ha:0<a)(hb:0<b):0<a*b:=Int.mul_pos ha hb
section ops
variable {L M:Nat}{a b:Qr}{x y:Rat}
theorem kA.add(ha:kA L a x)(hb:kA M b y)(h:L+M<=4000000000):ko a b=some (qn (x+y))/\kA (L+M+1) (qn (x+y)) (x+y):=by
 refine⟨?_,(ha.fq.add hb.fq).rep (by omega)⟩;obtain⟨n1,d1,c1,e1,k1⟩:=lJ ha (by omega);obtain⟨n2,d2,c2,e2,k2⟩:=lJ hb (by omega);obtain⟨p1,q1,f1,w1,w2,g1,v1,t1,t2⟩:=parts_eq ha (by omega);obtain⟨p2,q2,f2,w3,w4,g2,v2,t3,t4⟩:=parts_eq hb (by omega);have BZ:ji a b=some (qn (x+y)):=by
  unfold ji gQ;have u1:=jQ (t1.mul t4) (by omega);have u2:=jQ (t3.mul t2) (by omega);have u3:=jQ (t2.mul t4) (by omega);have u4:=jQ ((t1.mul t4).add ((t3.mul t2).mono (by omega))) (by omega);simp only[zeta',tH,tJ,f1,f2,cq,mul_eq w1 w4,mul_eq w3 w2,add_eq u1 u2,mul_eq w2 w4,fL];rw[reduce_eq u4 u3 (by rw[fL];have:=pD g1 g2;omega),cq,fL,fL,<-v1,<-v2,Rat.divInt_add_divInt _ _ (by omega) (by omega)]
 unfold ko;simp only[zeta',tH,tJ,e1,e2,cq,cQ,BZ];cases c1
 ·rw[jt,cq,jt]
 cases c2
 ·rw[iV,cq,jt]
 obtain⟨s1,s2,s3,s4⟩:=k1 Y;obtain⟨s5,s6,s7,s8⟩:=k2 Y;have m1:=iP s1 s7;have m2:=iP s5 s3;have m3:=iP s3 s7;have m4:=pD s2 s6;rw[iV,cq,iV,cS (x:=n1*d2) (by omega) (by omega),cS (x:=n2*d1) (by omega) (by omega),cS (x:=d1*d2) (by omega) (by omega),cS (by omega) (by omega),qB m4 (by omega) (by omega) (by omega),cq,<-s4,<-s8,Rat.divInt_add_divInt _ _ (by omega) (by omega)]
theorem kA.sub(ha:kA L a x)(hb:kA M b y)(h:L+M<=4000000000):kp a b=some (qn (x-y))/\kA (L+M+1) (qn (x-y)) (x-y):=by
 refine⟨?_,(ha.fq.sub hb.fq).rep (by omega)⟩;obtain⟨n1,d1,c1,e1,k1⟩:=lJ ha (by omega);obtain⟨n2,d2,c2,e2,k2⟩:=lJ hb (by omega);obtain⟨p1,q1,f1,w1,w2,g1,v1,t1,t2⟩:=parts_eq ha (by omega);obtain⟨p2,q2,f2,w3,w4,g2,v2,t3,t4⟩:=parts_eq hb (by omega);have BZ:jk a b=some (qn (x-y)):=by
  unfold jk gR;have u1:=jQ (t1.mul t4) (by omega);have u2:=jQ (t3.mul t2) (by omega);have u3:=jQ (t2.mul t4) (by omega);have u4:=jQ ((t1.mul t4).sub ((t3.mul t2).mono (by omega))) (by omega);simp only[zeta',tH,tJ,f1,f2,cq,mul_eq w1 w4,mul_eq w3 w2,sub_eq u1 u2,mul_eq w2 w4,fL];rw[reduce_eq u4 u3 (by rw[fL];have:=pD g1 g2;omega),cq,fL,fL,<-v1,<-v2,Rat.divInt_sub_divInt _ _ (by omega) (by omega)]
 unfold kp;simp only[zeta',tH,tJ,e1,e2,cq,cQ,BZ];cases c1
 ·rw[jt,cq,jt]
 cases c2
 ·rw[iV,cq,jt]
 obtain⟨s1,s2,s3,s4⟩:=k1 Y;obtain⟨s5,s6,s7,s8⟩:=k2 Y;have m1:=iP s1 s7;have m2:=iP s5 s3;have m3:=iP s3 s7;have m4:=pD s2 s6;rw[iV,cq,iV,cS (x:=n1*d2) (by omega) (by omega),cS (x:=n2*d1) (by omega) (by omega),cS (x:=d1*d2) (by omega) (by omega),cS (by omega) (by omega),qB m4 (by omega) (by omega) (by omega),cq,<-s4,<-s8,Rat.divInt_sub_divInt _ _ (by omega) (by omega)]
theorem kA.mul(ha:kA L a x)(hb:kA M b y)(h:L+M<=4000000000):jm a b=some (qn (x*y))/\kA (L+M) (qn (x*y)) (x*y):=by
 have l1:=ha.l1;refine⟨?_,(ha.fq.mul hb.fq).rep (by omega)⟩;obtain⟨n1,d1,c1,e1,k1⟩:=lJ ha (by omega);obtain⟨n2,d2,c2,e2,k2⟩:=lJ hb (by omega);obtain⟨p1,q1,f1,w1,w2,g1,v1,t1,t2⟩:=parts_eq ha (by omega);obtain⟨p2,q2,f2,w3,w4,g2,v2,t3,t4⟩:=parts_eq hb (by omega);have BZ:jl a b=some (qn (x*y)):=by
  unfold jl gS;have u1:=jQ (t1.mul t3) (by omega);have u3:=jQ (t2.mul t4) (by omega);simp only[zeta',tH,tJ,f1,f2,cq,mul_eq w1 w3,mul_eq w2 w4];rw[reduce_eq u1 u3 (by rw[fL];have:=pD g1 g2;omega),cq,fL,fL,<-v1,<-v2,Rat.divInt_mul_divInt]
 unfold jm;simp only[zeta',tH,tJ,e1,e2,cq,cQ,BZ];cases c1
 ·rw[jt,cq,jt]
 cases c2
 ·rw[iV,cq,jt]
 obtain⟨s1,s2,s3,s4⟩:=k1 Y;obtain⟨s5,s6,s7,s8⟩:=k2 Y;have m1:=iP s1 s5;have m3:=iP s3 s7;have m4:=pD s2 s6;rw[iV,cq,iV,cS (by omega) (by omega),cS (x:=d1*d2) (by omega) (by omega),qB m4 (by omega) (by omega) (by omega),cq,<-s4,<-s8,Rat.divInt_mul_divInt]
theorem kA.sign(ha:kA L a x)(h:L<=10000000000):eC a=some (oK x 0):=by
 unfold eC;have wn:=ha.wn h;have wd:=ha.wd h;have hv:=ha.v;simp only[zeta',cq,sign_eq wn,sign_eq wd];unfold qv qd at hv;rcases Int.lt_trichotomy (zi a.den) 0 with h1|h1|h1
 ·rw[Int.sign_eq_neg_one_of_neg h1];rw[if_neg (by omega),<-Rat.neg_divInt_neg]at hv;rw[<-hv,<-tG (by omega),Int.sign_neg];show some (IntKind.i64.wrap (0-(zi a.num).sign))=_;have:(zi a.num).sign=-1\/(zi a.num).sign=0\/(zi a.num).sign=1:=by
   rcases Int.lt_trichotomy (zi a.num) 0 with e|e|e
   ·left;exact Int.sign_eq_neg_one_of_neg e
   ·right;left;rw[e];rfl
   right;right;exact Int.sign_eq_one_of_pos e
  rw[cS (by omega) (by omega),Int.zero_sub]
 ·rw[if_pos h1]at hv;rw[<-hv,<-tG (by omega),h1];rfl
 rw[if_neg (by omega)]at hv;rw[Int.sign_eq_one_of_pos h1,<-hv,<-tG h1];rfl
theorem iQ{x:Rat}:oK x 0=0↔x=0:=by
 unfold oK;by_cases h:x<0
 ·rw[if_pos h];refine⟨λe=>absurd e (by decide),λe=>?_⟩;rw[e]at h;exact absurd h Rat.lt_irrefl
 rw[if_neg h];by_cases h2:x=0
 ·rw[if_pos h2];simp[h2]
 rw[if_neg h2];simp[h2]
theorem kA.div(ha:kA L a x)(hb:kA M b y)(h:L+M<=4000000000)(h0:y≠0):oh a b=some (qn (x/y),0)/\kA (L+M) (qn (x/y)) (x/y):=by
 have l1:=ha.l1;refine⟨?_,(ha.fq.div hb.fq h0).rep (by omega)⟩;obtain⟨n1,d1,c1,e1,k1⟩:=lJ ha (by omega);obtain⟨n2,d2,c2,e2,k2⟩:=lJ hb (by omega);obtain⟨p1,q1,f1,w1,w2,g1,v1,t1,t2⟩:=parts_eq ha (by omega);obtain⟨p2,q2,f2,w3,w4,g2,v2,t3,t4⟩:=parts_eq hb (by omega);have hdiv:∀a b c d:Int,Rat.divInt a b/Rat.divInt c d=Rat.divInt (a*d) (b*c):=λa b c d=>by rw[Rat.div_def,Rat.inv_divInt,Rat.divInt_mul_divInt]
 have Z4:∀a b:Int,Rat.divInt a b=y->a≠0:=λa b e e'=>h0 (by rw[<-e,e',Rat.zero_divInt]);have BZ:hH a b=some (qn (x/y)):=by
  unfold hH gU;have u1:=jQ (t1.mul t4) (by omega);have u3:=jQ (t2.mul t3) (by omega);simp only[zeta',tH,tJ,f1,f2,cq,mul_eq w1 w4,mul_eq w2 w3];rw[reduce_eq u1 u3 (by rw[fL];exact Int.mul_ne_zero (by omega) (Z4 _ _ v2)),cq,fL,fL,<-v1,<-v2,hdiv]
 unfold oh;simp only[zeta',tH,tJ,hb.sign (by omega),e1,e2,cq,cQ,BZ];rw[decide_eq_false (λe=>h0 (iQ.1 e)),jt];cases c1
 ·rw[jt,cq,jt]
 cases c2
 ·rw[iV,cq,jt]
 obtain⟨s1,s2,s3,s4⟩:=k1 Y;obtain⟨s5,s6,s7,s8⟩:=k2 Y;have hn2:=Z4 _ _ s8;have m1:=iP s1 s7;have m3:=iP s3 s5;rw[iV,cq,iV];unfold Sm at s1 s3 s5 s7;by_cases hneg:n2<0
 ·have m4:=pD s2 (show 0< -n2 by omega);have m5:(-n1)*d2=-(n1*d2):=Int.neg_mul _ _;have m6:d1*(-n2)=-(d1*n2):=Int.mul_neg _ _;rw[decide_eq_true hneg,iV,cS (x:=0-n1) (by omega) (by omega),cS (x:=0-n2) (by omega) (by omega),Int.zero_sub,Int.zero_sub,cS (by omega) (by omega),cS (by omega) (by omega),qB m4 (by omega) (by omega) (by omega),cq,m5,m6,Rat.neg_divInt_neg,<-s4,<-s8,hdiv]
 have m4:=pD s2 (show 0<n2 by omega);rw[decide_eq_false hneg,jt,cS (by omega) (by omega),cS (by omega) (by omega),qB m4 (by omega) (by omega) (by omega),cq,<-s4,<-s8,hdiv]
theorem kA.canon(ha:kA L a x)(h:L<=10000000000):cH a=some (qn x)/\kA L (qn x) x:=by
 refine⟨?_,ha.fq.rep ha.l1⟩;obtain⟨n1,d1,c1,e1,k1⟩:=lJ ha (by omega);obtain⟨p1,q1,f1,w1,w2,g1,v1,t1,t2⟩:=parts_eq ha (by omega);unfold cH;simp only[zeta',tH,tJ,e1,cq,f1];cases c1
 ·rw[jt,reduce_eq w1 w2 (by omega),cq,v1]
 obtain⟨s1,s2,s3,s4⟩:=k1 Y;unfold Sm at s1 s3;rw[iV,qB s2 (by omega) (by omega) (by omega),cq,s4]
end ops
end
section
open Go.Fw
theorem Dn{p q u v:Int}(hq:0<q)(hv:0<v)(h:p.sign≠u.sign\/p.sign=0):o7 (IntKind.i64.wrap (p.sign-u.sign))=some (qx (p*v) (u*q)):=by
 have pv:0<p->0<p*v:=λh=>Int.mul_pos h hv;have pv':p<0->p*v<0:=λh=>Int.mul_neg_of_neg_of_pos h hv;have uq:0<u->0<u*q:=λh=>Int.mul_pos h hq;have uq':u<0->u*q<0:=λh=>Int.mul_neg_of_neg_of_pos h hq;rcases Int.lt_trichotomy p 0 with e1|e1|e1<;>rcases Int.lt_trichotomy u 0 with e2|e2|e2
 ·rw[Int.sign_eq_neg_one_of_neg e1,Int.sign_eq_neg_one_of_neg e2]at h;simp at h
 ·have:=pv' e1;rw[Int.sign_eq_neg_one_of_neg e1,e2,Int.zero_mul,mG this];rfl
 ·have:=pv' e1;have:=uq e2;rw[Int.sign_eq_neg_one_of_neg e1,Int.sign_eq_one_of_pos e2,mG (by omega)];rfl
 ·have:=uq' e2;rw[Int.sign_eq_neg_one_of_neg e2,e1,Int.zero_mul,mH this];rfl
 ·rw[e1,e2,Int.zero_mul,Int.zero_mul];rfl
 ·have:=uq e2;rw[Int.sign_eq_one_of_pos e2,e1,Int.zero_mul,mG this];rfl
 ·have:=pv e1;have:=uq' e2;rw[Int.sign_eq_one_of_pos e1,Int.sign_eq_neg_one_of_neg e2,mH (by omega)];rfl
 ·have:=pv e1;rw[Int.sign_eq_one_of_pos e1,e2,Int.zero_mul,mH this];rfl
 rw[Int.sign_eq_one_of_pos e1,Int.sign_eq_one_of_pos e2]at h;simp at h
theorem N0{x y:Rat}:oK x y=0↔x=y:=by
 unfold oK;by_cases h:x<y
 ·rw[if_pos h];refine⟨λe=>absurd e (by decide),λe=>?_⟩;rw[e]at h;exact absurd h Rat.lt_irrefl
 rw[if_neg h];by_cases h2:x=y
 ·rw[if_pos h2];simp[h2]
 rw[if_neg h2];simp[h2]
theorem G7{x y:Rat}:oK x y<0↔x<y:=by
 unfold oK;by_cases h:x<y
 ·rw[if_pos h];simp[h]
 rw[if_neg h];by_cases h2:x=y
 ·rw[if_pos h2];simp[h2,Rat.lt_irrefl]
 rw[if_neg h2];simp[h]
theorem Vz(i:Int):qn (i:Rat)=⟨zn i,⟨false,[]⟩⟩:=by
 unfold qn;rw[Rat.den_intCast,if_pos Y,Rat.num_intCast]
section ops
variable {L M:Nat}{a b:Qr}{x y:Rat}
theorem kA.neg(ha:kA L a x)(h:L<=10000000000):l9 a=some (qn (-x))/\kA L (qn (-x)) (-x):=by
 refine⟨?_,ha.fq.neg.rep ha.l1⟩;unfold l9;have r:=(ha.canon h).2;simp only[zeta',tH,tJ,(ha.canon h).1,cq,neg_eq (r.wn h)];show some (⟨zn (-zi (zn x.num)),_⟩:Qr)=some (qn (-x));rw[fL];rfl
theorem kA.cmp(ha:kA L a x)(hb:kA M b y)(h:L+M<=4000000000):om a b=some (oK x y):=by
 obtain⟨p1,q1,f1,w1,w2,g1,v1,t1,t2⟩:=parts_eq ha (by omega);obtain⟨p2,q2,f2,w3,w4,g2,v2,t3,t4⟩:=parts_eq hb (by omega);unfold om;have u1:=jQ (t1.mul t4) (by omega);have u2:=jQ (t3.mul t2) (by omega);simp only[zeta',tH,tJ,f1,f2,cq,cQ,sign_eq w1,sign_eq w3,mul_eq w1 w4,mul_eq w3 w2,Vv u1 u2,fL];rw[<-v1,<-v2,G4 g1 g2];by_cases e1:(zi p1).sign=(zi p2).sign
 ·rw[show decide ((zi p1).sign≠(zi p2).sign)=false by simp[e1],jt,cq];by_cases e2:(zi p1).sign=0
  ·rw[decide_eq_true e2,iV,Dn g1 g2 (.inr e2),cq]
  rw[decide_eq_false e2,jt]
 rw[show decide ((zi p1).sign≠(zi p2).sign)=true by simp[e1],iV,cq,iV,Dn g1 g2 (.inl e1),cq]
theorem lK{n:Int}(hn:fz n):cG n=some (qn (n:Rat))/\kA 2 (qn (n:Rat)) (n:Rat):=by
 refine⟨?_,(FQ.int (KE hn) (by decide)).rep (by decide)⟩;unfold cG;simp only[zeta',cq,mz hn.1 hn.2];rw[Vz]
end ops
end
section
open Go.Fw
def vq(n:Nat)(h:Nat->Rat):List Qr:=(List.range n).map λi=>qn (h i)
structure dA (L:Nat) (v:List Qr) (f:Nat->Rat):Prop where
 e:∀i (h:i<v.length),kA L v[i] (f i)
 z:∀i,v.length<=i->f i=0
 l1:1<=L
theorem bY(n:Nat)(h:Nat->Rat):(vq n h).length=n:=by simp[vq]
theorem lM{n i:Nat}{h:Nat->Rat}(hi:i<n):(vq n h)[i]? =some (qn (h i)):=by simp[vq,hi]
theorem Qi{n i:Nat}{h:Nat->Rat}(hi:i<(vq n h).length):(vq n h)[i]=qn (h i):=by simp[vq]
theorem xC(n:Nat)(h:Nat->Rat):vq (n+1) h=vq n h++[qn (h n)]:=by simp[vq,List.range_succ]
theorem fB{n:Nat}{h k:Nat->Rat}(e:∀i,i<n->h i=k i):vq n h=vq n k:=by
 unfold vq;apply List.map_congr_left;intro i hi;rw[e i (List.mem_range.1 hi)]
theorem nA{L n:Nat}{h:Nat->Rat}(hf:∀i,i<n->FQ L (h i))(hz:∀i,n<=i->h i=0)(h1:1<=L):dA L (vq n h) h:=by
 refine⟨λi hi=>?_,λi hi=>hz i (by rwa[bY]at hi),h1⟩;rw[Qi hi];exact(hf i (by rwa[bY]at hi)).rep h1
def qz:Qr:=⟨⟨false,[]⟩,⟨false,[]⟩⟩
theorem Qj:qn 0=qz:=rfl
theorem G9{L:Nat}(h:1<=L):kA L qz 0:=⟨by simp[qz],by simp[qz],by simp[qz],by simp[qz],h,by decide⟩
theorem ur{L:Nat}(h:1<=L):FQ L 0:=(G9 h).fq
def Wp(v:List Qr)(i:Nat):Qr:=v.getD i qz
theorem dA.at{L:Nat}{v:List Qr}{f:Nat->Rat}(h:dA L v f)(i:Nat):kA L (Wp v i) (f i):=by
 unfold Wp;by_cases hi:i<v.length
 ·rw[List.getD_eq_getElem?_getD,List.getElem?_eq_getElem hi];exact h.e i hi
 rw[List.getD_eq_getElem?_getD,List.getElem?_eq_none (by omega),h.z i (by omega)];exact G9 h.l1
theorem dA.fq{L:Nat}{v:List Qr}{f:Nat->Rat}(h:dA L v f)(i:Nat):FQ L (f i):=(h.at i).fq
theorem dA.mono{L M:Nat}{v:List Qr}{f:Nat->Rat}(h:dA L v f)(hl:L<=M):dA M v f:=⟨λi hi=>(h.e i hi).mono hl,h.z,Nat.le_trans h.l1 hl⟩
theorem dA.nil{L:Nat}(h:1<=L):dA L [] (λ_=>0):=⟨λi hi=>by simp at hi,λ_ _=>Y,h⟩
theorem dA.get{L:Nat}{v:List Qr}{f:Nat->Rat}(h:dA L v f){i:Nat}(hi:i<v.length):∃q,v[i]? =some q/\kA L q (f i):=⟨v[i],by simp,h.e i hi⟩
theorem dA.congr{L:Nat}{v:List Qr}{f g:Nat->Rat}(h:dA L v f)(e:∀i,f i=g i):dA L v g:=by
 have:f=g:=funext e;rw[<-this];exact h
def CS(v:List Qr)(i:Nat):Rat:=qv (Wp v i)
theorem Jx{L:Nat}{v:List Qr}(h:∀q∈v,kA L q (qv q))(h1:1<=L):dA L v (CS v):=by
 refine⟨λi hi=>?_,λi hi=>?_,h1⟩
 ·have e:Wp v i=v[i]:=by unfold Wp;rw[List.getD_eq_getElem?_getD,List.getElem?_eq_getElem hi];rfl
  unfold CS;rw[e];exact h _ (List.getElem_mem hi)
 unfold CS Wp;rw[List.getD_eq_getElem?_getD,List.getElem?_eq_none hi];decide
def bP(h:Nat->Rat):Nat->Rat
 |0=>0
 |n+1=>bP h n+h n
theorem cY{h k:Nat->Rat}:∀{n:Nat},(∀i,i<n->h i=k i)->bP h n=bP k n
 |0,_=>rfl
 |n+1,e=>by rw[bP,bP,cY (λi hi=>e i (by omega)),e n (by omega)]
theorem B0(h k:Nat->Rat):∀n,bP (λi=>h i+k i) n=bP h n+bP k n
 |0=>by simp only[bP];grind
 |n+1=>by rw[bP,bP,bP,B0 h k n];grind
theorem xD(h k:Nat->Rat):∀n,bP (λi=>h i-k i) n=bP h n-bP k n
 |0=>by simp only[bP];grind
 |n+1=>by rw[bP,bP,bP,xD h k n];grind
theorem oL(c:Rat)(h:Nat->Rat):∀n,bP (λi=>c*h i) n=c*bP h n
 |0=>by simp[bP]
 |n+1=>by rw[bP,bP,oL c h n];grind
theorem jG:∀n,bP (λ_=>0) n=0
 |0=>rfl
 |n+1=>by rw[bP,jG n];grind
theorem N1{h:Nat->Rat}{n m:Nat}(hnm:n<=m)(hz:∀i,n<=i->i<m->h i=0):bP h m=bP h n:=by
 induction m with
 |zero=>rw[show n=0 by omega]
 |succ m ih=>
  rcases Nat.lt_or_ge m n with q|q
  ·rw[show n=m+1 by omega]
  rw[bP,ih q (λi h1 h2=>hz i h1 (by omega)),hz m q (by omega)];grind
theorem EI{L:Nat}{h:Nat->Rat}:∀{n:Nat},(∀i,i<n->FQ L (h i))->FQ (n*(L+1)+1) (bP h n)
 |0,_=>ur (by omega)
 |n+1,e=>by
  rw[bP];exact((EI (λi hi=>e i (by omega))).add (e n (by omega))).mono (by rw[Nat.add_mul];omega)
theorem kJ{h:Nat->Rat}{n k:Nat}(hk:k<n)(hz:∀i,i<n->i≠k->h i=0):bP h n=h k:=by
 induction n with
 |zero=>omega
 |succ n ih=>
  rw[bP];rcases Nat.lt_or_ge k n with q|q
  ·rw[ih q (λi h1 h2=>hz i (by omega) h2),hz n (by omega) (by omega)];grind
  obtain rfl:k=n:=by omega
  rw[cY (k:=λ_=>0) (λi hi=>hz i (by omega) (by omega)),jG];grind
end
section
open Go.Fw
theorem Jy{α β:Type}(a:List α)(b:List β):max (a.length:Int) (b.length:Int)=((max a.length b.length:Nat):Int):=by omega
theorem Jz{α β:Type}(a:List α)(b:List β):min (a.length:Int) (b.length:Int)=((min a.length b.length:Nat):Int):=by omega
theorem dA.gd{L:Nat}{v:List Qr}{f:Nat->Rat}(h:dA L v f)(k:Nat):kA L (v.getD k (⟨⟨false,[]⟩,⟨false,[]⟩⟩:Qr)) (f k):=h.at k
theorem EJ{n k:Nat}{h:Nat->Rat}(hk:k<n):(vq k h++List.replicate (n-k) qz).set k (qn (h k))=vq (k+1) h++List.replicate (n-(k+1)) qz:=by
 rw[show n-k=(n-(k+1))+1 by omega,List.replicate_succ,List.set_append_right _ _ (by rw[bY];exact Nat.le_refl _),bY,Nat.sub_self,xC,List.append_assoc];rfl
theorem VA{n c:Nat}{h:Nat->Rat}(hc:c<=n)(hz:∀i,c<=i->i<n->h i=0):vq c h++List.replicate (n-c) qz=vq n h:=by
 induction n with
 |zero=>rw[show c=0 by omega];rfl
 |succ n ih=>
  rcases Nat.lt_or_ge n c with q|q
  ·rw[show c=n+1 by omega,Nat.sub_self];simp
  rw[show n+1-c=(n-c)+1 by omega,List.replicate_succ',<-List.append_assoc,ih q (λi h1 h2=>hz i h1 (by omega)),xC,hz n q (by omega),Qj]
theorem rG{n k:Nat}{h:Nat->Rat}(hk:k<=n):(vq k h++List.replicate (n-k) qz).length=n:=by rw[List.length_append,bY,List.length_replicate];omega
section ops
variable {K L M:Nat}{c:Qr}{a b:List Qr}{k:Rat}{f g:Nat->Rat}
theorem Za(ha:dA L a f)(hb:dA M b g)(h:L+M<=4000000000)(la:a.length<=1000000)(lb:b.length<=1000000):mg a b=some (vq (max a.length b.length) λi=>f i-g i)/\dA (L+M+1) (vq (max a.length b.length) λi=>f i-g i) (λi=>f i-g i):=by
 refine⟨?_,nA (λi _=>(ha.fq i).sub (hb.fq i)) (λi hi=>?_) (by omega)⟩
 ·unfold mg mB;refine aA (a:=vq (max a.length b.length) (λi=>f i-g i)) ?_ Y;refine aA Y<|aA Y<|aA (congrArg some (Jy a b))<|aA (BT (by omega) (by omega)) ?_;refine mw (λk=>vq k (λi=>f i-g i)) Y (λk hk=>?_) Y;have e3:=((ha.gd k).sub (hb.gd k) h).1;generalize a.getD k (⟨⟨false,[]⟩,⟨false,[]⟩⟩:Qr)=q1 at e3⊢;generalize b.getD k (⟨⟨false,[]⟩,⟨false,[]⟩⟩:Qr)=q2 at e3⊢;obtain⟨⟨_,_⟩,⟨_,_⟩⟩:=q1;obtain⟨⟨_,_⟩,⟨_,_⟩⟩:=q2;obtain⟨q3,h3⟩:∃q,qn (f k-g k)=q:=⟨_,Y⟩;rw[xC,h3];rw[h3]at e3;obtain⟨⟨_,_⟩,⟨_,_⟩⟩:=q3;refine aA Y<|aA Y<|aA e3<|aA (zQ (by omega) (by rw[bY];omega)) Y
 rw[ha.z i (by omega),hb.z i (by omega)];grind
theorem N2(hc:kA K c k)(ha:dA L a f)(hb:dA M b g)(h:K+L+M<=4000000000)(la:a.length<=1000000)(lb:b.length<=1000000):eD c a b=some (vq (max a.length b.length) λi=>k*f i+g i)/\dA (K+L+M+1) (vq (max a.length b.length) λi=>k*f i+g i) (λi=>k*f i+g i):=by
 refine⟨?_,nA (λi _=>(hc.fq.mul (ha.fq i)).add (hb.fq i)) (λi hi=>?_) (by omega)⟩
 ·unfold eD jx;obtain⟨⟨_,_⟩,⟨_,_⟩⟩:=c;refine aA (a:=vq (max a.length b.length) (λi=>k*f i+g i)) ?_ Y;refine aA Y<|aA Y<|aA (congrArg some (Jy a b))<|aA (BT (by omega) (by omega)) ?_;refine mw (λj=>vq j (λi=>k*f i+g i)) Y (λj hj=>?_) Y;have e1:=hc.mul (ha.gd j) (by omega);have e3:=(e1.2.add (hb.gd j) (by omega)).1;replace e1:=e1.1;generalize a.getD j (⟨⟨false,[]⟩,⟨false,[]⟩⟩:Qr)=q1 at e1⊢;generalize b.getD j (⟨⟨false,[]⟩,⟨false,[]⟩⟩:Qr)=q2 at e3⊢;obtain⟨⟨_,_⟩,⟨_,_⟩⟩:=q1;obtain⟨⟨_,_⟩,⟨_,_⟩⟩:=q2;generalize qn (k*f j)=q4 at e1 e3;obtain⟨⟨_,_⟩,⟨_,_⟩⟩:=q4;obtain⟨q3,h3⟩:∃q,qn (k*f j+g j)=q:=⟨_,Y⟩;rw[xC,h3];rw[h3]at e3;obtain⟨⟨_,_⟩,⟨_,_⟩⟩:=q3;refine aA Y<|aA Y<|aA (aA e1<|aA e3 Y)<|aA (zQ (by omega) (by rw[bY];omega)) Y
 rw[ha.z i (by omega),hb.z i (by omega)];grind
theorem N3(hc:kA K c k)(ha:dA L a f)(h:K+L<=4000000000)(la:a.length<=1000000):jo c a=some (vq a.length λi=>k*f i)/\dA (K+L) (vq a.length λi=>k*f i) (λi=>k*f i):=by
 have SR:=ha.l1;refine⟨?_,nA (λi _=>hc.fq.mul (ha.fq i)) (λi hi=>?_) (by omega)⟩
 ·unfold jo;obtain⟨⟨_,_⟩,⟨_,_⟩⟩:=c;refine aA Y<|aA (rA (by omega) (by omega))<|aA Y ?_;refine bN (λj=>((j:Int),vq j (λi=>k*f i)++List.replicate (a.length-j) qz)) a.length (vq a.length λi=>k*f i) Y (λj hj=>?_) ?_ Y
  ·obtain⟨q,hq,rq⟩:=ha.get hj;have e3:=(hc.mul rq h).1;obtain⟨q3,h3⟩:∃q,qn (k*f j)=q:=⟨_,Y⟩;have h4:=EJ (h:=λi=>k*f i) hj;rw[h3]at e3 h4;obtain⟨⟨_,_⟩,⟨_,_⟩⟩:=q;obtain⟨⟨_,_⟩,⟨_,_⟩⟩:=q3;refine aA Y<|bQ (decide_eq_true (by omega))<|aA (bL hq)<|aA e3<|aA (cL (by rw[rG (by omega)];exact hj))<|aA (fG (by rw[rG (by omega)];exact hj))<|aA Y ?_;rw[bX (by omega),h4]
  refine aA Y<|bJ (decide_eq_false (by omega)) ?_;simp
 rw[ha.z i hi];grind
end ops
end
section
open Go.Fw
def oM(f g:Nat->Rat):Nat->Int
 |0=>0
 |n+1=>if oM f g n≠0 then oM f g n else oK (f n) (g n)
theorem B3{f g:Nat->Rat}:∀{n:Nat},oM f g n=0↔∀i,i<n->f i=g i
 |0=>by simp[oM]
 |n+1=>by
  rw[oM];by_cases h:oM f g n=0
  ·rw[if_neg (by simpa using h),N0];have:=B3.1 h;refine⟨λe i hi=>?_,λe=>e n (by omega)⟩;rcases Nat.lt_or_ge i n with q|q
   ·exact this i q
   obtain rfl:i=n:=by omega
   exact e
  rw[if_pos h];refine⟨λe=>absurd e h,λe=>absurd (B3.2 (λi hi=>e i (by omega))) h⟩
section ops
variable {K L M:Nat}{c:Qr}{a b:List Qr}{k:Rat}{f g:Nat->Rat}
theorem afu{x y z:Rat}{p q r:Qr}(hp:kA K p x)(hq:kA L q y)(hr:kA M r z)(hz:r=qn z)(h:K+L+M<=4000000000):mX p q r=some (qn (z+x*y)):=by
 have e1:=hp.mul hq (by omega);have e2:=(hr.add e1.2 (by omega)).1;have s1:=hp.sign (by omega);have s2:=hq.sign (by omega);replace e1:=e1.1;obtain⟨⟨_,_⟩,⟨_,_⟩⟩:=p;obtain⟨⟨_,_⟩,⟨_,_⟩⟩:=q;obtain⟨⟨_,_⟩,⟨_,_⟩⟩:=r;generalize qn (x*y)=w at e1 e2;obtain⟨⟨_,_⟩,⟨_,_⟩⟩:=w;unfold mX;refine aA s1<|aA Y ?_;by_cases h1:x=0
 ·refine aA (bJ (decide_eq_false (by rw[h1,uo];simp)) Y) ?_;rw[show z+x*y=z by rw[h1];grind,<-hz];rfl
 by_cases h2:y=0
 ·refine aA (bQ (decide_eq_true (λe=>h1 (iQ.1 e))) (aA s2 (aA Y Y))) ?_;refine bJ (decide_eq_false (by rw[h2,uo];simp)) ?_;rw[show z+x*y=z by rw[h2];grind,<-hz]
 refine aA (bQ (decide_eq_true (λe=>h1 (iQ.1 e))) (aA s2 (aA Y Y))) ?_;refine bQ (decide_eq_true (λe=>h2 (iQ.1 e))) ?_;obtain⟨w3,h3⟩:∃w,qn (z+x*y)=w:=⟨_,Y⟩;rw[h3]at e2⊢;obtain⟨⟨_,_⟩,⟨_,_⟩⟩:=w3;exact aA e1<|aA e2 Y
theorem JA{n i:Nat}(hi:i<n):(a.take n).getD i (⟨⟨false,[]⟩,⟨false,[]⟩⟩:Qr)=a.getD i (⟨⟨false,[]⟩,⟨false,[]⟩⟩:Qr):=by
 simp[List.getD,List.getElem?_take,hi]
theorem yM(q:Qr):(⟨⟨(q.num.neg,q.num.w,q.den.neg,q.den.w).1,(q.num.neg,q.num.w,q.den.neg,q.den.w).2.1⟩,⟨(q.num.neg,q.num.w,q.den.neg,q.den.w).2.2.1,(q.num.neg,q.num.w,q.den.neg,q.den.w).2.2.2⟩⟩:Qr)=q:=by cases q;rfl
theorem Zb(ha:dA L a f)(hb:dA M b g)(h:(min a.length b.length+2)*(L+M+1)<=4000000000):jy a b=some (qn (bP (λi=>f i*g i) (min a.length b.length)))/\kA (min a.length b.length*(L+M+1)+1) (qn (bP (λi=>f i*g i) (min a.length b.length))) (bP (λi=>f i*g i) (min a.length b.length)):=by
 have hs:∀n,FQ (n*(L+M+1)+1) (bP (λi=>f i*g i) n):=λn=>EI (λi _=>(ha.fq i).mul (hb.fq i));refine⟨?_,(hs _).rep (by omega)⟩;unfold jy;have hm:∀n:Nat,n<=min a.length b.length->n*(L+M+1)<=min a.length b.length*(L+M+1):=λn hn=>Nat.mul_le_mul_right _ hn;rw[Nat.add_mul]at h;refine aA Y<|aA Y<|aA (congrArg some (Jz a b))<|aA (nV (by omega))<|aA (nV (by omega)) ?_;rw[show max (a.take (min a.length b.length)).length (b.take (min a.length b.length)).length=min a.length b.length by simp only[List.length_take];omega];refine mw (λj=>((qn (bP (λi=>f i*g i) j)).num.neg,(qn (bP (λi=>f i*g i) j)).num.w,(qn (bP (λi=>f i*g i) j)).den.neg,(qn (bP (λi=>f i*g i) j)).den.w)) Y (λj hj=>?_) Y;have hmj:=hm j (by omega);have e1:=afu (ha.gd j) (hb.gd j) ((hs j).rep (by omega)) Y (by omega);simp only[bP];generalize hq0:qn (bP (λi=>f i*g i) j)=q0 at e1⊢;generalize hq3:qn (bP (λi=>f i*g i) j+f j*g j)=q3 at e1⊢;rw[<-JA (a:=a) hj,<-JA (a:=b) hj]at e1;generalize (a.take (min a.length b.length)).getD j (⟨⟨false,[]⟩,⟨false,[]⟩⟩:Qr)=q1 at e1⊢;generalize (b.take (min a.length b.length)).getD j (⟨⟨false,[]⟩,⟨false,[]⟩⟩:Qr)=q2 at e1⊢;obtain⟨⟨_,_⟩,⟨_,_⟩⟩:=q0;obtain⟨⟨_,_⟩,⟨_,_⟩⟩:=q1;obtain⟨⟨_,_⟩,⟨_,_⟩⟩:=q2
 obtain⟨⟨_,_⟩,⟨_,_⟩⟩:=q3;exact aA Y<|aA Y<|aA e1 Y
theorem Zc(ha:dA L a f)(hb:dA M b g)(h:L+M<=4000000000):iL a b=some (oM f g (max a.length b.length)):=by
 unfold iL;generalize max a.length b.length=n;refine aA (a:=if oM f g n≠0 then .inr (oM f g n)else .inl ()) ?_ ?_
 ·induction n with
  |zero=>rfl
  |succ n ih=>
   rw[n8];refine aA ih ?_;by_cases h0:oM f g n=0
   ·have hl:oM f g (n+1)=oK (f n) (g n):=by rw[oM,if_neg (by simpa using h0)]
    rw[hl,if_neg (show ¬oM f g n≠0 by simpa using h0)];have e1:=(ha.gd n).cmp (hb.gd n) h;generalize a.getD n (⟨⟨false,[]⟩,⟨false,[]⟩⟩:Qr)=q1 at e1⊢;generalize b.getD n (⟨⟨false,[]⟩,⟨false,[]⟩⟩:Qr)=q2 at e1⊢;obtain⟨⟨_,_⟩,⟨_,_⟩⟩:=q1;obtain⟨⟨_,_⟩,⟨_,_⟩⟩:=q2;refine aA Y<|aA Y<|aA e1<|aA Y ?_;by_cases h1:oK (f n) (g n)=0
    ·rw[if_neg (by simpa using h1)];exact bJ (decide_eq_false (by simpa using h1)) Y
    rw[if_pos h1];exact bQ (decide_eq_true h1) Y
   have hl:oM f g (n+1)=oM f g n:=by rw[oM,if_pos h0]
   rw[hl,if_pos h0]
 by_cases h0:oM f g n=0
 ·rw[if_neg (by simpa using h0),h0]
 rw[if_pos h0]
theorem Zd(ha:dA L a f)(h:L+1<=4000000000):ou a=some (oM f (λ_=>0) a.length):=by
 unfold ou;refine aA (Zc ha (dA.nil (L:=1) (by omega)) h) ?_;simp
theorem veq(ha:dA L a f)(hb:dA M b g)(h:L+M<=4000000000):dH a b=some (decide (∀i,i<max a.length b.length->f i=g i)):=by
 unfold dH;refine aA (Zc ha hb h)<|aA Y ?_;congr 1;rw[decide_eq_decide];exact B3
theorem Ze(ha:dA L a f)(hb:dA M b g)(h:L+M<=4000000000)(e:∀i,f i=g i):dH a b=some true:=by
 rw[veq ha hb h,decide_eq_true (λi _=>e i)]
end ops
end
section
open Go.Fw
theorem tm{a:Nat}:Int.tmod (a:Int) 65536=((a%65536:Nat):Int):=by
 rw[Int.tmod_eq_emod_of_nonneg (by omega)];omega
end
section
open Go.Fw
theorem bZ{J R:Type}{f:J->Option R}{g:(J->Option R)->Option R}{r:Option R}(h:g f=r):cQ f g=r:=h
section ops
variable {K L M:Nat}{c:Qr}{a b:List Qr}{k:Rat}{f g:Nat->Rat}
theorem He(ha:dA L a f)(h:L<=10000000000)(m:Nat)(hm:m<=65536){body:Int×List Qr->Option ((Int×List Qr)⊕List Qr)}
  (hb:∀s,body s=(some (decide (s.1<((min a.length m:Nat):Int)))).bind λfC=>(bif fC then(cW a s.1).bind λq=>(cH q).bind λw=>(oP s.2 s.1).bind λlQ=>(stM s.2 lQ w).bind λrP=>(some (IntKind.i64.wrap (s.1+1))).bind λnq=>some (.inl (nq,rP))else some (.inr s.2))):
  (cu body (0,List.replicate m qz)).bind (λr=>some r)=some (vq m f):=by
 refine bN (λj=>((j:Int),vq j f++List.replicate (m-j) qz)) (min a.length m) (vq m f) Y (λj hj=>?_) ?_ Y
 ·obtain⟨q,hq,rq⟩:=ha.get (show j<a.length by omega);rw[hb];refine aA Y<|bQ (decide_eq_true (by show(j:Int)<_;omega))<|aA (bL hq)<|aA (rq.canon h).1<|aA (cL (by rw[rG (by omega)];omega))<|aA (fG (by rw[rG (by omega)];omega))<|aA Y ?_;rw[EJ (by omega),bX (by omega)]
 rw[hb];refine aA Y<|bJ (decide_eq_false (by show ¬((min a.length m:Nat):Int)<_;omega)) ?_;rw[VA (by omega) (λi h1 h2=>ha.z i (by omega))]
theorem Ao(ha:dA L a f)(h:L<=10000000000)(la:a.length<=1000000)(n:Int):gy a n=some (vq (min n 65536).toNat f):=by
 unfold gy;refine aA Y ?_;by_cases hn:n<1
 ·refine bQ (decide_eq_true hn) ?_;rw[show(min n 65536).toNat=0 by omega];rfl
 refine bJ (decide_eq_false hn) ?_;obtain⟨m,hm⟩:∃m:Nat,min n 65536=(m:Int):=⟨(min n 65536).toNat,by omega⟩;rw[hm];refine aA Y<|aA (rA (by omega) (by omega))<|aA Y<|aA Y<|aA (congrArg some (Jz a _)) ?_;rw[List.length_replicate];refine He ha h m (by omega) (λs=>?_);obtain⟨i,l⟩:=s;rfl
theorem N4(ha:dA L a f)(h:L<=10000000000)(la:a.length<=1000000)(n:Int):mD a n=some (vq (min n 65536).toNat f):=by
 rw[<-Ao ha h la n];rfl
theorem xE{l:List Int}(hl:∀x∈l,fz x)(h:l.length<=1000000):cX l=some (vq l.length λi=>((l.getD i 0:Int):Rat))/\dA 2 (vq l.length λi=>((l.getD i 0:Int):Rat)) (λi=>((l.getD i 0:Int):Rat)):=by
 have hx:∀i,fz (l.getD i 0):=λi=>by
  by_cases hi:i<l.length
  ·rw[List.getD_eq_getElem?_getD,List.getElem?_eq_getElem hi];exact hl _ (List.getElem_mem hi)
  rw[List.getD_eq_getElem?_getD,List.getElem?_eq_none (by omega)];decide
 refine⟨?_,nA (λi _=>(lK (hx i)).2.fq) (λi hi=>?_) (by decide)⟩
 ·unfold cX;refine aA Y<|aA (rA (by omega) (by omega))<|aA Y ?_;refine bN (λj=>((j:Int),vq j (λi=>((l.getD i 0:Int):Rat))++List.replicate (l.length-j) qz)) l.length (vq l.length λi=>((l.getD i 0:Int):Rat)) Y (λj hj=>?_) ?_ Y
  ·have e3:=(lK (hx j)).1;have h4:=EJ (h:=λi=>((l.getD i 0:Int):Rat)) hj;obtain⟨q3,h3⟩:∃q,qn ((l.getD j 0:Int):Rat)=q:=⟨_,Y⟩;rw[h3]at e3 h4;obtain⟨⟨_,_⟩,⟨_,_⟩⟩:=q3;refine aA Y<|bQ (decide_eq_true (by omega))<|aA (bL (ey hj))<|aA e3<|aA (cL (by rw[rG (by omega)];exact hj))<|aA (fG (by rw[rG (by omega)];exact hj))<|aA Y ?_;rw[bX (by omega),h4]
  refine aA Y<|bJ (decide_eq_false (by omega)) ?_;simp
 show((l.getD i 0:Int):Rat)=0;rw[iq hi];rfl
end ops
end
section
open Go.Fw
theorem N5(l:List Qr)(hl:l.length<=1000000):∃b,lu l=some b/\(b=false->∀q∈l,q.num.w.length<=6/\q.den.w.length<=6):=by
 unfold lu;simp only[cq];refine nT (λy=>∃i:Nat,y=(i:Int)/\i<=l.length/\∀z∈l.take i,z.num.w.length<=6/\z.den.w.length<=6) (λe=>(∃c,e=.inl c/\∀z∈l,z.num.w.length<=6/\z.den.w.length<=6)\/e=.inr true) (λy=>l.length-y.toNat) ?_ ⟨0,Y,by omega,by simp⟩ ?_
 ·rintro _ ⟨i,rfl,hi,ht⟩;by_cases hlt:i<l.length
  ·have g:l[i]? =some l[i]:=by simp
   obtain⟨q,hq⟩:∃q,l[i]=q:=⟨_,Y⟩;rw[hq]at g;obtain⟨z,w⟩:=q;obtain⟨b,hb,-⟩:=Qg [z,w] (by simp);rw[show decide ((i:Int)<(l.length:Int))=true by simp[hlt],iV];simp only[bL g,cq,zeta',cQ,hb];cases b
   ·rw[jt,cq];by_cases h1:6<z.w.length
    ·right;rw[decide_eq_true (by omega),iV,cq,iV];exact⟨_,Y,.inr Y⟩
    rw[decide_eq_false (by omega),jt,cq];by_cases h2:6<w.w.length
    ·right;rw[decide_eq_true (by omega),iV];exact⟨_,Y,.inr Y⟩
    left;rw[decide_eq_false (by omega),jt,bX (by omega)];refine⟨_,Y,⟨i+1,Y,hlt,?_⟩,by omega⟩;rw[List.take_add_one,g];intro u hu;rcases List.mem_append.1 hu with h|h
    ·exact ht u h
    simp at h;rw[h];exact⟨by simp only[];omega,by simp only[];omega⟩
   right;exact⟨_,Y,.inr Y⟩
  right;rw[show decide ((i:Int)<(l.length:Int))=false by simp;omega,jt];rw[List.take_of_length_le (by omega)]at ht;exact⟨_,Y,.inl ⟨_,Y,ht⟩⟩
 rintro e (⟨c,rfl,he⟩|rfl)
 ·exact⟨false,Y,λ_=>he⟩
 exact⟨true,rfl,λh=>by cases h⟩
abbrev OkQ(q:Qr):Prop:=OkZ q.num/\OkZ q.den
theorem N6{q:Qr}{L:Nat}(h:OkQ q)(h1:q.num.w.length<=L)(h2:q.den.w.length<=L)(hL:1<=L):kA L q (qv q):=⟨h.1.2.2,h.2.2.2,h1,h2,hL,Y⟩
end
section
open Go.Fw
theorem dT{p:Prop}[Decidable p](h:p):(some (decide p):Option Bool)=some true:=congrArg some (decide_eq_true h)
theorem dF{p:Prop}[Decidable p](h:¬p):(some (decide p):Option Bool)=some false:=congrArg some (decide_eq_false h)
theorem N7{β:Type}{x:Option Bool}{f:Bool->Option β}{r:Option β}{y:Option Bool}(h:x=some true)(hf:f true=r):(bif true then x else y).bind f=r:=by rw[iV,h];exact hf
theorem Ap{β:Type}{b c:Bool}{x:Option Bool}{f:Bool->Option β}{r:Option β}(h:b=false->x=some c)(hf:f (b||c)=r):(bif b then some true else x).bind f=r:=by
 cases b
 ·rw[jt,h rfl];exact hf
 rw[iV];exact hf
theorem N8{β:Type}{b c:Bool}{x:Option Bool}{f:Bool->Option β}{r:Option β}(h:b=true->x=some c)(hf:f (b&&c)=r):(bif b then x else some false).bind f=r:=by
 cases b
 ·rw[jt];exact hf
 rw[iV,h rfl];exact hf
section ops
variable {K L M:Nat}{a b c:Qr}{x y z:Rat}
end ops
theorem dA.val{L:Nat}{v:List Qr}{f:Nat->Rat}(h:dA L v f)(i:Nat):f i=CS v i:=(h.at i).v.symm
abbrev Zf(v:List Qr):Prop:=v.length<=9223372036854775807/\∀q∈v,OkQ q
end
section
open Go.Fw
def oN{α:Type}(f:Nat->α)(n k:Nat)(z:α):List α:=(List.range k).map f++List.replicate (n-k) z
theorem Dp{α:Type}{f:Nat->α}{n k:Nat}{z:α}(hk:k<=n):(oN f n k z).length=n:=by simp[oN];omega
theorem B4{α:Type}{f:Nat->α}{n:Nat}{z:α}:oN f n 0 z=List.replicate n z:=by simp[oN]
theorem Dq{α:Type}{f:Nat->α}{n:Nat}{z:α}:oN f n n z=(List.range n).map f:=by simp[oN]
theorem Dr{α:Type}{f:Nat->α}{n k:Nat}{z:α}(hk:k<n):(oN f n k z).set k (f k)=oN f n (k+1) z:=by
 unfold oN;rw[show n-k=(n-(k+1))+1 by omega,List.replicate_succ,List.set_append_right _ _ (by simp),List.length_map,List.length_range,Nat.sub_self,List.range_succ,List.map_append,List.append_assoc];rfl
def mq(n:Nat)(ln:Nat->Nat)(F:Nat->Nat->Rat):List (List Qr):=(List.range n).map λi=>vq (ln i) (F i)
theorem eJ(n:Nat)(ln:Nat->Nat)(F:Nat->Nat->Rat):(mq n ln F).length=n:=by simp[mq]
theorem kC{n i:Nat}{ln:Nat->Nat}{F:Nat->Nat->Rat}(hi:i<n):(mq n ln F)[i]? =some (vq (ln i) (F i)):=by simp[mq,hi]
theorem tK{n:Nat}{ln ln':Nat->Nat}{F G:Nat->Nat->Rat}(h:∀i,i<n->ln i=ln' i/\∀k,k<ln i->F i k=G i k):mq n ln F=mq n ln' G:=by
 unfold mq;apply List.map_congr_left;intro i hi;obtain⟨h1,h2⟩:=h i (List.mem_range.1 hi);rw[fB h2,h1]
structure tL (L:Nat) (m:List (List Qr)) (F:Nat->Nat->Rat):Prop where
 e:∀i v,m[i]? =some v->dA L v (F i)
 z:∀i,m.length<=i->∀k,F i k=0
 l1:1<=L
theorem tL.row{L:Nat}{m:List (List Qr)}{F:Nat->Nat->Rat}(h:tL L m F)(i:Nat):dA L (m.getD i []) (F i):=by
 by_cases hi:i<m.length
 ·rw[List.getD_eq_getElem?_getD,List.getElem?_eq_getElem hi];exact h.e i _ (List.getElem?_eq_getElem hi)
 rw[List.getD_eq_getElem?_getD,List.getElem?_eq_none (by omega)];exact(dA.nil h.l1).congr (λk=>(h.z i (by omega) k).symm)
theorem N9{L n:Nat}{ln:Nat->Nat}{F:Nat->Nat->Rat}(hf:∀i,i<n->∀k,k<ln i->FQ L (F i k))(hz:∀i,i<n->∀k,ln i<=k->F i k=0)(Zy:∀i,n<=i->∀k,F i k=0)(h1:1<=L):tL L (mq n ln F) F:=by
 refine⟨λi v e=>?_,λi hi=>Zy i (by rwa[eJ]at hi),h1⟩;have hi:i<n:=by have:=(List.getElem?_eq_some_iff.1 e).1;rwa[eJ]at this
 rw[kC hi]at e;cases e;exact nA (hf i hi) (hz i hi) h1
def Iv(m:List (List Qr))(i:Nat):Nat->Rat:=CS (m.getD i [])
theorem Qk{L:Nat}{m:List (List Qr)}(h:∀v∈m,dA L v (CS v))(h1:1<=L):tL L m (Iv m):=by
 refine⟨λi v e=>?_,λi hi k=>?_,h1⟩
 ·have:Iv m i=CS v:=by unfold Iv;rw[List.getD_eq_getElem?_getD,e];rfl
  rw[this];exact h v (List.mem_of_getElem? e)
 unfold Iv;rw[List.getD_eq_getElem?_getD,List.getElem?_eq_none hi];exact(dA.nil (L:=1) (by decide)).val k |>.symm
theorem mkm{n:Nat}(h:n<=1000000):z2 24 ((n:Nat):Int) ([]:List Qr)=some (List.replicate n []):=rA (by decide) (by omega)
theorem Hf(n:Nat)(h:n<=1000000):z2 64 ((n:Nat):Int) (⟨⟨false,[]⟩,⟨false,[]⟩⟩:Qr)=some (List.replicate n ⟨⟨false,[]⟩,⟨false,[]⟩⟩):=rA (by omega) (by omega)
theorem JB{L M N:Nat}{a b:List Qr}{f g:Nat->Rat}(ha:dA L a f)(hb:dA M b g)(h:min a.length b.length<=N):bP (λi=>f i*g i) (min a.length b.length)=bP (λi=>f i*g i) N:=by
 rw[N1 h (λi h1 _=>by
  rcases Nat.lt_or_ge i a.length with q|q
  ·rw[hb.z i (by omega)];grind
  rw[ha.z i q];grind)]
theorem Iw{E:Type}{body:Nat->Unit->Option (Unit⊕E)}{n:Nat}{p:Nat->Prop}[DecidablePred p]{e:E}(h:∀k,k<n->body k ()=some (if p k then .inl ()else .inr e)):n8 body n ()=some (if ∀k,k<n->p k then .inl ()else .inr e):=by
 induction n with
 |zero=>rw[n8,if_pos (λk hk=>by omega)]
 |succ n ih=>
  rw[n8,ih (λk hk=>h k (by omega))];by_cases h1:∀k,k<n->p k
  ·rw[if_pos h1];show body n ()=_;rw[h n (by omega)];by_cases h2:p n
   ·rw[if_pos h2,if_pos];intro k hk;rcases Nat.lt_or_ge k n with q|q
    ·exact h1 k q
    obtain rfl:k=n:=by omega
    exact h2
   rw[if_neg h2,if_neg (λq=>h2 (q n (by omega)))]
  rw[if_neg h1,if_neg (λq=>h1 (λk hk=>q k (by omega)))];rfl
section ops
variable {K L M:Nat}{c:Qr}{k:Rat}{a b:List (List Qr)}{F G:Nat->Nat->Rat}{x:List Qr}{f:Nat->Rat}
theorem Ql(a:List (List Qr))(i:Nat):qj a (i:Int)=some (a.getD i []):=by
 unfold qj;refine bZ<|aA (dF (by omega)) ?_;by_cases h:i<a.length
 ·exact aA (a:=false) (bJ Y<|aA Y<|aA (dF (by omega)) Y)<|bJ Y<|aA (bL (ey h)) Y
 rw[iq (by omega)];exact aA (a:=true) (bJ Y<|aA Y<|aA (dT (by omega)) Y)<|bQ Y Y
def oO(m:List (List Qr)):Nat:=m.foldl (λn v=>max n v.length) 0
theorem nk{m:List (List Qr)}{n:Nat}:oO m<=n↔∀v∈m,v.length<=n:=by
 have key:∀(l:List (List Qr)) (s:Nat),l.foldl (λn v=>max n v.length) s<=n↔s<=n/\∀v∈l,v.length<=n:=by
  intro l
  induction l with
  |nil=>intro s;simp
  |cons v l ih=>
   intro s;rw[List.foldl_cons,ih];simp only[List.mem_cons,forall_eq_or_imp];constructor
   ·rintro⟨h1,h2⟩;exact⟨by omega,by omega,h2⟩
   rintro⟨h1,h2,h3⟩;exact⟨by omega,h3⟩
 unfold oO;rw[key];simp
theorem Ds(m:List (List Qr))(h:m.length<=9223372036854775806):kq m=some (oO m:Int):=by
 unfold kq;refine aA Y ?_;refine bN (λj=>(((m.take j).foldl (λn v=>max n v.length) 0:Nat),(j:Int))) m.length ((oO m:Nat):Int) (by simp) (λj hj=>?_) ?_ Y
 ·refine aA (dT (by omega))<|bQ Y<|aA (bL (List.getElem?_eq_getElem hj))<|aA Y<|aA Y<|aA (congrArg some (bX (by omega))) ?_;rw[List.take_add_one,List.getElem?_eq_getElem hj,List.foldl_append];simp only[Option.toList_some,List.foldl_cons,List.foldl_nil];congr 3;omega
 refine aA (dF (by omega))<|bJ Y ?_;rw[List.take_length];rfl
theorem VB(h:tL L a F)(hL:L<=10000000000)(i j:Nat):sW a (i:Int) (j:Int)=some (qn (F i j)):=by
 unfold sW;refine aA (Ql a i)<|bZ<|aA (dF (by omega)) ?_;have hr:=h.row i;generalize a.getD i []=v at hr;by_cases hj:j<v.length
 ·obtain⟨q,e1,r1⟩:=hr.get hj;have e2:=(r1.canon hL).1;exact aA (a:=false) (bJ Y<|aA Y<|aA (dF (by omega)) Y)<|bJ Y<|aA (bL e1)<|aA e2 Y
 rw[hr.z j (by omega)];exact aA (a:=true) (bJ Y<|aA Y<|aA (dT (by omega)) Y)<|bQ Y Y
theorem Zg(h:tL L a F)(hx:dA M x f){N:Nat}(hN:∀v∈a,min v.length x.length<=N)(hL:(N+2)*(L+M+1)<=4000000000)(hn:a.length<=1000000):
  jz a x=some (vq a.length (λi=>bP (λj=>F i j*f j) N))/\dA (N*(L+M+1)+1) (vq a.length (λi=>bP (λj=>F i j*f j) N)) (λi=>bP (λj=>F i j*f j) N):=by
 have row:∀i,i<a.length->jy (a.getD i []) x=some (qn (bP (λj=>F i j*f j) N))/\kA (N*(L+M+1)+1) (qn (bP (λj=>F i j*f j) N)) (bP (λj=>F i j*f j) N):=λi hi=>by
  have hm:=hN _ (List.mem_of_getElem? (ey (d:=[]) hi));have h1:=Zb (h.row i) hx (Nat.le_trans (Nat.mul_le_mul_right _ (by omega)) hL);rw[JB (h.row i) hx hm]at h1;exact⟨h1.1,h1.2.mono (Nat.add_le_add_right (Nat.mul_le_mul_right _ hm) 1)⟩
 constructor
 ·unfold jz;refine aA Y<|aA (Hf _ hn)<|aA Y ?_;refine bN (λj=>((j:Int),oN (λi=>qn (bP (λj=>F i j*f j) N)) a.length j ⟨⟨false,[]⟩,⟨false,[]⟩⟩)) a.length (vq a.length (λi=>bP (λj=>F i j*f j) N)) (by rw[B4];rfl) (λj hj=>?_) ?_ Y
  ·have e1:=(row j hj).1;have hl:(oN (λi=>qn (bP (λj=>F i j*f j) N)) a.length j ⟨⟨false,[]⟩,⟨false,[]⟩⟩).length=a.length:=Dp (by omega);have hst:∀q,qn (bP (λi=>F j i*f i) N)=q->(oN (λi=>qn (bP (λj=>F i j*f j) N)) a.length j ⟨⟨false,[]⟩,⟨false,[]⟩⟩).set j q=oN (λi=>qn (bP (λj=>F i j*f j) N)) a.length (j+1) ⟨⟨false,[]⟩,⟨false,[]⟩⟩:=by rintro q rfl;exact Dr hj
   generalize hq:qn (bP (λi=>F j i*f i) N)=q at e1;have hst:=hst q hq;refine aA (dT (by omega))<|bQ Y<|aA (bL (ey (d:=[]) hj))<|aA e1<|aA (cL (show j<_ by rw[hl];exact hj))<|aA (fG (show j<_ by rw[hl];exact hj))<|aA (congrArg some (bX (by omega))) ?_;rw[<-hst]
  refine aA (dF (by omega))<|bJ Y ?_;rw[Dq];rfl
 refine nA (λi hi=>(row i hi).2.fq) (λi hi=>?_) (by omega);rw[cY (k:=λ_=>0) (λj _=>by rw[h.z i hi j];grind),jG]
theorem SD{l:List (List Int)}(hl:∀v∈l,v.length<=1000/\∀y∈v,fz y)(hn:l.length<=1000):ia l=some (mq l.length (λi=>(l.getD i []).length) (λi j=>(((l.getD i []).getD j 0:Int):Rat)))/\tL 2 (mq l.length (λi=>(l.getD i []).length) (λi j=>(((l.getD i []).getD j 0:Int):Rat))) (λi j=>(((l.getD i []).getD j 0:Int):Rat)):=by
 have hw:∀i,(l.getD i []).length<=1000/\∀y∈l.getD i [],fz y:=λi=>by
  by_cases hi:i<l.length
  ·exact hl _ (List.mem_of_getElem? (ey (d:=[]) hi))
  rw[iq (by omega)];simp
 constructor
 ·unfold ia;refine aA Y<|aA (mkm (by omega))<|aA Y ?_;refine bN (λj=>((j:Int),oN (λi=>vq (l.getD i []).length (λj=>(((l.getD i []).getD j 0:Int):Rat))) l.length j [])) l.length (mq l.length (λi=>(l.getD i []).length) (λi j=>(((l.getD i []).getD j 0:Int):Rat))) (by rw[B4];rfl) (λj hj=>?_) ?_ Y
  ·have e1:=(xE (hw j).2 (by have:=(hw j).1;omega)).1;have hl:(oN (λi=>vq (l.getD i []).length (λj=>(((l.getD i []).getD j 0:Int):Rat))) l.length j []).length=l.length:=Dp (by omega);refine aA (dT (by omega))<|bQ Y<|aA (bL (ey (d:=[]) hj))<|aA e1<|aA (cL (show j<_ by rw[hl];exact hj))<|aA (fG (show j<_ by rw[hl];exact hj))<|aA (congrArg some (bX (by omega))) ?_;rw[<-Dr hj]
  refine aA (dF (by omega))<|bJ Y ?_;rw[Dq];rfl
 refine N9 (λi hi j hj=>(xE (hw i).2 (by have:=(hw i).1;omega)).2.fq j) (λi hi j hj=>by rw[iq hj];rfl) (λi hi j=>by rw[iq hi];rfl) (by decide)
end ops
end
section
open Go.Fw
theorem B5{α:Type}{b:Bool}{x y r:α}(ht:b=true->x=r)(hf:b=false->y=r):(bif b then x else y)=r:=by
 cases b
 ·rw[jt];exact hf Y
 rw[iV];exact ht Y
theorem yJ{E:Type}{body:Int->Option (Int⊕(Unit⊕E))}{n:Nat}{p:Nat->Prop}[DecidablePred p]{e:E}(h:∀k:Nat,k<n->body (k:Int)=some (if p k then .inl ((k+1:Nat):Int)else .inr (.inr e)))(hn:body (n:Int)=some (.inr (.inl ()))):
  cu body 0=some (if ∀k,k<n->p k then .inl ()else .inr e):=by
 obtain⟨r,h1,h2⟩:=xS (body:=body) (s:=0) (λs=>∃k:Nat,s=(k:Int)/\k<=n/\∀i,i<k->p i) (λr=>(r=.inl ()/\∀k,k<n->p k)\/(r=.inr e/\¬∀k,k<n->p k)) (λs=>n-s.toNat) (by
  rintro _ ⟨k,rfl,hk,hp⟩;by_cases hlt:k<n
  ·by_cases hpk:p k
   ·refine .inl ⟨_,by rw[h k hlt,if_pos hpk],⟨k+1,Y,hlt,λi hi=>?_⟩,by simp only[Int.toNat_natCast];omega⟩;rcases Nat.lt_or_ge i k with q|q
    ·exact hp i q
    obtain rfl:i=k:=by omega
    exact hpk
   exact .inr ⟨_,by rw[h k hlt,if_neg hpk],.inr ⟨Y,λq=>hpk (q k hlt)⟩⟩
  obtain rfl:k=n:=by omega
  exact .inr ⟨_,hn,.inl ⟨Y,hp⟩⟩) ⟨0,Y,by omega,λi hi=>by omega⟩
 rw[h1];rcases h2 with⟨rfl,h2⟩|⟨rfl,h2⟩
 ·rw[if_pos h2]
 rw[if_neg h2]
def xF(n:Nat)(f:Nat->Rat)(i:Nat):Rat:=if i<n then f i else 0
theorem Aq{n i:Nat}{f:Nat->Rat}(h:i<n):xF n f i=f i:=if_pos h
theorem JC{n i:Nat}{f:Nat->Rat}(h:n<=i):xF n f i=0:=if_neg (by omega)
theorem VC(n:Nat)(f:Nat->Rat):vq n f=vq n (xF n f):=fB (λi hi=>(Aq hi).symm)
theorem Ar{L n:Nat}{f:Nat->Rat}(h:∀i,i<n->FQ L (f i))(h1:1<=L):dA L (vq n f) (xF n f):=by
 rw[VC];exact nA (λi hi=>by rw[Aq hi];exact h i hi) (λi hi=>JC hi) h1
def CT(n:Int)(ob rw:List (List Qr))(bd:List Qr):Prop:=0<=n/\n<=64/\1<=ob.length/\ob.length<=4/\rw.length<=128/\bd.length=rw.length/\(oO ob:Int)<=n/\(oO rw:Int)<=n
instance(n:Int)(ob rw:List (List Qr))(bd:List Qr):Decidable (CT n ob rw bd):=by unfold CT;exact inferInstance
theorem Oa{n:Int}{ob rw:List (List Qr)}{bd:List Qr}(h1:ob.length<=9223372036854775806)(h2:rw.length<=9223372036854775806):fT ⟨n,ob,rw,bd⟩=some (decide (CT n ob rw bd)):=by
 unfold fT lf;refine aA (aA Y<|aA Y<|aA Y Y)<|bZ<|aA Y<|Ap (λ_=>aA Y Y)<|Ap (λ_=>aA Y Y)<|Ap (λ_=>aA Y Y)<|B5 (λh=>?_) (λh=>bZ<|aA Y<|Ap (λ_=>aA Y Y)<|B5 (λh'=>?_) (λh'=>bZ<|aA (Ds ob h1)<|aA Y<|N8 (λ_=>aA (Ds rw h2)<|aA Y Y) ?_))
 ·congr 1;symm;rw[decide_eq_false_iff_not];simp only[Bool.or_eq_true,decide_eq_true_eq]at h;unfold CT;omega
 ·congr 1;symm;rw[decide_eq_false_iff_not];simp only[Bool.or_eq_true,decide_eq_true_eq]at h';unfold CT;omega
 congr 1;simp only[Bool.or_eq_false_iff,decide_eq_false_iff_not]at h h';rw[<-Bool.decide_and,decide_eq_decide];unfold CT;omega
theorem VD{n:Int}{ob rw:List (List Qr)}{bd:List Qr}:fT ⟨n,ob,rw,bd⟩=some (decide (CT n ob rw bd)):=by
 unfold fT lf;refine aA (aA Y<|aA Y<|aA Y Y)<|bZ<|aA Y<|Ap (λ_=>aA Y Y)<|Ap (λ_=>aA Y Y)<|Ap (λ_=>aA Y Y)<|B5 (λh=>?_) (λh=>bZ<|aA Y<|Ap (λ_=>aA Y Y)<|B5 (λh'=>?_) (λh'=>bZ<|aA (Ds ob (by simp only[Bool.or_eq_false_iff,decide_eq_false_iff_not]at h h';omega))<|aA Y<|N8 (λ_=>aA (Ds rw (by simp only[Bool.or_eq_false_iff,decide_eq_false_iff_not]at h h';omega))<|aA Y Y) ?_))
 ·congr 1;symm;rw[decide_eq_false_iff_not];simp only[Bool.or_eq_true,decide_eq_true_eq]at h;unfold CT;omega
 ·congr 1;symm;rw[decide_eq_false_iff_not];simp only[Bool.or_eq_true,decide_eq_true_eq]at h';unfold CT;omega
 congr 1;simp only[Bool.or_eq_false_iff,decide_eq_false_iff_not]at h h';rw[<-Bool.decide_and,decide_eq_decide];unfold CT;omega
section lps
variable {K L M N:Nat}{n:Int}{ob rw:List (List Qr)}{bd x y:List Qr}{O F:Nat->Nat->Rat}{g f:Nat->Rat}
theorem eval_eq(ho:tL L ob O)(hx:dA M x f)(hN:∀v∈ob,min v.length x.length<=N)(hL:(N+2)*(L+M+1)<=4000000000)(hn:ob.length<=1000000):
  uX ⟨n,ob,rw,bd⟩ x=some (vq ob.length (λi=>bP (λj=>O i j*f j) N))/\dA (N*(L+M+1)+1) (vq ob.length (λi=>bP (λj=>O i j*f j) N)) (λi=>bP (λj=>O i j*f j) N):=by
 obtain⟨h1,h2⟩:=Zg ho hx hN hL hn;exact⟨aA h1 Y,h2⟩
theorem Ob(hr:tL L rw F)(hb:dA K bd g)(hx:dA M x f)(hN:∀v∈rw,min v.length x.length<=N)(hL:(N+2)*(L+M+1)<=2000000000)(hK:K<=1000000000)(h2:rw.length<=1000000):
  oB ⟨n,ob,rw,bd⟩ x=some (vq rw.length (λi=>g i-bP (λj=>F i j*f j) N))/\∀i,i<rw.length->FQ (K+(N*(L+M+1)+1)+1) (g i-bP (λj=>F i j*f j) N):=by
 have row:∀i,i<rw.length->∃q,jy (rw.getD i []) x=some q/\kA (N*(L+M+1)+1) q (bP (λj=>F i j*f j) N):=λi hi=>by
  have hm:=hN _ (List.mem_of_getElem? (ey (d:=[]) hi));have h1:=Zb (hr.row i) hx (Nat.le_trans (Nat.mul_le_mul_right _ (show min (rw.getD i []).length x.length+2<=N+2 by omega)) (by omega));rw[JB (hr.row i) hx hm]at h1;exact⟨_,h1.1,h1.2.mono (Nat.add_le_add_right (Nat.mul_le_mul_right _ hm) 1)⟩
 have hsz:K+(N*(L+M+1)+1)<=4000000000:=by rw[Nat.add_mul]at hL;omega
 refine⟨?_,λi hi=>?_⟩
 ·unfold oB;refine mw (λj=>vq j (λi=>g i-bP (λj=>F i j*f j) N)) Y (λi hi=>?_) Y;obtain⟨q,e1,r1⟩:=row i hi;have rb:=hb.gd i;have e2:=(rb.sub r1 hsz).1;generalize hbq:bd.getD i (⟨⟨false,[]⟩,⟨false,[]⟩⟩:Qr)=bq at e2;have e3:wh 64 (vq i (λi=>g i-bP (λj=>F i j*f j) N)) [qn (g i-bP (λj=>F i j*f j) N)]=some (vq (i+1) (λi=>g i-bP (λj=>F i j*f j) N)):=by rw[zQ (by decide) (by rw[bY];have:i<rw.length:=hi;omega),xC]
  generalize qn (g i-bP (λj=>F i j*f j) N)=q2 at e2 e3;exact aA Y<|aA (a:=bq) (by first|rfl|exact congrArg some hbq)<|aA e1<|aA e2<|aA e3 Y
 obtain⟨q,e1,r1⟩:=row i hi;exact((hb.gd i).sub r1 hsz).2.fq
end lps
end
section
open Go.Fw
def bq(m:Nat)(b:Nat->Nat):List Int:=(List.range m).map λj=>((b j:Nat):Int)
theorem vZ(m:Nat)(b:Nat->Nat):(bq m b).length=m:=by simp[bq]
theorem v9{m j:Nat}{b:Nat->Nat}(h:j<m):(bq m b)[j]? =some ((b j:Nat):Int):=by simp[bq,h]
theorem Qm(m:Nat)(b:Nat->Nat):bq (m+1) b=bq m b++[((b m:Nat):Int)]:=by simp[bq,List.range_succ]
theorem VE{m r c:Nat}{b:Nat->Nat}(hr:r<m):(bq m b).set r (c:Int)=bq m (λj=>if j=r then c else b j):=by
 apply List.ext_getElem?;intro j;rw[List.getElem?_set,vZ];by_cases hj:j<m
 ·rw[v9 hj];by_cases e:r=j
  ·subst e;rw[if_pos Y,if_pos hr,v9 hr,if_pos rfl]
  rw[if_neg e,v9 hj,if_neg (λq=>e q.symm)]
 rw[List.getElem?_eq_none (l:=bq m _) (by rw[vZ];omega),List.getElem?_eq_none (l:=bq m _) (by rw[vZ];omega)];by_cases e:r=j
 ·rw[if_pos e,if_neg (by omega)]
 rw[if_neg e]
abbrev EK(n m p:Nat)(O F:Nat->Nat->Rat)(b:Nat->Nat):Tb:=⟨true,(n:Int),mq p (λ_=>n) O,bq m b,mq m (λ_=>n+m+1) F⟩
structure pQ (L n m p:Nat) (O F:Nat->Nat->Rat) (b:Nat->Nat):Prop where
 f:∀i,i<m->∀k,FQ L (F i k)
 o:∀i,i<p->∀k,FQ L (O i k)
 z:∀i,i<m->∀k,n+m+1<=k->F i k=0
 l1:1<=L
 hn:n<=64
 hm:m<=128
 hp:p<=4
 hb:∀j,j<m->b j<n+m
section Zh
variable {L n m p:Nat}{O F:Nat->Nat->Rat}{b:Nat->Nat}
theorem ju(n m p:Nat)(O F:Nat->Nat->Rat)(b:Nat->Nat):cy (EK n m p O F b)=some false:=by
 unfold cy;exact bZ<|aA (a:=false) (bJ Y<|aA Y Y) Y
theorem B6(hn:n<=64)(hm:m<=128):eE (EK n m p O F b)=some ((n+m:Nat):Int):=by
 unfold eE;refine aA Y<|aA (congrArg some ?_) Y;rw[eJ,cS (by omega) (by omega)];omega
theorem VF{i:Nat}(h:pQ L n m p O F b)(hi:i<m):dA L (vq (n+m+1) (F i)) (F i):=nA (λk _=>h.f i hi k) (λk hk=>h.z i hi k hk) h.l1
theorem JD(h:pQ L n m p O F b)(hL:L<=4000000000){c:Nat}(hc:c<n+m+1):jB (EK n m p O F b) (c:Int)=some (vq m (λi=>F i c)):=by
 have hm:=h.hm;unfold jB;show(some ((mq m (λ_=>n+m+1) F).length:Int)).bind _=_;refine aA Y ?_;rw[eJ];refine aA (Hf m (by omega))<|aA Y ?_;refine bN (λk=>((k:Int),vq k (λi=>F i c)++List.replicate (m-k) qz)) m (vq m (λi=>F i c)) Y (λk hk=>?_) ?_ Y
 ·have g1:(mq m (λ_=>n+m+1) F)[k]? =some (vq (n+m+1) (F k)):=kC hk;have g2:(vq (n+m+1) (F k))[c]? =some (qn (F k c)):=lM hc;have e:=(((h.f k hk c).rep h.l1).canon (by omega)).1;have s:=EJ (h:=λi=>F i c) hk;have hl:(vq k (λi=>F i c)++List.replicate (m-k) qz).length=m:=rG (by omega);rw[<-s];generalize vq k (λi=>F i c)++List.replicate (m-k) qz=l at*;clear s;show(some (decide ((k:Int)<(m:Int)))).bind _=_;generalize qn (F k c)=q at*;obtain⟨⟨_,_⟩,⟨_,_⟩⟩:=q;exact aA (dT (by omega))<|bQ Y<|aA (bL g1)<|aA (bL g2)<|aA e<|aA (cL (by omega))<|aA (fG (by omega))<|aA (congrArg some (bX (by omega))) Y
 simp only[Nat.sub_self,List.replicate_zero,List.append_nil];exact aA (dF (by omega))<|bJ Y Y
def kM(n p:Nat)(O:Nat->Nat->Rat)(c:Nat)(i:Nat):Rat:=if c<n then(if i<p then O i c else if i=p+c then-1 else 0)else 0
theorem qC{k j:Nat}{h:Nat->Rat}{x:Rat}(hj:j<k):(vq k h).set j (qn x)=vq k (λi=>if i=j then x else h i):=by
 apply List.ext_getElem?;intro i;rw[List.getElem?_set,bY];by_cases hi:i<k
 ·rw[lM hi];by_cases e:j=i
  ·subst e;rw[if_pos Y,if_pos hj,lM hj,if_pos rfl]
  rw[if_neg e,lM hi,if_neg (λq=>e q.symm)]
 rw[List.getElem?_eq_none (l:=vq k _) (by rw[bY];omega),List.getElem?_eq_none (l:=vq k _) (by rw[bY];omega)];by_cases e:j=i
 ·rw[if_pos e,if_neg (by omega)]
 rw[if_neg e]
theorem xG(k:Nat):List.replicate k (⟨⟨false,[]⟩,⟨false,[]⟩⟩:Qr)=vq k (λ_=>0):=by
 apply List.ext_getElem?;intro i;by_cases hi:i<k
 ·rw[lM hi,List.getElem?_replicate,if_pos hi];rfl
 rw[List.getElem?_eq_none (by simp;omega),List.getElem?_eq_none (by rw[bY];omega)]
theorem Qn:cG (-1)=some (qn (-1)):=(lK (n:=-1) (by decide)).1
theorem one_eq:cG 1=some (qn 1)/\kA 2 (qn 1) 1:=lK (n:=1) (by decide)
theorem Od(h:pQ L n m p O F b){c:Nat}(hc:c<n+m):iM (EK n m p O F b) (c:Int)=some (vq (p+n) (kM n p O c)):=by
 have hm:=h.hm;have hn:=h.hn;have hp:=h.hp;unfold iM;show(some ((mq p (λ_=>n) O).length:Int)).bind _=_;refine aA Y ?_;rw[eJ];refine aA (congrArg some (show IntKind.i64.wrap ((p:Int)+(n:Int))=((p+n:Nat):Int) by rw[cS (by omega) (by omega)];omega))<|aA (Hf (p+n) (by omega))<|aA Y<|bZ ?_;rw[xG];by_cases hcn:c<n
 ·refine bQ (decide_eq_true (show(c:Int)<(n:Int) by omega))<|aA Y ?_;refine bN (λk=>((k:Int),vq (p+n) (λi=>if i<k then O i c else 0))) p (vq (p+n) (λi=>if i<p then O i c else 0)) (by simp) (λk hk=>?_) ?_ ?_
  ·have g1:(mq p (λ_=>n) O)[k]? =some (vq n (O k)):=kC hk;have g2:(vq n (O k))[c]? =some (qn (O k c)):=lM hcn;have s:=qC (k:=p+n) (j:=k) (h:=λi=>if i<k then O i c else 0) (x:=O k c) (by omega);have s2:vq (p+n) (λi=>if i=k then O k c else if i<k then O i c else 0)=vq (p+n) (λi=>if i<k+1 then O i c else 0):=fB (λi _=>by
    by_cases e:i=k
    ·subst e;simp
    rw[if_neg e];by_cases e2:i<k
    ·rw[if_pos e2,if_pos (by omega)]
    rw[if_neg e2,if_neg (by omega)])
   rw[s2]at s;have hl:=bY (p+n) (λi=>if i<k then O i c else 0);rw[<-s];generalize vq (p+n) (λi=>if i<k then O i c else 0)=l at*;clear s s2;show(some (decide ((k:Int)<(p:Int)))).bind _=_;generalize qn (O k c)=q at*;obtain⟨⟨_,_⟩,⟨_,_⟩⟩:=q;exact aA (dT (by omega))<|bQ Y<|aA (bL g1)<|aA (bL g2)<|aA (cL (by omega))<|aA (fG (by omega))<|aA (congrArg some (bX (by omega))) Y
  ·exact aA (dF (by omega))<|bJ Y Y
  have s:=qC (k:=p+n) (j:=p+c) (h:=λi=>if i<p then O i c else 0) (x:=-1) (by omega);have s2:vq (p+n) (λi=>if i=p+c then(-1:Rat)else if i<p then O i c else 0)=vq (p+n) (kM n p O c):=fB (λi _=>by
   unfold kM;rw[if_pos hcn];by_cases e:i=p+c
   ·rw[if_pos e,if_neg (by omega),if_pos e]
   rw[if_neg e,if_neg e])
  rw[s2]at s;have hl:=bY (p+n) (λi=>if i<p then O i c else 0);have e1:=Qn;rw[<-s];generalize vq (p+n) (λi=>if i<p then O i c else 0)=l at*;clear s s2;generalize qn (-1)=q at*;obtain⟨⟨_,_⟩,⟨_,_⟩⟩:=q;exact aA Y<|aA (congrArg some (show IntKind.i64.wrap ((p:Int)+(c:Int))=((p+c:Nat):Int) by rw[cS (by omega) (by omega)];omega))<|aA e1<|aA (cL (by omega))<|aA (fG (by omega)) Y
 refine bJ (decide_eq_false (show ¬(c:Int)<(n:Int) by omega)) ?_;exact congrArg some (fB (λi _=>by unfold kM;rw[if_neg hcn]))
theorem Oe(h:pQ L n m p O F b)(c i:Nat):FQ L (kM n p O c i):=by
 unfold kM;have hl:=h.l1;split
 ·split
  ·exact h.o _ (by assumption) _
  split
  ·exact(FQ.int (i:=-1) (L:=L) (by unfold Fit;exact Nat.lt_of_lt_of_le (by decide:(-1:Int).natAbs<4294967296^1) (Nat.pow_le_pow_right (by decide) hl)) hl)
  exact ur hl
 exact ur hl
theorem JE(h:pQ L n m p O F b)(c:Nat):dA L (vq (p+n) (kM n p O c)) (kM n p O c):=nA (λi _=>Oe h c i) (λi hi=>by
 unfold kM;split
 ·rw[if_neg (by omega),if_neg (by omega)]
 rfl) h.l1
def oV(n p:Nat)(O:Nat->Nat->Rat)(b:Nat->Nat)(g:Nat->Rat)(m:Nat)(i:Nat):Rat:=bP (λj=>g j*kM n p O (b j) i) m
theorem VG{g:Nat->Rat}{k i:Nat}(hi:p+n<=i):oV n p O b g k i=0:=by
 unfold oV;rw[cY (k:=λ_=>0) (λj _=>?_),jG];unfold kM;split
 ·rw[if_neg (by omega),if_neg (by omega)];grind
 grind
theorem As(h:pQ L n m p O F b){g:Nat->Rat}(hg:∀j,j<m->FQ L (g j)):∀k,k<=m->∀i,FQ (k*(L+L+1)+1) (oV n p O b g k i)
 |0,_,i=>by show FQ (0*(L+L+1)+1) (0:Rat);rw[Nat.zero_mul];exact ur (by decide)
 |k+1,hk,i=>by
  have e:=(As h hg k (by omega) i).add ((hg k (by omega)).mul (Oe h (b k) i));exact e.mono (by rw[Nat.succ_mul];generalize k*(L+L+1)=q;omega)
theorem B7(h:pQ L n m p O F b){g:Nat->Rat}(hg:∀j,j<m->FQ L (g j)){k:Nat}(hk:k<=m):dA (k*(L+L+1)+1) (vq (p+n) (oV n p O b g k)) (oV n p O b g k):=nA (λi _=>As h hg k hk i) (λi hi=>VG hi) (by omega)
theorem Dt(h:pQ L n m p O F b)(hL:(m+1)*(L+L+1)<=2000000000){g:Nat->Rat}(hg:∀j,j<m->FQ L (g j)):ic (EK n m p O F b) (vq m g)=some (vq (p+n) (oV n p O b g m)):=by
 have hX:m*(L+L+1)+(L+L+1)<=2000000000:=by rw[<-Nat.succ_mul];exact hL
 have hm:=h.hm;have hn:=h.hn;have hp:=h.hp;have h1:=h.l1;unfold ic;show(some ((mq p (λ_=>n) O).length:Int)).bind _=_;refine aA Y ?_;rw[eJ];refine aA (congrArg some (show IntKind.i64.wrap ((p:Int)+(n:Int))=((p+n:Nat):Int) by rw[cS (by omega) (by omega)];omega))<|aA (Hf (p+n) (by omega))<|aA (congrArg some (show((vq m g).length:Int)=(m:Int) by rw[bY])) ?_;rw[xG];refine bN (λk=>(vq (p+n) (oV n p O b g k),(k:Int))) m (vq (p+n) (oV n p O b g m)) Y (λk hk=>?_) ?_ Y
 ·have g1:(vq m g)[k]? =some (qn (g k)):=lM hk;have g2:=v9 (b:=b) hk;have rg:=(hg k hk).rep h1;have sg:=rg.sign (by omega);have S0:=h.hb k hk;have tv:=Od h S0;have va:=N2 rg (JE h (b k)) (B7 h hg (Nat.le_of_lt hk)) (by have:=Nat.mul_le_mul_right (L+L+1) (show k<=m by omega);omega) (by rw[bY];omega) (by rw[bY];omega);have e0:vq (max (vq (p+n) (kM n p O (b k))).length (vq (p+n) (oV n p O b g k)).length) (λi=>g k*kM n p O (b k) i+oV n p O b g k i)=vq (p+n) (oV n p O b g (k+1)):=by
   rw[bY,bY,Nat.max_self];refine fB (λi _=>?_);show _=bP _ k+_;unfold oV;grind
  rw[e0]at va;have same:g k*kM n p O (b k) 0=g k*kM n p O (b k) 0:=rfl;have skip:(¬(b k<n)\/g k=0)->vq (p+n) (oV n p O b g k)=vq (p+n) (oV n p O b g (k+1)):=λq=>fB (λi _=>by
   show oV n p O b g k i=bP _ k+_;have:g k*kM n p O (b k) i=0:=by
    rcases q with q|q
    ·unfold kM;rw[if_neg q];grind
    rw[q];grind
   show oV n p O b g k i=oV n p O b g k i+g k*kM n p O (b k) i;rw[this];grind)
  replace va:=va.1;show(some (decide ((k:Int)<(m:Int)))).bind _=_;have Zi:(some (decide (oK (g k) 0≠0)):Option Bool)=some (decide (g k≠0)):=by
   congr 1;by_cases q:g k=0
   ·rw[decide_eq_false (by rw[q,uo];simp),decide_eq_false (by simp[q])]
   rw[decide_eq_true (show oK (g k) 0≠0 from λe=>q (iQ.1 e)),decide_eq_true q]
  generalize hq:qn (g k)=q at*;obtain⟨⟨q1,q2⟩,⟨q3,q4⟩⟩:=q;refine aA (dT (by omega))<|bQ Y<|aA (bL g1)<|bZ<|aA (bL g2)<|aA Y ?_;by_cases Td:b k<n
  ·refine aA (a:=decide (g k≠0)) (bQ (decide_eq_true (show((b k:Nat):Int)<(n:Int) by omega))<|aA sg<|aA Zi Y)<|bZ ?_;by_cases h0:g k=0
   ·refine bJ (by simp[h0]) ?_;rw[skip (.inr h0)];exact aA (congrArg some (bX (by omega))) Y
   refine bQ (by simp[h0]) ?_;exact aA (bL g2)<|aA tv<|aA va<|aA (congrArg some (bX (by omega))) Y
  refine aA (a:=false) (bJ (decide_eq_false (show ¬((b k:Nat):Int)<(n:Int) by omega)) Y)<|bZ<|bJ Y ?_;rw[skip (.inl Td)];exact aA (congrArg some (bX (by omega))) Y
 exact aA (dF (by omega))<|bJ Y Y
theorem Iy(h:pQ L n m p O F b)(hL:L<=4000000000):fO (EK n m p O F b)=some (vq m (λi=>F i (n+m))):=by
 unfold fO;exact aA (ju n m p O F b)<|bJ Y<|aA (B6 h.hn h.hm)<|aA (JD h hL (by omega)) Y
def tN(n m p:Nat)(O F:Nat->Nat->Rat)(b:Nat->Nat)(c:Nat)(i:Nat):Rat:=oV n p O b (λj=>F j c) m i-kM n p O c i
theorem Hg(h:pQ L n m p O F b)(hL:(m+1)*(L+L+1)<=2000000000){c:Nat}(hc:c<n+m):dy (EK n m p O F b) (c:Int)=some (vq (p+n) (tN n m p O F b c))/\dA (m*(L+L+1)+1+L+1) (vq (p+n) (tN n m p O F b c)) (tN n m p O F b c):=by
 have hX:m*(L+L+1)+(L+L+1)<=2000000000:=by rw[<-Nat.succ_mul];exact hL
 have hm:=h.hm;have hn:=h.hn;have hp:=h.hp;have w:=Dt h hL (g:=λj=>F j c) (λj hj=>h.f j hj c);have s:=Za (B7 h (g:=λj=>F j c) (λj hj=>h.f j hj c) (Nat.le_refl m)) (JE h c) (by omega) (by rw[bY];omega) (by rw[bY];omega);rw[bY,bY,Nat.max_self]at s;refine⟨?_,s.2⟩;unfold dy;exact bZ<|aA (ju n m p O F b)<|aA (a:=false) (bJ Y<|aA (dF (by omega)) Y)<|aA (a:=false) (bJ Y<|aA (B6 hn hm)<|aA (dF (by omega)) Y)<|bJ Y<|aA (JD h (by omega) (by omega))<|aA w<|aA (Od h hc)<|aA s.1 Y
theorem EM(h:pQ L n m p O F b)(hL:(m+1)*(L+L+1)<=2000000000):iv (EK n m p O F b)=some (vq (p+n) (oV n p O b (λj=>F j (n+m)) m)):=by
 have hX:m*(L+L+1)+(L+L+1)<=2000000000:=by rw[<-Nat.succ_mul];exact hL
 unfold iv;exact aA (ju n m p O F b)<|bJ Y<|aA (Iy h (by omega))<|aA (Dt h hL (g:=λj=>F j (n+m)) (λj hj=>h.f j hj _)) Y
def zT(n m:Nat)(F:Nat->Nat->Rat)(b:Nat->Nat):Nat->Nat->Rat
 |0,_=>0
 |j+1,i=>if b j<n/\i=b j then F j (n+m)else zT n m F b j i
theorem KG(h:pQ L n m p O F b)(hL:L<=4000000000):ig (EK n m p O F b)=some (vq n (zT n m F b m)):=by
 have hm:=h.hm;have hn:=h.hn;unfold ig;refine aA (ju n m p O F b)<|bJ Y<|aA (Hf n (by omega))<|aA (Iy h hL)<|aA (congrArg some (show((vq m _).length:Int)=(m:Int) by rw[bY])) ?_;rw[xG];refine bN (λk=>((k:Int),vq n (zT n m F b k))) m (vq n (zT n m F b m)) Y (λk hk=>?_) ?_ Y
 ·have g1:(vq m (λi=>F i (n+m)))[k]? =some (qn (F k (n+m))):=lM hk;have g2:=v9 (b:=b) hk;have hl:=bY n (zT n m F b k);show(some (decide ((k:Int)<(m:Int)))).bind _=_;by_cases Td:b k<n
  ·have s:=qC (k:=n) (j:=b k) (h:=zT n m F b k) (x:=F k (n+m)) Td;have s2:vq n (λi=>if i=b k then F k (n+m)else zT n m F b k i)=vq n (zT n m F b (k+1)):=fB (λi _=>by
    show _=if b k<n/\i=b k then _ else _;by_cases e:i=b k
    ·rw[if_pos e,if_pos ⟨Td,e⟩]
    rw[if_neg e,if_neg (λq=>e q.2)])
   rw[s2]at s;rw[<-s];clear s s2;generalize vq n (zT n m F b k)=l at*;generalize qn (F k (n+m))=q at*;obtain⟨⟨_,_⟩,⟨_,_⟩⟩:=q;exact aA (dT (by omega))<|bQ Y<|aA (bL g1)<|aA (bL g2)<|aA Y<|bZ<|bQ (decide_eq_true (show((b k:Nat):Int)<(n:Int) by omega))<|aA (bL g2)<|aA (cL (by omega))<|aA (fG (by omega))<|aA (congrArg some (bX (by omega))) Y
  have s2:vq n (zT n m F b k)=vq n (zT n m F b (k+1)):=fB (λi _=>by
   show _=if b k<n/\i=b k then _ else _;rw[if_neg (λq=>Td q.1)])
  rw[<-s2];generalize qn (F k (n+m))=q at*;obtain⟨⟨_,_⟩,⟨_,_⟩⟩:=q;exact aA (dT (by omega))<|bQ Y<|aA (bL g1)<|aA (bL g2)<|aA Y<|bZ<|bJ (decide_eq_false (show ¬((b k:Nat):Int)<(n:Int) by omega))<|aA (congrArg some (bX (by omega))) Y
 exact aA (dF (by omega))<|bJ Y Y
theorem KH(h:pQ L n m p O F b)(hL:L<=4000000000):ij (EK n m p O F b)=some (decide (∀i,i<m->0<=F i (n+m))):=by
 have hm:=h.hm;unfold ij;refine aA (ju n m p O F b)<|bJ Y<|aA (Iy h hL)<|aA (congrArg some (show((vq m _).length:Int)=(m:Int) by rw[bY])) ?_;refine aA (yJ (n:=m) (p:=λi=>0<=F i (n+m)) (e:=false) (λk hk=>?_) (aA (dF (by omega))<|bJ Y Y)) ?_
 ·have g1:(vq m (λi=>F i (n+m)))[k]? =some (qn (F k (n+m))):=lM hk;have sg:=((h.f k hk (n+m)).rep h.l1).sign (by omega);generalize qn (F k (n+m))=q at*;obtain⟨⟨_,_⟩,⟨_,_⟩⟩:=q;refine aA (dT (by omega))<|bQ Y<|aA (bL g1)<|aA sg<|aA Y ?_;by_cases q:F k (n+m)<0
  ·rw[if_neg (by grind)];exact bQ (decide_eq_true (G7.2 q)) Y
  rw[if_pos (by grind)];exact bJ (decide_eq_false (λe=>q (G7.1 e)))<|aA (congrArg some (bX (by omega))) Y
 by_cases q:∀i,i<m->0<=F i (n+m)
 ·rw[if_pos q,decide_eq_true q]
 rw[if_neg q,decide_eq_false q]
theorem Hh(h:pQ L n m p O F b)(hL:(m+1)*(L+L+1)<=2000000000):gH (EK n m p O F b)=some (decide (∀c,c<n+m->0<=oM (tN n m p O F b c) (λ_=>0) (p+n))):=by
 have hX:m*(L+L+1)+(L+L+1)<=2000000000:=by rw[<-Nat.succ_mul];exact hL
 have hm:=h.hm;have hn:=h.hn;unfold gH;refine aA (ju n m p O F b)<|bJ Y ?_;have hw:(IntKind.i64.wrap (Tb.vars (EK n m p O F b)+((Tb.rows (EK n m p O F b)).length:Int))).toNat=n+m:=by
  show(IntKind.i64.wrap ((n:Int)+((mq m (λ_=>n+m+1) F).length:Int))).toNat=_;rw[eJ,cS (by omega) (by omega)];omega
 refine aA (a:=if ∀c,c<n+m->0<=oM (tN n m p O F b c) (λ_=>0) (p+n)then .inl ()else .inr false) ?_ ?_
 ·refine Eq.trans (congrArg (λk=>n8 _ k ()) hw) ?_;refine Iw (n:=n+m) (p:=λc=>0<=oM (tN n m p O F b c) (λ_=>0) (p+n)) (e:=false) (λk hk=>?_);obtain⟨e,r⟩:=Hg h hL hk;have sg:=Zd r (by omega);rw[bY]at sg;refine aA Y<|aA e<|aA sg<|aA Y ?_;by_cases q:0<=oM (tN n m p O F b k) (λ_=>0) (p+n)
  ·rw[if_pos q];exact bJ (decide_eq_false (by omega)) Y
  rw[if_neg q];exact bQ (decide_eq_true (by omega)) Y
 by_cases q:∀c,c<n+m->0<=oM (tN n m p O F b c) (λ_=>0) (p+n)
 ·rw[if_pos q,decide_eq_true q]
 rw[if_neg q,decide_eq_false q]
end Zh
end
section
open Go.Fw
def lU(F:Nat->Nat->Rat)(r c i k:Nat):Rat:=if i=r then F r k/F r c else F i k-F i c*(F r k/F r c)
section Zh
variable {L n m p:Nat}{O F:Nat->Nat->Rat}{b:Nat->Nat}
theorem Of(h:pQ L n m p O F b){r c:Nat}(hr:r<m)(h0:F r c≠0){i:Nat}(hi:i<m)(k:Nat):FQ (4*L+1) (lU F r c i k):=by
 have e:=(h.f r hr k).div (h.f r hr c) h0;unfold lU;split
 ·exact e.mono (by omega)
 exact((h.f i hi k).sub ((h.f i hi c).mul e)).mono (by omega)
theorem SE(h:pQ L n m p O F b){r i:Nat}(hr:r<m)(c:Nat)(hi:i<m){k:Nat}(hk:n+m+1<=k):lU F r c i k=0:=by
 unfold lU;rw[h.z r hr k hk,h.z i hi k hk];have e:(0:Rat)/F r c=0:=by rw[Rat.div_def,Rat.zero_mul]
 rw[e];split
 ·rfl
 grind
theorem EN(h:pQ L n m p O F b){r c:Nat}(hr:r<m)(hc:c<n+m)(h0:F r c≠0):pQ (4*L+1) n m p O (lU F r c) (λj=>if j=r then c else b j):=
 ⟨λi hi k=>Of h hr h0 hi k,λi hi k=>(h.o i hi k).mono (by omega),λi hi k hk=>SE h hr c hi hk,by omega,h.hn,h.hm,h.hp,λj hj=>by
  show(if j=r then c else b j)<n+m;split
  ·exact hc
  exact h.hb j hj⟩
theorem Qo(h:pQ L n m p O F b)(hL:L<=100000000){r c:Nat}(hr:r<m)(hc:c<n+m+1)(h0:F r c≠0){o0:Bool}{o1:Int}{o2 rows:List (List Qr)}{o3:List Int}(hrow:rows[r]? =some (vq (n+m+1) (lU F r c r))){i:Nat}(hi:i<m)(hne:i≠r):
  jC o0 o1 o2 o3 rows (vq (n+m+1) (F i)) c r=some (vq (n+m+1) (lU F r c i)):=by
 have hm:=h.hm;have hn:=h.hn;have h1:=h.l1;have g1:(vq (n+m+1) (F i))[c]? =some (qn (F i c)):=lM hc;have rq:=(h.f i hi c).rep h1;have sg:=rq.sign (by omega);have ng:=rq.neg (by omega);have NY:r<rows.length:=(List.getElem?_eq_some_iff.1 hrow).1;have va:=N2 ng.2 (nA (n:=n+m+1) (h:=lU F r c r) (λk _=>Of h hr h0 hr k) (λk hk=>SE h hr c hr hk) (show 1<=4*L+1 by omega)) (VF h hi) (by omega) (by rw[bY];omega) (by rw[bY];omega);have e0:vq (max (vq (n+m+1) (lU F r c r)).length (vq (n+m+1) (F i)).length) (λk=>-F i c*lU F r c r k+F i k)=vq (n+m+1) (lU F r c i):=by
  rw[bY,bY,Nat.max_self];refine fB (λk _=>?_);unfold lU;rw[if_pos Y,if_neg hne];grind
 rw[e0]at va;replace va:=va.1;have same:F i c=0->vq (n+m+1) (F i)=vq (n+m+1) (lU F r c i):=λq=>fB (λk _=>by
  unfold lU;rw[if_neg hne,q];grind)
 have Zi:(some (decide (oK (F i c) 0=0)):Option Bool)=some (decide (F i c=0)):=by
  congr 1;by_cases q:F i c=0
  ·rw[decide_eq_true (show oK (F i c) 0=0 from iQ.2 q),decide_eq_true q]
  rw[decide_eq_false (show ¬oK (F i c) 0=0 from λe=>q (iQ.1 e)),decide_eq_false q]
 unfold jC;replace ng:=ng.1;generalize qn (F i c)=q at*;generalize qn (-F i c)=q' at*;obtain⟨⟨_,_⟩,⟨_,_⟩⟩:=q;obtain⟨⟨_,_⟩,⟨_,_⟩⟩:=q';refine aA (bL g1)<|aA sg<|aA Zi ?_;by_cases q:F i c=0
 ·rw[<-same q];exact bQ (decide_eq_true q) Y
 exact bJ (decide_eq_false q)<|aA (bL g1)<|aA ng<|aA (cL NY)<|aA hrow<|aA va Y
theorem Og{w r:Nat}{G:Nat->Nat->Rat}{f:Nat->Rat}(hr:r<m):(mq m (λ_=>w) G).set r (vq w f)=mq m (λ_=>w) (λi=>if i=r then f else G i):=by
 apply List.ext_getElem?;intro j;rw[List.getElem?_set,eJ];by_cases hj:j<m
 ·rw[kC hj];by_cases e:r=j
  ·subst e;rw[if_pos Y,if_pos hr,kC hr,if_pos rfl]
  rw[if_neg e,kC hj,if_neg (λq=>e q.symm)]
 rw[List.getElem?_eq_none (l:=mq m _ _) (by rw[eJ];omega),List.getElem?_eq_none (l:=mq m _ _) (by rw[eJ];omega)];by_cases e:r=j
 ·rw[if_pos e,if_neg (by omega)]
 rw[if_neg e]
theorem VH(h:pQ L n m p O F b)(hL:L<=100000000){r c:Nat}(hr:r<m)(hc:c<n+m+1)(h0:F r c≠0){o0:Bool}{o1:Int}{o2:List (List Qr)}{o3:List Int}:
  dI o0 o1 o2 o3 (mq m (λ_=>n+m+1) F) r c=some (o2,o3,mq m (λ_=>n+m+1) (lU F r c)):=by
 have hm:=h.hm;have hn:=h.hn;have h1:=h.l1;have g1:(mq m (λ_=>n+m+1) F)[r]? =some (vq (n+m+1) (F r)):=kC hr;have NY:r<(mq m (λ_=>n+m+1) F).length:=by rw[eJ];exact hr
 have g2:(vq (n+m+1) (F r))[c]? =some (qn (F r c)):=lM hc;have dv:=one_eq.2.div ((h.f r hr c).rep h1) (by omega) h0;have sc:=(N3 dv.2 (VF h hr) (by omega) (by rw[bY];omega)).1;rw[bY]at sc;have e0:vq (n+m+1) (λk=>1/F r c*F r k)=vq (n+m+1) (lU F r c r):=fB (λk _=>by
  unfold lU;rw[if_pos Y,Rat.div_def,Rat.div_def];grind)
 rw[e0]at sc;have st:=fG (y:=vq (n+m+1) (lU F r c r)) NY;rw[Og hr]at st;have e1:=one_eq.1;replace dv:=dv.1;have loop:∀(o:List (List Qr)->Option ((List (List Qr))×(List Int)×(List (List Qr)))),o (mq m (λ_=>n+m+1) (lU F r c))=some (o2,o3,mq m (λ_=>n+m+1) (lU F r c))->((cu (λ(Aa:Int×(List (List Qr)))=>match Aa with|⟨pA,fX⟩=>(show Option ((Int×(List (List Qr)))⊕((List (List Qr))))from(some (decide ((pA:Int)<(m:Int)))).bind λR9=>(bif R9 then(oP fX pA).bind λzC=>(fX[zC]?).bind λET=>(some (decide ((pA:Int)≠(r:Int)))).bind λJU=>cQ (λ(tf:(List (List Qr)))=>(some (IntKind.i64.wrap (pA+1))).bind λPh=>some (.inl (Ph,tf))) λUI=>(bif JU then(jC o0 o1 o2 o3 fX ET c r).bind λKT=>(oP fX pA).bind λLY=>(stM fX LY KT).bind λYg=>UI Yg else UI fX)else some (.inr fX)))) (0,mq m (λ_=>n+m+1) (λi=>if i=r then lU F r c r else F i))).bind o)=some (o2,o3,mq m (λ_=>n+m+1) (lU F r c)):=λo ho=>by
  refine bN (λk=>((k:Int),mq m (λ_=>n+m+1) (λi=>if i=r\/i<k then lU F r c i else F i))) m (mq m (λ_=>n+m+1) (lU F r c)) ?_ (λk hk=>?_) ?_ ho
  ·refine Prod.ext Y (tK (λi hi=>⟨Y,λk _=>?_⟩));by_cases e:i=r
   ·subst e;simp
   simp[e]
  ·have gk:(mq m (λ_=>n+m+1) (λi=>if i=r\/i<k then lU F r c i else F i))[k]? =some (vq (n+m+1) (if k=r then lU F r c k else F k)):=by
    rw[kC hk];congr 2;by_cases e:k=r
    ·rw[if_pos (.inl e),if_pos e]
    rw[if_neg (by omega),if_neg e]
   have hl:(mq m (λ_=>n+m+1) (λi=>if i=r\/i<k then lU F r c i else F i)).length=m:=eJ _ _ _;have gr:(mq m (λ_=>n+m+1) (λi=>if i=r\/i<k then lU F r c i else F i))[r]? =some (vq (n+m+1) (lU F r c r)):=by
    rw[kC hr,if_pos (.inl Y)]
   by_cases e:k=r
   ·have s:mq m (λ_=>n+m+1) (λi=>if i=r\/i<k then lU F r c i else F i)=mq m (λ_=>n+m+1) (λi=>if i=r\/i<k+1 then lU F r c i else F i):=tK (λi _=>⟨Y,λ_ _=>by
     by_cases q:i=r\/i<k
     ·rw[if_pos q,if_pos (by omega)]
     rw[if_neg q,if_neg (by omega)]⟩)
    show(some (decide ((k:Int)<(m:Int)))).bind _=_;refine aA (dT (by omega))<|bQ Y<|aA (cL (by omega))<|aA gk<|aA (dF (by omega))<|bZ<|bJ Y<|aA (congrArg some (bX (by omega))) ?_;rw[s]
   rw[if_neg e]at gk;have rm:=Qo h hL hr hc h0 (o0:=o0) (o1:=o1) (o2:=o2) (o3:=o3) gr hk e;have s:(mq m (λ_=>n+m+1) (λi=>if i=r\/i<k then lU F r c i else F i)).set k (vq (n+m+1) (lU F r c k))=mq m (λ_=>n+m+1) (λi=>if i=r\/i<k+1 then lU F r c i else F i):=by
    rw[Og hk];refine tK (λi _=>⟨Y,λ_ _=>?_⟩);by_cases q:i=k
    ·subst q;rw[if_pos Y,if_pos (.inr (by omega))]
    rw[if_neg q];by_cases q2:i=r\/i<k
    ·rw[if_pos q2,if_pos (by omega)]
    rw[if_neg q2,if_neg (by omega)]
   rw[<-s];generalize mq m (λ_=>n+m+1) (λi=>if i=r\/i<k then lU F r c i else F i)=rows at*;show(some (decide ((k:Int)<(m:Int)))).bind _=_;exact aA (dT (by omega))<|bQ Y<|aA (cL (by omega))<|aA gk<|aA (dT (by omega))<|bZ<|bQ Y<|aA rm<|aA (cL (by omega))<|aA (fG (by omega))<|aA (congrArg some (bX (by omega))) Y
  have s:mq m (λ_=>n+m+1) (λi=>if i=r\/i<m then lU F r c i else F i)=mq m (λ_=>n+m+1) (lU F r c):=tK (λi hi=>⟨Y,λ_ _=>by rw[if_pos (.inr hi)]⟩);show(some (decide ((m:Int)<(m:Int)))).bind _=_;rw[s];exact aA (dF (by omega))<|bJ Y Y
 unfold dI;have scM:nh (vq (n+m+1) (F r)) (qn (1/F r c))=some (vq (n+m+1) (lU F r c r)):=by
  unfold nh;generalize qn (1/F r c)=q at*;obtain⟨⟨_,_⟩,⟨_,_⟩⟩:=q;exact aA sc Y
 generalize qn (1/F r c)=q3 at*;generalize qn (F r c)=q2 at*;generalize qn 1=q1 at*;obtain⟨⟨_,_⟩,⟨_,_⟩⟩:=q1;obtain⟨⟨_,_⟩,⟨_,_⟩⟩:=q2;obtain⟨⟨_,_⟩,⟨_,_⟩⟩:=q3;refine aA e1<|aA (cL NY)<|aA g1<|aA (bL g2)<|aA dv<|aA (cL NY)<|aA g1<|aA scM<|aA (cL NY)<|aA st<|aA (congrArg some (by rw[eJ])) ?_;refine Eq.trans (congrArg (λG=>(cu _ ((0:Int),mq m (λ_=>n+m+1) G)).bind _) ?_) (loop _ Y);funext i;by_cases e:i=r
 ·rw[if_pos e]
 rw[if_neg e]
theorem Iz(h:pQ L n m p O F b)(hL:L<=100000000){r c:Nat}(hr:r<m)(hc:c<n+m)(hb:∀j,j<m->b j≠c)(h0:F r c≠0):
  bD true n (mq p (λ_=>n) O) (bq m b) (mq m (λ_=>n+m+1) F) r c=some (0,mq p (λ_=>n) O,bq m (λj=>if j=r then c else b j),mq m (λ_=>n+m+1) (lU F r c)):=by
 have hm:=h.hm;have hn:=h.hn;have sv:=VH h hL hr (show c<n+m+1 by omega) h0 (o0:=true) (o1:=(n:Int)) (o2:=mq p (λ_=>n) O) (o3:=bq m b);have g1:(mq m (λ_=>n+m+1) F)[r]? =some (vq (n+m+1) (F r)):=kC hr;have g2:(vq (n+m+1) (F r))[c]? =some (qn (F r c)):=lM (by omega);have sg:=((h.f r hr c).rep h.l1).sign (by omega);have NY:r<(mq m (λ_=>n+m+1) F).length:=by rw[eJ];exact hr
 have OW:=vZ m b;have bs:=VE (b:=b) (c:=c) hr;have bg:∀j,j<m->(bq m b)[j]? =some ((b j:Nat):Int):=λj hj=>v9 hj;have wd:eE (⟨true,(n:Int),mq p (λ_=>n) O,bq m b,mq m (λ_=>n+m+1) F⟩:Tb)=some ((n+m:Nat):Int):=B6 hn hm;have ms:cy (⟨true,(n:Int),mq p (λ_=>n) O,bq m b,mq m (λ_=>n+m+1) F⟩:Tb)=some false:=ju n m p O F b;have rl:=eJ m (λ_=>n+m+1) F;unfold bD;rw[<-bs];generalize bq m b=B at*;generalize mq m (λ_=>n+m+1) F=rows at*;refine aA ms<|bJ Y<|bZ<|aA (dF (by omega))<|aA (a:=false) (bJ Y<|aA Y<|aA (dF (by omega)) Y)<|aA (a:=false) (bJ Y<|aA (dF (by omega)) Y)<|aA (a:=false) (bJ Y<|aA wd<|aA (dF (by omega)) Y)<|bJ Y<|aA Y ?_;refine bN (λk=>(k:Int)) m (.inl ()) Y (λk hk=>?_) ?_ ?_
 ·exact aA (dT (by omega))<|bQ Y<|aA (cL (by omega))<|aA (bg k hk)<|aA (dF (by have:=hb k hk;omega))<|bJ Y<|aA (congrArg some (bX (by omega))) Y
 ·exact aA (dF (by omega))<|bJ Y Y
 generalize qn (F r c)=q at*;obtain⟨⟨_,_⟩,⟨_,_⟩⟩:=q;exact aA (cL NY)<|aA g1<|aA (bL g2)<|aA sg<|aA (dF (λe=>h0 (iQ.1 e)))<|bJ Y<|aA sv<|aA (cL (by omega))<|aA (fG (by omega)) Y
end Zh
def nB(n m:Nat)(R:Nat->Nat->Rat)(g:Nat->Rat)(i k:Nat):Rat:=if k<n then R i k else if k=n+i then 1 else if k=n+m then g i else 0
theorem At(k w:Nat)(G:Nat->Nat->Rat):mq (k+1) (λ_=>w) G=mq k (λ_=>w) G++[vq w (G k)]:=by simp[mq,List.range_succ]
section new
variable {L M K n:Nat}{ob rw:List (List Qr)}{bd:List Qr}{O R:Nat->Nat->Rat}{g:Nat->Rat}
theorem Oh{m i:Nat}(hi:i<m):(λj=>if j=n+m then g i else if j=n+i then(1:Rat)else if j<n then R i j else 0)=nB n m R g i:=by
 funext j;unfold nB;by_cases h1:j<n
 ·rw[if_neg (by omega),if_neg (by omega),if_pos h1,if_pos h1]
 rw[if_neg h1,if_neg h1];by_cases h2:j=n+i
 ·rw[if_neg (by omega),if_pos h2,if_pos h2]
 rw[if_neg h2,if_neg h2]
theorem afw(ho:tL M ob O)(hr:tL L rw R)(hb:dA K bd g)(hM:M<=4000000000)(hL:L<=4000000000)(hK:K<=4000000000)(hv:CT n ob rw bd):
  dY ⟨(n:Int),ob,rw,bd⟩=some (true,(n:Int),mq ob.length (λ_=>n) O,bq rw.length (λj=>n+j),mq rw.length (λ_=>n+rw.length+1) (nB n rw.length R g)):=by
 obtain⟨v1,v2,v3,v4,v5,v6,v7,v8⟩:=hv;have n64:n<=64:=by omega
 have afx:∀v∈ob,v.length<=n:=nk.1 (by omega);unfold dY;refine aA Y ?_;refine bN (λk=>((k:Int),mq k (λ_=>n) O)) ob.length (mq ob.length (λ_=>n) O) Y (λk hk=>?_) ?_ ?_
 ·have g1:=ey (d:=[]) hk;have rs:=Ao (ho.row k) (by omega) (by have:=afx _ (List.mem_of_getElem? g1);omega) (n:Int);rw[show(min (n:Int) 65536).toNat=n by omega]at rs;refine aA (dT (by omega))<|bQ Y<|aA (bL g1)<|aA rs<|aA (zQ (by decide) (by rw[eJ];omega))<|aA (congrArg some (bX (by omega))) ?_;rw[At]
 ·exact aA (dF (by omega))<|bJ Y Y
 refine aA Y ?_;refine bN (λk=>((k:Int),bq k (λj=>n+j),mq k (λ_=>n+rw.length+1) (nB n rw.length R g))) rw.length (bq rw.length (λj=>n+j),mq rw.length (λ_=>n+rw.length+1) (nB n rw.length R g)) Y (λi hi=>?_) (aA (dF (by omega))<|bJ Y Y) Y;obtain⟨q,hq,rq⟩:=hb.get (i:=i) (by omega);have cn:=(rq.canon (by omega)).1;have e1:=one_eq.1;have wl:IntKind.i64.wrap ((n:Int)+(rw.length:Int))=((n+rw.length:Nat):Int):=by rw[cS (by omega) (by omega)];omega
 have wl2:IntKind.i64.wrap (((n+rw.length:Nat):Int)+1)=((n+rw.length+1:Nat):Int):=bX (by omega);have wi:IntKind.i64.wrap ((n:Int)+(i:Int))=((n+i:Nat):Int):=by rw[cS (by omega) (by omega)];omega
 refine aA (dT (by omega))<|bQ Y<|aA Y<|aA (congrArg some wl)<|aA (congrArg some wl2)<|aA (Hf (n+rw.length+1) (by omega)) ?_;rw[xG];refine bN (λk=>((k:Int),vq (n+rw.length+1) (λj=>if j<k then R i j else 0))) n (vq (n+rw.length+1) (λj=>if j<n then R i j else 0)) (by simp) (λk hk=>?_) (aA (dF (by omega))<|bJ Y Y) ?_
 ·have at_:=VB hr (by omega) i k;have s:=qC (k:=n+rw.length+1) (j:=k) (h:=λj=>if j<k then R i j else 0) (x:=R i k) (by omega);have s2:vq (n+rw.length+1) (λj=>if j=k then R i k else if j<k then R i j else 0)=vq (n+rw.length+1) (λj=>if j<k+1 then R i j else 0):=fB (λj _=>by
   by_cases e:j=k
   ·subst e;simp
   rw[if_neg e];by_cases e2:j<k
   ·rw[if_pos e2,if_pos (by omega)]
   rw[if_neg e2,if_neg (by omega)])
  rw[s2]at s;have hl:=bY (n+rw.length+1) (λj=>if j<k then R i j else 0);rw[<-s];generalize vq (n+rw.length+1) (λj=>if j<k then R i j else 0)=l at*;clear s s2;generalize qn (R i k)=q at*;obtain⟨⟨_,_⟩,⟨_,_⟩⟩:=q;exact aA (dT (by omega))<|bQ Y<|aA at_<|aA (cL (by omega))<|aA (fG (by omega))<|aA (congrArg some (bX (by omega))) Y
 have s1:=qC (k:=n+rw.length+1) (j:=n+i) (h:=λj=>if j<n then R i j else 0) (x:=1) (by omega);have s2:=qC (k:=n+rw.length+1) (j:=n+rw.length) (h:=λj=>if j=n+i then 1 else if j<n then R i j else 0) (x:=g i) (by omega);rw[Oh hi]at s2;have SR:=bY (n+rw.length+1) (λj=>if j<n then R i j else 0);have Zv:=bY (n+rw.length+1) (λj=>if j=n+i then 1 else if j<n then R i j else 0);have b1:=vZ i (λj=>n+j);have b2:=Qm i (λj=>n+j);have m1:=eJ i (λ_=>n+rw.length+1) (nB n rw.length R g);have m2:=At i (n+rw.length+1) (nB n rw.length R g);have st1:=fG (y:=qn 1) (show n+i<(vq (n+rw.length+1) (λj=>if j<n then R i j else 0)).length by omega);have st2:=fG (y:=qn (g i)) (show n+rw.length<(vq (n+rw.length+1) (λj=>if j=n+i then 1 else if j<n then R i j else 0)).length by omega);rw[s1]at st1;rw[s2]at st2;generalize vq (n+rw.length+1) (λj=>if j<n then R i j else 0)=l1 at*;generalize vq (n+rw.length+1) (λj=>if j=n+i then 1 else if j<n then R i j else 0)=l2 at*;generalize vq (n+rw.length+1) (nB n rw.length R g i)=l3 at*;generalize qn (g i)=q' at*;generalize qn 1=q1 at*;obtain⟨⟨_,_⟩,⟨_,_⟩⟩:=q;obtain⟨⟨_,_⟩,⟨_,_⟩⟩:=q';obtain⟨⟨_,_⟩,⟨_,_⟩⟩:=q1
 refine aA (congrArg some wi)<|aA e1<|aA (cL (by omega))<|aA st1<|aA Y<|aA (congrArg some (show IntKind.i64.wrap ((l2.length:Int)-1)=((n+rw.length:Nat):Int) by rw[Zv,cS (by omega) (by omega)];omega))<|aA (bL hq)<|aA cn<|aA (cL (by omega))<|aA st2<|aA (zQ (by decide) (by omega))<|aA (congrArg some wi)<|aA (zQ (by decide) (by omega))<|aA (congrArg some (bX (by omega))) ?_;rw[b2,m2]
theorem JF(ho:tL L ob O)(hr:tL L rw R)(hb:dA L bd g)(hL:2<=L)(hv:CT n ob rw bd):pQ L n rw.length ob.length O (nB n rw.length R g) (λj=>n+j):=by
 obtain⟨v1,v2,v3,v4,v5,v6,v7,v8⟩:=hv;refine⟨λi hi k=>?_,λi hi k=>(ho.row i).fq k,λi hi k hk=>?_,by omega,by omega,by omega,by omega,λj hj=>by show n+j<_;omega⟩
 ·unfold nB;split
  ·exact(hr.row i).fq k
  split
  ·exact one_eq.2.fq.mono hL
  split
  ·exact hb.fq i
  exact ur (by omega)
 unfold nB;rw[if_neg (by omega),if_neg (by omega),if_neg (by omega)]
theorem Zj(ho:tL M ob O)(hr:tL L rw R)(hb:dA K bd g)(hM:M<=4000000000)(hL:L<=4000000000)(hK:K<=4000000000)(hv:CT n ob rw bd):
  gI ⟨(n:Int),ob,rw,bd⟩=some (true,(n:Int),mq ob.length (λ_=>n) O,bq rw.length (λj=>n+j),mq rw.length (λ_=>n+rw.length+1) (nB n rw.length R g)):=by
 have v:=Oa (n:=(n:Int)) (ob:=ob) (rw:=rw) (bd:=bd) (by obtain⟨_,_,_,h,_⟩:=hv;omega) (by obtain⟨_,_,_,_,h,_⟩:=hv;omega);rw[decide_eq_true hv]at v;unfold gI;exact aA v<|aA Y<|bJ Y<|aA (afw ho hr hb hM hL hK hv) Y
end new
end
section
open Go.Fw
theorem wc(h:Nat->Rat)(n:Nat):∀m,bP h (n+m)=bP h n+bP (λj=>h (n+j)) m
 |0=>by show bP h n=bP h n+0;grind
 |m+1=>by
  show bP h (n+m)+h (n+m)=bP h n+(bP (λj=>h (n+j)) m+h (n+m));rw[wc h n m];grind
theorem yK(h:Nat->Nat->Rat)(m:Nat):∀n,bP (λi=>bP (λj=>h i j) m) n=bP (λj=>bP (λi=>h i j) n) m
 |0=>by
  show(0:Rat)=bP (λj=>(0:Rat)) m;rw[jG]
 |n+1=>by
  show bP (λi=>bP (λj=>h i j) m) n+bP (λj=>h n j) m=bP (λj=>bP (λi=>h i j) n+h n j) m;rw[yK h m n,B0]
def yL(n m:Nat)(F:Nat->Nat->Rat)(z:Nat->Rat):Prop:=∀i,i<m->bP (λk=>F i k*z k) (n+m)=F i (n+m)
def Uc(m:Nat)(F:Nat->Nat->Rat)(b:Nat->Nat):Prop:=∀i j,i<m->j<m->F i (b j)=if i=j then 1 else 0
section lU
variable {n m r c:Nat}{F:Nat->Nat->Rat}{b:Nat->Nat}{z:Nat->Rat}
theorem Du(N:Nat):bP (λk=>lU F r c r k*z k) N=(F r c)⁻¹*bP (λk=>F r k*z k) N:=by
 rw[<-oL];refine cY (λk _=>?_);unfold lU;rw[if_pos Y,Rat.div_def];grind
theorem Dv{i:Nat}(hne:i≠r)(N:Nat):bP (λk=>lU F r c i k*z k) N=bP (λk=>F i k*z k) N-F i c*((F r c)⁻¹*bP (λk=>F r k*z k) N):=by
 rw[<-oL,<-oL,<-xD];refine cY (λk _=>?_);unfold lU;rw[if_neg hne,Rat.div_def];grind
theorem JG(hr:r<m)(h0:F r c≠0):yL n m (lU F r c) z↔yL n m F z:=by
 have hi:F r c*(F r c)⁻¹=1:=Rat.mul_inv_cancel _ h0;have pr:lU F r c r (n+m)=(F r c)⁻¹*F r (n+m):=by unfold lU;rw[if_pos Y,Rat.div_def];grind
 have pi:∀i,i≠r->lU F r c i (n+m)=F i (n+m)-F i c*((F r c)⁻¹*F r (n+m)):=λi h=>by unfold lU;rw[if_neg h,Rat.div_def];grind
 constructor
 ·intro h;have e:=h r hr;rw[Du,pr]at e;have er:bP (λk=>F r k*z k) (n+m)=F r (n+m):=by
   have:=congrArg (λx=>F r c*x) e;simp only[<-Rat.mul_assoc,hi,Rat.one_mul]at this;exact this
  intro i hi';by_cases q:i=r
  ·subst q;exact er
  have e2:=h i hi';rw[Dv q,pi i q,er]at e2;grind
 intro h i hi';by_cases q:i=r
 ·subst q;rw[Du,pr,h _ hi']
 rw[Dv q,pi i q,h i hi',h r hr]
theorem Hi(hr:r<m)(h0:F r c≠0)(hu:Uc m F b):Uc m (lU F r c) (λj=>if j=r then c else b j):=by
 have hi:F r c*(F r c)⁻¹=1:=Rat.mul_inv_cancel _ h0;intro i j hi' hj;show lU F r c i (if j=r then c else b j)=_;by_cases e:j=r
 ·subst e;rw[if_pos rfl];unfold lU;by_cases q:i=j
  ·subst q;rw[if_pos Y,if_pos Y,Rat.div_def];exact hi
  rw[if_neg q,if_neg q,Rat.div_def,hi];grind
 rw[if_neg e];have z0:F r (b j)=0:=by rw[hu r j hr hj,if_neg (λq=>e q.symm)]
 unfold lU;rw[z0];by_cases q:i=r
 ·subst q;rw[if_pos Y,if_neg (λq=>e q.symm),Rat.div_def];grind
 rw[if_neg q,hu i j hi' hj,Rat.div_def];grind
theorem VI(hu:Uc m F b){i j:Nat}(hi:i<m)(hj:j<m)(e:b i=b j):i=j:=by
 by_cases q:i=j
 ·exact q
 have h1:=hu i i hi hi;have h2:=hu i j hi hj;rw[if_pos rfl]at h1;rw[if_neg q,<-e,h1]at h2;exact absurd h2 (by decide)
end lU
theorem pQ.mono{L M n m p:Nat}{O F:Nat->Nat->Rat}{b:Nat->Nat}(h:pQ L n m p O F b)(hl:L<=M):pQ M n m p O F b:=
 ⟨λi hi k=>(h.f i hi k).mono hl,λi hi k=>(h.o i hi k).mono hl,h.z,Nat.le_trans h.l1 hl,h.hn,h.hm,h.hp,h.hb⟩
theorem IA{L n m p:Nat}{O F:Nat->Nat->Rat}{b:Nat->Nat}(h:pQ L n m p O F b)(hL:L<=100000000)(hu:Uc m F b)(r c:Int):∃e F' b',
  bD true n (mq p (λ_=>n) O) (bq m b) (mq m (λ_=>n+m+1) F) r c=some (e,mq p (λ_=>n) O,bq m b',mq m (λ_=>n+m+1) F')/\pQ (4*L+1) n m p O F' b'/\Uc m F' b'/\∀z,yL n m F' z↔yL n m F z:=by
 have hm:=h.hm;have hn:=h.hn;have same:∀e,bD true n (mq p (λ_=>n) O) (bq m b) (mq m (λ_=>n+m+1) F) r c=some (e,mq p (λ_=>n) O,bq m b,mq m (λ_=>n+m+1) F)->∃e F' b',bD true n (mq p (λ_=>n) O) (bq m b) (mq m (λ_=>n+m+1) F) r c=some (e,mq p (λ_=>n) O,bq m b',mq m (λ_=>n+m+1) F')/\pQ (4*L+1) n m p O F' b'/\Uc m F' b'/\∀z,yL n m F' z↔yL n m F z:=
  λe he=>⟨e,F,b,he,h.mono (by omega),hu,λ_=>Iff.rfl⟩
 have wd:eE (⟨true,(n:Int),mq p (λ_=>n) O,bq m b,mq m (λ_=>n+m+1) F⟩:Tb)=some ((n+m:Nat):Int):=B6 hn hm;have ms:cy (⟨true,(n:Int),mq p (λ_=>n) O,bq m b,mq m (λ_=>n+m+1) F⟩:Tb)=some false:=ju n m p O F b;have rl:=eJ m (λ_=>n+m+1) F;by_cases h1:r<0
 ·refine same 1 ?_;unfold bD;exact aA ms<|bJ Y<|bZ<|aA (dT h1)<|aA (a:=true) (bQ Y Y)<|aA (a:=true) (bQ Y Y)<|aA (a:=true) (bQ Y Y)<|bQ Y Y
 by_cases h2:(m:Int)<=r
 ·refine same 1 ?_;unfold bD;exact aA ms<|bJ Y<|bZ<|aA (dF h1)<|aA (a:=true) (bJ Y<|aA Y<|aA (dT (by omega)) Y)<|aA (a:=true) (bQ Y Y)<|aA (a:=true) (bQ Y Y)<|bQ Y Y
 by_cases h3:c<0
 ·refine same 1 ?_;unfold bD;exact aA ms<|bJ Y<|bZ<|aA (dF h1)<|aA (a:=false) (bJ Y<|aA Y<|aA (dF (by omega)) Y)<|aA (a:=true) (bJ Y<|aA (dT h3) Y)<|aA (a:=true) (bQ Y Y)<|bQ Y Y
 by_cases h4:((n+m:Nat):Int)<=c
 ·refine same 1 ?_;unfold bD;exact aA ms<|bJ Y<|bZ<|aA (dF h1)<|aA (a:=false) (bJ Y<|aA Y<|aA (dF (by omega)) Y)<|aA (a:=false) (bJ Y<|aA (dF h3) Y)<|aA (a:=true) (bJ Y<|aA wd<|aA (dT h4) Y)<|bQ Y Y
 obtain⟨r,rfl⟩:∃k:Nat,r=(k:Int):=⟨r.toNat,by omega⟩;obtain⟨c,rfl⟩:∃k:Nat,c=(k:Int):=⟨c.toNat,by omega⟩;have hr:r<m:=by omega
 have hc:c<n+m:=by omega
 have g1:(mq m (λ_=>n+m+1) F)[r]? =some (vq (n+m+1) (F r)):=kC hr;have g2:(vq (n+m+1) (F r))[c]? =some (qn (F r c)):=lM (by omega);have sg:=((h.f r hr c).rep h.l1).sign (by omega);have NY:r<(mq m (λ_=>n+m+1) F).length:=by rw[eJ];exact hr
 have OW:=vZ m b;have bg:∀j,j<m->(bq m b)[j]? =some ((b j:Nat):Int):=λj hj=>v9 hj;by_cases h5:∀j,j<m->b j≠c
 ·by_cases h6:F r c=0
  ·refine same 7 ?_;unfold bD;generalize bq m b=B at*;generalize mq m (λ_=>n+m+1) F=rows at*;refine aA ms<|bJ Y<|bZ<|aA (dF (by omega))<|aA (a:=false) (bJ Y<|aA Y<|aA (dF (by omega)) Y)<|aA (a:=false) (bJ Y<|aA (dF (by omega)) Y)<|aA (a:=false) (bJ Y<|aA wd<|aA (dF (by omega)) Y)<|bJ Y<|aA Y ?_;refine bN (λk=>(k:Int)) m (.inl ()) Y (λk hk=>?_) ?_ ?_
   ·exact aA (dT (by omega))<|bQ Y<|aA (cL (by omega))<|aA (bg k hk)<|aA (dF (by have:=h5 k hk;omega))<|bJ Y<|aA (congrArg some (bX (by omega))) Y
   ·exact aA (dF (by omega))<|bJ Y Y
   generalize qn (F r c)=q at*;obtain⟨⟨_,_⟩,⟨_,_⟩⟩:=q;exact aA (cL NY)<|aA g1<|aA (bL g2)<|aA sg<|aA (dT (iQ.2 h6))<|bQ Y Y
  exact⟨0,_,_,Iz h hL hr hc h5 h6,EN h hr hc h6,Hi hr h6 hu,λz=>JG hr h6⟩
 refine same 1 ?_;unfold bD;generalize bq m b=B at*;generalize mq m (λ_=>n+m+1) F=rows at*;refine aA ms<|bJ Y<|bZ<|aA (dF (by omega))<|aA (a:=false) (bJ Y<|aA Y<|aA (dF (by omega)) Y)<|aA (a:=false) (bJ Y<|aA (dF (by omega)) Y)<|aA (a:=false) (bJ Y<|aA wd<|aA (dF (by omega)) Y)<|bJ Y<|aA Y ?_;refine aA (yJ (n:=m) (p:=λj=>b j≠c) (e:=(1,mq p (λ_=>n) O,B,rows)) (λk hk=>?_) (aA (dF (by omega))<|bJ Y Y)) ?_
 ·refine aA (dT (by omega))<|bQ Y<|aA (cL (by omega))<|aA (bg k hk)<|aA Y ?_;by_cases q:b k=c
  ·rw[if_neg (λe=>e q)];exact bQ (decide_eq_true (show((b k:Nat):Int)=(c:Int) by omega)) Y
  rw[if_pos q];exact bJ (decide_eq_false (show ¬((b k:Nat):Int)=(c:Int) by omega))<|aA (congrArg some (bX (by omega))) Y
 rw[if_neg h5]
end
section
open Go.Fw
theorem Oi(k:List Int):ES (List.replicate k.length 0) k=k:=by unfold ES;simp
theorem VJ{n m p:Nat}{O F:Nat->Nat->Rat}{b:Nat->Nat}(hm:m<=128):jr (EK n m p O F b)=some (bq m b):=by
 unfold jr;refine aA (ju n m p O F b)<|bJ Y<|aA Y<|aA (rA (n:=(bq m b).length) (by decide) (by rw[vZ];omega)) ?_;show some (ES (List.replicate (bq m b).length 0) (bq m b))=_;rw[Oi]
theorem KI(l:List Int)(h:l.length<=1000000):lC l l=some true:=by
 unfold lC;refine aA Y<|aA Y<|aA (dF (by simp))<|bJ Y ?_;refine bN (λk=>(k:Int)) l.length (.inl ()) Y (λk hk=>?_) (aA Y<|aA (dF (by omega))<|bJ Y Y) Y;have g:=List.getElem?_eq_getElem hk;exact aA Y<|aA (dT (by omega))<|bQ Y<|aA (bL g)<|aA (bL g)<|aA (dF (by simp))<|bJ Y<|aA (congrArg some (bX (by omega))) Y
def Qp(i j:Nat):Rat:=(((([[3,5]]:List (List Int)).getD i []).getD j 0:Int):Rat)
def exR(i j:Nat):Rat:=(((([[1,0],[0,2],[3,2]]:List (List Int)).getD i []).getD j 0:Int):Rat)
def exG(i:Nat):Rat:=((([4,12,18]:List Int).getD i 0:Int):Rat)
def KJ:Nat->Nat->Rat:=nB 2 3 exR exG
def Oj:Nat->Nat->Rat:=lU KJ 1 1
def VK:Nat->Nat->Rat:=lU Oj 2 0
def Ol(j:Nat):Nat:=2+j
def Qq(j:Nat):Nat:=if j=1 then 1 else Ol j
def VL(j:Nat):Nat:=if j=2 then 0 else Qq j
theorem xI{L n:Nat}{f:Nat->Rat}{v:List Qr}{k:Nat->Rat}(h:∀i,i<n->FQ L (f i))(h1:1<=L)(hL:L<=1000000000)(hv:dA 2 v k)(hn:v.length=n)(e:∀i,i<n->f i=k i):dH (vq n f) v=some true:=by
 have:=veq (Ar h h1) hv (by omega);rw[this,bY,hn,Nat.max_self,decide_eq_true (λi hi=>by rw[Aq hi];exact e i hi)]
set_option maxRecDepth 100000 in
theorem VM:ei=some true:=by
 obtain⟨eo,ro⟩:=SD (l:=[[3,5]]) (by decide) (by decide);obtain⟨er,rr⟩:=SD (l:=[[1,0],[0,2],[3,2]]) (by decide) (by decide);obtain⟨eb,rb⟩:=xE (l:=[4,12,18]) (by decide) (by decide);obtain⟨i1,q1⟩:=xE (l:=[-3,1,0]) (by decide) (by decide);obtain⟨i2,q2⟩:=xE (l:=[4,6,6]) (by decide) (by decide);obtain⟨i3,q3⟩:=xE (l:=[30,0,-6]) (by decide) (by decide);obtain⟨i4,q4⟩:=xE (l:=[2,6,2]) (by decide) (by decide);obtain⟨i5,q5⟩:=xE (l:=[2,6]) (by decide) (by decide);obtain⟨i6,q6⟩:=xE (l:=[36,-2,-6]) (by decide) (by decide);have l0:(vq [(4:Int),12,18].length (λi=>(([(4:Int),12,18].getD i 0:Int):Rat))).length=3:=bY _ _;have l1:(vq [(-3:Int),1,0].length (λi=>(([(-3:Int),1,0].getD i 0:Int):Rat))).length=3:=bY _ _;have l2:(vq [(4:Int),6,6].length (λi=>(([(4:Int),6,6].getD i 0:Int):Rat))).length=3:=bY _ _;have l3:(vq [(30:Int),0,-6].length (λi=>(([(30:Int),0,-6].getD i 0:Int):Rat))).length=3:=bY _ _;have l4:(vq [(2:Int),6,2].length (λi=>(([(2:Int),6,2].getD i 0:Int):Rat))).length=3:=bY _ _;have l5:(vq [(2:Int),6].length (λi=>(([(2:Int),6].getD i 0:Int):Rat))).length=2:=bY _ _;have l6:(vq [(36:Int),-2,-6].length (λi=>(([(36:Int),-2,-6].getD i 0:Int):Rat))).length=3:=bY _ _
 generalize hmo:mq [[(3:Int),5]].length _ _=mo at eo ro;generalize hmr:mq [[(1:Int),0],[0,2],[3,2]].length _ _=mr at er rr;generalize vq [(4:Int),12,18].length _=vb at eb rb l0;generalize vq [(-3:Int),1,0].length _=v1 at i1 q1 l1;generalize vq [(4:Int),6,6].length _=v2 at i2 q2 l2;generalize vq [(30:Int),0,-6].length _=v3 at i3 q3 l3;generalize vq [(2:Int),6,2].length _=v4 at i4 q4 l4;generalize vq [(2:Int),6].length _=v5 at i5 q5 l5;generalize vq [(36:Int),-2,-6].length _=v6 at i6 q6 l6;have lo:mo.length=1:=by rw[<-hmo,eJ];rfl
 have lr:mr.length=3:=by rw[<-hmr,eJ];rfl
 have wo:∀v∈mo,v.length<=2:=by rw[<-hmo];decide+kernel
 have wr:∀v∈mr,v.length<=2:=by rw[<-hmr];decide+kernel
 have co:oO mo<=2:=nk.2 wo;have cr:oO mr<=2:=nk.2 wr;have hv:CT ((2:Nat):Int) mo mr vb:=⟨by decide,by decide,by omega,by omega,by omega,by omega,by omega,by omega⟩;have eN:=Zj (n:=2) ro rr rb (by decide) (by decide) (by decide) hv;have k0:=JF (n:=2) ro rr rb (by decide) hv;rw[lo,lr]at eN k0;have k0:pQ 2 2 3 1 Qp KJ Ol:=k0;have eN:gI ⟨2,mo,mr,vb⟩=some (true,2,mq 1 (λ_=>2) Qp,bq 3 Ol,mq 3 (λ_=>6) KJ):=eN;have p1:KJ 1 1≠0:=by decide+kernel
 have p2:Oj 2 0≠0:=by decide+kernel
 have k1:pQ 9 2 3 1 Qp Oj Qq:=EN k0 (r:=1) (c:=1) (by decide) (by decide) p1;have k2:pQ 37 2 3 1 Qp VK VL:=EN k1 (r:=2) (c:=0) (by decide) (by decide) p2;have t1:bD true 2 (mq 1 (λ_=>2) Qp) (bq 3 Ol) (mq 3 (λ_=>6) KJ) 1 1=some (0,mq 1 (λ_=>2) Qp,bq 3 Qq,mq 3 (λ_=>6) Oj):=Iz k0 (by decide) (r:=1) (c:=1) (by decide) (by decide) (by decide+kernel) p1;have t2:bD true 2 (mq 1 (λ_=>2) Qp) (bq 3 Qq) (mq 3 (λ_=>6) Oj) 2 0=some (0,mq 1 (λ_=>2) Qp,bq 3 VL,mq 3 (λ_=>6) VK):=Iz k1 (by decide) (r:=2) (c:=0) (by decide) (by decide) (by decide+kernel) p2;have a0:jr (EK 2 3 1 Qp KJ Ol)=some [2,3,4]:=VJ (by decide);have a0':=KI [2,3,4] (by decide);have a1:=Iy k0 (by decide);have b1:=xI (λi hi=>k0.f i hi 5) (by decide) (by decide) rb l0 (by decide+kernel);have a2:=(Hg k0 (by decide) (c:=0) (by decide)).1;have b2:=xI (λi (_:i<3)=>(Hg k0 (by decide) (c:=0) (by decide)).2.fq i) (by decide) (by decide) q1 l1 (by decide+kernel);have a3:=Iy k1 (by decide);have b3:=xI (λi hi=>k1.f i hi 5) (by decide) (by decide) q2 l2 (by decide+kernel);have a4:=EM k1 (by decide);have b4:=xI (λi (_:i<3)=>As k1 (λj hj=>k1.f j hj 5) 3 (Nat.le_refl _) i) (by decide) (by decide) q3 l3 (by decide+kernel)
 have a5:=Hh k1 (by decide);rw[decide_eq_false (by decide+kernel)]at a5;have a6:=Iy k2 (by decide);have b6:=xI (λi hi=>k2.f i hi 5) (by decide) (by decide) q4 l4 (by decide+kernel);have a7:=KG k2 (by decide);have s7:∀i,i<2->FQ 37 (zT 2 3 VK VL 3 i):=λi hi=>by
  match i,hi with
  |0,_=>exact k2.f 2 (by decide) 5
  |1,_=>exact k2.f 1 (by decide) 5
 have b7:=xI s7 (by decide) (by decide) q5 l5 (by decide+kernel);have a8:=EM k2 (by decide);have b8:=xI (λi (_:i<3)=>As k2 (λj hj=>k2.f j hj 5) 3 (Nat.le_refl _) i) (by decide) (by decide) q6 l6 (by decide+kernel);have a9:=Hh k2 (by decide);rw[decide_eq_true (by decide+kernel)]at a9;have ZG:=KH k2 (by decide);rw[decide_eq_true (by decide+kernel)]at ZG;unfold ei mF;refine aA (aA eo<|aA er<|aA eb Y)<|aA eN<|bZ ?_;refine aA (a:=false) (bJ Y Y)<|aA (a:=false) (bJ Y<|aA a0<|aA a0'<|aA Y Y)<|aA (a:=false) (bJ Y<|aA a1<|aA eb<|aA b1<|aA Y Y)<|aA (a:=false) (bJ Y<|aA a2<|aA i1<|aA b2<|aA Y Y)<|bJ Y<|aA t1<|bZ ?_;refine aA (dF (by decide))<|aA (a:=false) (bJ Y<|aA a3<|aA i2<|aA b3<|aA Y Y)<|aA (a:=false) (bJ Y<|aA a4<|aA i3<|aA b4<|aA Y Y)<|aA (a:=false) (bJ Y<|aA a5 Y)<|bJ Y<|aA t2<|bZ ?_;exact aA (dT Y)<|N7 (aA a6<|aA i4<|aA b6 Y)<|N7 (aA a7<|aA i5<|aA b7 Y)<|N7 (aA a8<|aA i6<|aA b8 Y)<|N7 (aA a9 Y)<|N7 (aA ZG Y) Y
end
section
open Go.Fw
theorem Om{l:List (List Qr)}{i:Nat}{P:List Qr->Prop}(hi:i<l.length)(ht:∀v∈l.take i,P v)(hp:P l[i]):∀v∈l.take (i+1),P v:=by
 rw[List.take_add_one,List.getElem?_eq_getElem hi];intro u hu;rcases List.mem_append.1 hu with h|h
 ·exact ht u h
 simp at h;rw[h];exact hp
abbrev Zk(v:List Qr):Prop:=v.length<=20/\∀q∈v,q.num.w.length<=6/\q.den.w.length<=6
abbrev Sm8(v:List Qr):Prop:=v.length<=8/\∀q∈v,q.num.w.length<=6/\q.den.w.length<=6
theorem B8(l:List (List Qr))(hl:l.length<=9223372036854775807):∃b,gz l=some b/\(b=false->∀v∈l,Zk v):=by
 unfold gz;refine nT (λy=>∃i:Nat,y=(i:Int)/\i<=l.length/\∀v∈l.take i,Zk v) (λe=>(∃c,e=.inl c/\∀v∈l,Zk v)\/e=.inr true) (λy=>l.length-y.toNat) ?_ ⟨0,Y,by omega,by simp⟩ ?_
 ·rintro _ ⟨i,rfl,hi,ht⟩;by_cases hlt:i<l.length
  ·have g:=List.getElem?_eq_getElem hlt;by_cases h1:20<l[i].length
   ·exact .inr ⟨.inr true,aA Y<|aA (dT (by omega))<|bQ Y<|bZ<|aA (bL g)<|aA Y<|aA (dT (by omega))<|aA (a:=true) (bQ Y Y) Y,.inr Y⟩
   obtain⟨b,hb,hs⟩:=N5 l[i] (by omega);cases b
   ·refine .inl ⟨((i+1:Nat):Int),?_,⟨i+1,Y,hlt,Om hlt ht ⟨by omega,hs Y⟩⟩,by simp only[Int.toNat_natCast];omega⟩;exact aA Y<|aA (dT (by omega))<|bQ Y<|bZ<|aA (bL g)<|aA Y<|aA (dF (by omega))<|aA (a:=false) (bJ Y<|aA (bL g)<|aA hb Y)<|bJ Y<|aA (congrArg some (bX (by omega))) Y
   exact .inr ⟨.inr true,aA Y<|aA (dT (by omega))<|bQ Y<|bZ<|aA (bL g)<|aA Y<|aA (dF (by omega))<|aA (a:=true) (bJ Y<|aA (bL g)<|aA hb Y) Y,.inr Y⟩
  refine .inr ⟨.inl (),?_,.inl ⟨(),Y,?_⟩⟩
  ·exact aA Y<|aA (dF (by omega))<|bJ Y Y
  rw[List.take_of_length_le (by omega)]at ht;exact ht
 rintro e (⟨c,rfl,he⟩|rfl)
 ·exact⟨false,Y,λ_=>he⟩
 exact⟨true,rfl,λh=>by cases h⟩
theorem JH(m:List (List Qr))(h:m.length<=9223372036854775806):jD m=some (oO m:Int):=by
 unfold jD;refine bN (λj=>(((m.take j).foldl (λn v=>max n v.length) 0:Nat),(j:Int))) m.length ((oO m:Nat):Int) (by simp) (λj hj=>?_) ?_ Y
 ·refine aA Y<|aA (dT (by omega))<|bQ Y<|aA (bL (List.getElem?_eq_getElem hj))<|aA Y<|aA Y<|aA (congrArg some (bX (by omega))) ?_;rw[List.take_add_one,List.getElem?_eq_getElem hj,List.foldl_append];simp only[Option.toList_some,List.foldl_cons,List.foldl_nil];congr 3;omega
 refine aA Y<|aA (dF (by omega))<|bJ Y ?_;rw[List.take_length];rfl
theorem Hj(m:List (List Qr)):∃b,jE [m]=some b/\(b=false->m.length<=8/\∀v∈m,Sm8 v):=by
 unfold jE;have hg:cW [m] (0:Int)=some m:=rfl;by_cases h8:8<m.length
 ·refine⟨true,?_,λh=>by cases h⟩;refine bN (λj=>(j:Int)) 0 (.inr true) Y (λj hj=>by omega) ?_ Y;exact aA Y<|aA (dT (by simp))<|bQ Y<|bZ<|aA hg<|aA Y<|aA (dT (by omega))<|aA (a:=true) (bQ Y Y)<|aA (a:=true) (bQ Y Y) Y
 by_cases hc:8<oO m
 ·refine⟨true,?_,λh=>by cases h⟩;refine bN (λj=>(j:Int)) 0 (.inr true) Y (λj hj=>by omega) ?_ Y;exact aA Y<|aA (dT (by simp))<|bQ Y<|bZ<|aA hg<|aA Y<|aA (dF (by omega))<|aA (a:=true) (bJ Y<|aA hg<|aA (JH m (by omega))<|aA (dT (by omega)) Y)<|aA (a:=true) (bQ Y Y) Y
 obtain⟨b,hb,hs⟩:=B8 m (by omega);cases b
 ·refine⟨false,?_,λ_=>⟨by omega,λv hv=>⟨?_,(hs Y v hv).2⟩⟩⟩
  ·refine bN (λj=>(j:Int)) 1 (.inl ()) Y (λj hj=>?_) (aA Y<|aA (dF (by simp))<|bJ Y Y) Y;obtain rfl:j=0:=by omega
   exact aA Y<|aA (dT (by simp))<|bQ Y<|bZ<|aA hg<|aA Y<|aA (dF (by omega))<|aA (a:=false) (bJ Y<|aA hg<|aA (JH m (by omega))<|aA (dF (by omega)) Y)<|aA (a:=false) (bJ Y<|aA hg<|aA hb Y)<|bJ Y<|aA (congrArg some (bX (by omega))) Y
  have:=nk.1 (Nat.le_refl (oO m)) v hv;omega
 refine⟨true,?_,λh=>by cases h⟩;refine bN (λj=>(j:Int)) 0 (.inr true) Y (λj hj=>by omega) ?_ Y;exact aA Y<|aA (dT (by simp))<|bQ Y<|bZ<|aA hg<|aA Y<|aA (dF (by omega))<|aA (a:=false) (bJ Y<|aA hg<|aA (JH m (by omega))<|aA (dF (by omega)) Y)<|aA (a:=true) (bJ Y<|aA hg<|aA hb Y)<|bQ Y Y
theorem Qs(m:List (List Qr))(h:m.length<=1000):lA m=some (decide (∀i,i<m.length->(m.getD i []).length=0)):=by
 unfold lA;refine aA (yJ (p:=λi=>(m.getD i []).length=0) (e:=false) (n:=m.length) (λi hi=>?_) (aA Y<|aA (dF (by omega))<|bJ Y Y)) ?_
 ·refine aA Y<|aA (dT (by omega))<|bQ Y<|aA (bL (ey (d:=[]) hi))<|aA Y<|aA Y ?_;by_cases hz:(m.getD i []).length=0
  ·rw[if_pos hz];exact bJ (decide_eq_false (by omega))<|aA (congrArg some (bX (by omega))) Y
  rw[if_neg hz];exact bQ (decide_eq_true (by omega)) Y
 by_cases hp:∀i,i<m.length->(m.getD i []).length=0
 ·rw[if_pos hp,decide_eq_true hp]
 rw[if_neg hp,decide_eq_false hp]
structure Sm6 (ob rw:List (List Qr)) (bd:List Qr):Prop where
 lo:ob.length<=6
 lr:rw.length<=140
 lb:bd.length<=140
 so:∀v∈ob,Sm8 v
 sr:∀v∈rw,Sm8 v
 sb:Zk (bd.take (min bd.length 20))
theorem On{n:Int}{ob rw:List (List Qr)}{bd:List Qr}:∃b,lB ⟨n,ob,rw,bd⟩=some b/\(b=false->Sm6 ob rw bd):=by
 unfold lB;obtain⟨b1,e1,s1⟩:=Hj rw;obtain⟨b2,e2,s2⟩:=Hj ob;have Zl:ni bd=some (bd.take (min bd.length 20)):=by
  unfold ni;have hm:min (bd.length:Int) 20=((min bd.length 20:Nat):Int):=by omega
  refine aA Y<|aA (congrArg some hm)<|aA (nV (by omega)) Y
 obtain⟨b3,e3,s3⟩:=B8 [bd.take (min bd.length 20)] (by simp);by_cases c1:6<ob.length
 ·exact⟨true,bZ<|aA rfl<|aA (dT (by omega))<|aA (a:=true) (bQ rfl rfl)<|aA (a:=true) (bQ rfl rfl)<|aA (a:=true) (bQ rfl rfl)<|aA (a:=true) (bQ rfl rfl)<|aA (a:=true) (bQ rfl rfl)<|aA (a:=true) (bQ rfl rfl) rfl,λh=>by cases h⟩
 by_cases c2:140<rw.length
 ·exact⟨true,bZ<|aA rfl<|aA (dF (by omega))<|aA (a:=true) (bJ rfl<|aA rfl<|aA (dT (by omega)) rfl)<|aA (a:=true) (bQ rfl rfl)<|aA (a:=true) (bQ rfl rfl)<|aA (a:=true) (bQ rfl rfl)<|aA (a:=true) (bQ rfl rfl)<|aA (a:=true) (bQ rfl rfl) rfl,λh=>by cases h⟩
 by_cases c3:140<bd.length
 ·exact⟨true,bZ<|aA rfl<|aA (dF (by omega))<|aA (a:=false) (bJ rfl<|aA rfl<|aA (dF (by omega)) rfl)<|aA (a:=true) (bJ rfl<|aA rfl<|aA (dT (by omega)) rfl)<|aA (a:=true) (bQ rfl rfl)<|aA (a:=true) (bQ rfl rfl)<|aA (a:=true) (bQ rfl rfl)<|aA (a:=true) (bQ rfl rfl) rfl,λh=>by cases h⟩
 have eb:=Qs rw (by omega);by_cases c4:8<rw.length
 ·by_cases c5:∀i,i<rw.length->(rw.getD i []).length=0
  ·rw[decide_eq_true c5]at eb;refine⟨_,bZ<|aA Y<|aA (dF (by omega))<|aA (a:=false) (bJ Y<|aA Y<|aA (dF (by omega)) Y)<|aA (a:=false) (bJ Y<|aA Y<|aA (dF (by omega)) Y)<|aA (a:=false) (bJ Y<|aA Y<|aA (dT (by omega))<|aA (a:=false) (bQ Y<|aA eb<|aA Y Y) Y)<|aA (a:=false) (bJ Y<|aA Y<|aA (dF (by omega))<|aA (a:=false) (bJ Y Y) Y)<|Ap (λ_=>aA e2 Y)<|Ap (λ_=>aA Zl<|aA e3 Y) Y,λh=>?_⟩;simp only[Bool.false_or,Bool.or_eq_false_iff]at h;refine⟨by omega,by omega,by omega,(s2 h.1).2,λv hv=>?_,s3 h.2 _ (by simp)⟩;obtain⟨i,hi,rfl⟩:=List.getElem_of_mem hv;have:=c5 i hi;rw[List.getD_eq_getElem?_getD,List.getElem?_eq_getElem hi]at this;have h0:rw[i]=[]:=List.eq_nil_of_length_eq_zero this;rw[h0];exact⟨by decide,by simp⟩
  rw[decide_eq_false c5]at eb;exact⟨true,bZ<|aA rfl<|aA (dF (by omega))<|aA (a:=false) (bJ rfl<|aA rfl<|aA (dF (by omega)) rfl)<|aA (a:=false) (bJ rfl<|aA rfl<|aA (dF (by omega)) rfl)<|aA (a:=true) (bJ rfl<|aA rfl<|aA (dT (by omega))<|aA (a:=true) (bQ rfl<|aA eb<|aA rfl rfl) rfl)<|aA (a:=true) (bQ rfl rfl)<|aA (a:=true) (bQ rfl rfl)<|aA (a:=true) (bQ rfl rfl) rfl,λh=>by cases h⟩
 refine⟨_,bZ<|aA Y<|aA (dF (by omega))<|aA (a:=false) (bJ Y<|aA Y<|aA (dF (by omega)) Y)<|aA (a:=false) (bJ Y<|aA Y<|aA (dF (by omega)) Y)<|aA (a:=false) (bJ Y<|aA Y<|aA (dF (by omega))<|aA (a:=false) (bJ Y Y) Y)<|Ap (c:=b1) (λ_=>aA Y<|aA (dT (by omega))<|aA (a:=b1) (bQ Y<|aA e1 Y) Y)<|Ap (λ_=>aA e2 Y)<|Ap (λ_=>aA Zl<|aA e3 Y) Y,λh=>?_⟩;simp only[Bool.false_or,Bool.or_eq_false_iff]at h;exact⟨by omega,by omega,by omega,(s2 h.1.2).2,(s1 h.1.1).2,s3 h.2 _ (by simp)⟩
end
section
open Go.Fw
abbrev Zm(m:List (List Qr)):Prop:=m.length<=9223372036854775807/\∀v∈m,Zf v
abbrev OkL(p:Lr):Prop:=fz p.vars/\Zm p.uw/\Zm p.rows/\Zf p.bounds
theorem SF{m:List (List Qr)}(h:Zm m)(s:∀v∈m,Sm8 v):tL 6 m (Iv m):=
 Qk (λv hv=>Jx (λq hq=>N6 ((h.2 v hv).2 q hq) ((s v hv).2 q hq).1 ((s v hv).2 q hq).2 (by decide)) (by decide)) (by decide)
theorem SG{v:List Qr}(h:Zf v)(s:Zk v):dA 6 v (CS v):=Jx (λq hq=>N6 (h.2 q hq) (s.2 q hq).1 (s.2 q hq).2 (by decide)) (by decide)
theorem Oo{L:Nat}{u v:List Qr}{f h:Nat->Rat}(hu:dA L u f)(hv:dA L v h):dA L (u++v) (λi=>if i<u.length then f i else h (i-u.length)):=by
 refine⟨λi hi=>?_,λi hi=>?_,hu.l1⟩
 ·show kA L (u++v)[i] (if i<u.length then f i else h (i-u.length));by_cases q:i<u.length
  ·rw[if_pos q,List.getElem_append_left q];exact hu.e i q
  rw[if_neg q,List.getElem_append_right (by omega)];exact hv.e _ (by rw[List.length_append]at hi;omega)
 show(if i<u.length then f i else h (i-u.length))=0;rw[List.length_append]at hi;rw[if_neg (by omega)];exact hv.z _ (by omega)
section refs
variable {n:Int}{ob rw:List (List Qr)}{bd:List Qr}
theorem afy:kI ⟨n,ob,rw,bd⟩=some (decide (CT n ob rw bd)):=by
 have sh:∀(m:List (List Qr)),m.length<=9223372036854775806->iN m n=some (decide ((oO m:Int)<=n)):=λm hm=>by
  unfold iN;exact aA (JH m hm)<|aA Y Y
 unfold kI;refine bZ<|aA Y<|Ap (λ_=>aA Y Y)<|Ap (λ_=>aA Y<|aA Y Y)<|Ap (λ_=>aA Y<|aA Y Y)<|Ap (λ_=>aA Y<|aA Y Y)<|Ap (λ_=>aA Y<|aA Y<|aA Y Y)<|B5 (λh=>?_) (λh=>bZ<|aA (sh ob (by simp only[Bool.or_eq_false_iff,decide_eq_false_iff_not]at h;omega))<|N8 (λ_=>aA (sh rw (by simp only[Bool.or_eq_false_iff,decide_eq_false_iff_not]at h;omega)) Y) ?_)
 ·congr 1;symm;rw[decide_eq_false_iff_not];simp only[Bool.or_eq_true,decide_eq_true_eq]at h;unfold CT;omega
 congr 1;simp only[Bool.or_eq_false_iff,decide_eq_false_iff_not]at h;rw[<-Bool.decide_and,decide_eq_decide];unfold CT;omega
end refs
end
section
open Go.Fw
def wpt(n m p:Nat)(O:Nat->Nat->Rat)(z:Nat->Rat)(i:Nat):Rat:=bP (λk=>z k*kM n p O k i) (n+m)
section sol
variable {L n m p:Nat}{O F:Nat->Nat->Rat}{b:Nat->Nat}{z:Nat->Rat}
theorem VN(i:Nat):wpt n m p O z i=if i<p then bP (λk=>O i k*z k) n else if i<p+n then-z (i-p)else 0:=by
 unfold wpt;rw[wc,cY (h:=λj=>z (n+j)*kM n p O (n+j) i) (k:=λ_=>0) (λj _=>by unfold kM;rw[if_neg (by omega)];grind),jG];by_cases h1:i<p
 ·rw[if_pos h1,cY (k:=λk=>O i k*z k) (λk hk=>by unfold kM;rw[if_pos hk,if_pos h1,Rat.mul_comm])];grind
 rw[if_neg h1];by_cases h2:i<p+n
 ·rw[if_pos h2,kJ (k:=i-p) (by omega) (λk hk hne=>by unfold kM;rw[if_pos hk,if_neg h1,if_neg (by omega)];grind)];unfold kM;rw[if_pos (by omega),if_neg h1,if_pos (by omega)];grind
 rw[if_neg h2,cY (k:=λ_=>0) (λk hk=>by unfold kM;rw[if_pos hk,if_neg h1,if_neg (by omega)];grind),jG];grind
theorem Oq(h:yL n m F z)(i:Nat):bP (λk=>z k*tN n m p O F b k i) (n+m)=oV n p O b (λj=>F j (n+m)) m i-wpt n m p O z i:=by
 have e:∀k,z k*tN n m p O F b k i=bP (λj=>kM n p O (b j) i*(F j k*z k)) m-z k*kM n p O k i:=λk=>by
  unfold tN oV;have:z k*bP (λj=>F j k*kM n p O (b j) i) m=bP (λj=>kM n p O (b j) i*(F j k*z k)) m:=by
   rw[<-oL];exact cY (λj _=>by grind)
  rw[<-this];grind
 rw[cY (λk _=>e k),xD,yK];unfold oV wpt;congr 1;refine cY (λj hj=>?_);rw[oL,h j hj];exact Rat.mul_comm _ _
theorem afz{R:Nat->Nat->Rat}{g:Nat->Rat}:yL n m (nB n m R g) z↔∀i,i<m->bP (λk=>R i k*z k) n+z (n+i)=g i:=by
 refine forall_congr' λi=>forall_congr' λhi=>?_;rw[wc,cY (h:=λk=>nB n m R g i k*z k) (k:=λk=>R i k*z k) (λk hk=>by unfold nB;rw[if_pos hk]),kJ (h:=λj=>nB n m R g i (n+j)*z (n+j)) hi (λj hj hne=>by unfold nB;rw[if_neg (by omega),if_neg (by omega),if_neg (by omega)];grind)];have e1:nB n m R g i (n+i)=1:=by unfold nB;rw[if_neg (by omega),if_pos rfl]
 have e2:nB n m R g i (n+m)=g i:=by unfold nB;rw[if_neg (by omega),if_neg (by omega),if_pos rfl]
 rw[e1,e2,Rat.one_mul]
theorem Dw{R:Nat->Nat->Rat}{g:Nat->Rat}:Uc m (nB n m R g) (λj=>n+j):=λi j hi hj=>by
 show nB n m R g i (n+j)=_;unfold nB;rw[if_neg (by omega)];by_cases e:i=j
 ·rw[if_pos (by omega),if_pos e]
 rw[if_neg (by omega),if_neg (by omega),if_neg e]
end sol
def Qt:Nat->Nat
 |0=>6
 |k+1=>4*Qt k+1
theorem Zn:∀k,k<13->Qt k<=106255701:=by decide
theorem Zo:∀k,k<12->Qt k<=100000000:=by decide
abbrev afA(v:Pv):Prop:=(-9223372036854775808<=v.row/\v.row<=9223372036854775807)/\(-9223372036854775808<=v.col/\v.col<=9223372036854775807)
theorem al7:(ei.bind λx=>some x)=some true:=aA VM Y
theorem Ot{n:Int}{ob rw:List (List Qr)}{bd:List Qr}:∃b,jF ⟨n,ob,rw,bd⟩=some b/\(b=false->Sm6 ob rw bd/\(CT n ob rw bd->rw.length<=5/\n<=6)):=by
 obtain⟨b1,e1,s1⟩:=On (n:=n) (ob:=ob) (rw:=rw) (bd:=bd);have my:=afy (n:=n) (ob:=ob) (rw:=rw) (bd:=bd);unfold jF;refine⟨_,bZ<|aA e1<|Ap (c:=decide (5<rw.length)&&decide (CT n ob rw bd)) (λ_=>aA Y<|aA (congrArg some (decide_eq_decide.2 (show(5:Int)<(rw.length:Int)↔5<rw.length by omega)))<|N8 (λ_=>aA my Y) Y)<|Ap (c:=decide (6<n)&&decide (CT n ob rw bd)) (λ_=>aA Y<|N8 (λ_=>aA my Y) Y) Y,λh=>?_⟩;simp only[Bool.or_eq_false_iff,Bool.and_eq_false_iff,decide_eq_false_iff_not]at h;refine⟨s1 h.1.1,λhv=>⟨?_,?_⟩⟩
 ·rcases h.1.2 with q|q
  ·omega
  exact absurd hv q
 rcases h.2 with q|q
 ·omega
 exact absurd hv q
theorem Zp{n:Int}{ob rw:List (List Qr)}{bd:List Qr}(v:fT ⟨n,ob,rw,bd⟩=some false):oD ⟨n,ob,rw,bd⟩=some ():=by
 unfold oD;exact aA v<|aA Y<|bQ Y Y
theorem KK{n m p:Nat}{O F0:Nat->Nat->Rat}{b0:Nat->Nat}{l:List Pv}(hl:l.length<=12)(h:pQ 6 n m p O F0 b0)(hu:Uc m F0 b0){R:Type}{f:List (List Qr)×List Int×List (List Qr)->Option R}{r:R}
  (hf:∀F b,pQ 106255701 n m p O F b->Uc m F b->(∀z,yL n m F z↔yL n m F0 z)->f (mq p (λ_=>n) O,bq m b,mq m (λ_=>n+m+1) F)=some r):
  ((cu (λ(OG:Int×(List (List Qr))×(List Int)×(List (List Qr)))=>match OG with|⟨ve,ri,rj,ru⟩=>(show Option ((Int×(List (List Qr))×(List Int)×(List (List Qr)))⊕((List (List Qr))×(List Int)×(List (List Qr))))from(some (l.length:Int)).bind λvv=>(some (decide ((ve:Int)<vv))).bind λux=>(bif ux then(cW l ve).bind λ⟨Zq,agG⟩=>(cW l ve).bind λ⟨Jf,GB⟩=>(bD true n ri rj ru Zq GB).bind λ⟨x62,YI,JX,YJ⟩=>(some (IntKind.i64.wrap (ve+1))).bind λwN=>some (.inl (wN,YI,JX,YJ))else some (.inr (ri,rj,ru))))) (0,mq p (λ_=>n) O,bq m b0,mq m (λ_=>n+m+1) F0)).bind f)=some r:=by
 refine nW (λs=>∃(k:Nat) (F:Nat->Nat->Rat) (b:Nat->Nat),s=((k:Int),mq p (λ_=>n) O,bq m b,mq m (λ_=>n+m+1) F)/\k<=l.length/\pQ (Qt k) n m p O F b/\Uc m F b/\∀z,yL n m F z↔yL n m F0 z) (λe=>∃(F:Nat->Nat->Rat) (b:Nat->Nat),e=(mq p (λ_=>n) O,bq m b,mq m (λ_=>n+m+1) F)/\pQ 106255701 n m p O F b/\Uc m F b/\∀z,yL n m F z↔yL n m F0 z) (λs=>l.length-s.1.toNat) ?_ ⟨0,F0,b0,Y,Nat.zero_le _,h,hu,λ_=>Iff.rfl⟩ ?_
 ·rintro _ ⟨k,F,b,rfl,hk,ht,hu,hz⟩;by_cases hlt:k<l.length
  ·have g:=List.getElem?_eq_getElem hlt;generalize l[k]=v at g;obtain⟨r,c⟩:=v;obtain⟨e,F',b',hp,ht',hu',Zy⟩:=IA ht (Zo k (by omega)) hu r c;refine .inl ⟨(((k+1:Nat):Int),mq p (λ_=>n) O,bq m b',mq m (λ_=>n+m+1) F'),?_,⟨k+1,F',b',Y,hlt,ht',hu',λz=>(Zy z).trans (hz z)⟩,by simp only[Int.toNat_natCast];omega⟩;exact aA Y<|aA (dT (by omega))<|bQ Y<|aA (bL g)<|aA (bL g)<|aA hp<|aA (congrArg some (bX (by omega))) Y
  exact .inr ⟨_,aA Y<|aA (dF (by omega))<|bJ Y Y,F,b,Y,ht.mono (Zn k (by omega)),hu,hz⟩
 rintro _ ⟨F,b,rfl,ht,hu,hz⟩;exact hf F b ht hu hz
end
section
open Go.Fw
section two
variable {L K n m p:Nat}{O F G:Nat->Nat->Rat}{b c:Nat->Nat}
theorem Au(hb:∀j,j<m->b j<n+m)(f h:Nat->Rat):bP (λl=>f l*bP (λj=>if b j=l then h j else 0) m) (n+m)=bP (λj=>f (b j)*h j) m:=by
 rw[show(λl=>f l*bP (λj=>if b j=l then h j else 0) m)=λl=>bP (λj=>f l*(if b j=l then h j else 0)) m from funext λl=>(oL _ _ _).symm,yK];refine cY (λj hj=>?_);rw[kJ (hb j hj) (λi _ hne=>by rw[if_neg (λq=>hne q.symm)];grind),if_pos rfl]
theorem Dx(hb:∀j,j<m->b j<n+m)(hu:Uc m F b)(hs:∀z,yL n m F z->yL n m G z){i k:Nat}(hi:i<m)(hk:k<=n+m):G i k=bP (λs=>G i (b s)*F s k) m:=by
 have one:∀(h:Nat->Rat) (i:Nat),i<m->bP (λj=>F i (b j)*h j) m=h i:=λh i hi=>by
  rw[kJ hi (λj hj hne=>by rw[hu i j hi hj,if_neg (λq=>hne q.symm)];grind),hu i i hi hi,if_pos rfl];grind
 have s0:yL n m F (λl=>bP (λj=>if b j=l then F j (n+m)else 0) m):=λi hi=>by rw[Au hb,one _ i hi]
 have g0:=hs _ s0 i hi;rw[Au hb]at g0;by_cases e:k=n+m
 ·rw[e,<-g0]
 have hk':k<n+m:=by omega
 have pt:∀(f:Nat->Rat),bP (λl=>f l*(bP (λj=>if b j=l then F j (n+m)else 0) m+((if l=k then 1 else 0)-bP (λj=>if b j=l then F j k else 0) m))) (n+m)=bP (λj=>f (b j)*F j (n+m)) m+(f k-bP (λj=>f (b j)*F j k) m):=λf=>by
  rw[<-Au hb f (λj=>F j (n+m)),<-Au hb f (λj=>F j k)];have e1:f k=bP (λl=>f l*(if l=k then 1 else 0)) (n+m):=by
   rw[kJ hk' (λi _ hne=>by rw[if_neg hne];grind),if_pos rfl];grind
  rw[e1,<-xD,<-B0];exact cY (λl _=>by grind)
 have s1:yL n m F (λl=>bP (λj=>if b j=l then F j (n+m)else 0) m+((if l=k then 1 else 0)-bP (λj=>if b j=l then F j k else 0) m)):=λi hi=>by
  rw[pt (F i),one _ i hi,one _ i hi];grind
 have g1:=hs _ s1 i hi;rw[pt (G i),g0]at g1;grind
theorem Ou(hb:∀j,j<m->b j<n+m)(hu:Uc m F b)(hv:Uc m G c)(hs:∀z,yL n m F z->yL n m G z)(hc:∀s,s<m->∃j,j<m/\c j=b s){i j k:Nat}(hi:i<m)(hj:j<m)(e:c j=b i)(hk:k<=n+m):F i k=G j k:=by
 rw[Dx hb hu hs hj hk,kJ hi (λs hs' hne=>?_),<-e,hv j j hj hj,if_pos rfl]
 ·grind
 obtain⟨t,ht,et⟩:=hc s hs';rw[<-et,hv j t hj ht,if_neg (λq=>?_)]
 ·grind
 subst q;exact hne (VI hu hs' hi (et.symm.trans e))
theorem reach(h:pQ L n m p O F b)(hu:Uc m F b){G:Nat->Nat->Rat}{c:Nat->Nat}(hg:pQ (Qt 0) n m p O G c)(hv:Uc m G c)(hs:∀z,yL n m F z↔yL n m G z):∀t,t<=m->∃G' c',pQ (Qt t) n m p O G' c'/\Uc m G' c'/\(∀z,yL n m F z↔yL n m G' z)/\∀s,s<t->∃j,j<m/\c' j=b s
 |0,_=>⟨G,c,hg,hv,hs,λs hs=>by omega⟩
 |t+1,ht=>by
  obtain⟨G',c',h1,h2,h3,h4⟩:=reach h hu hg hv hs t (by omega);by_cases q:∃j,j<m/\c' j=b t
  ·refine⟨G',c',h1.mono (by show _<=4*Qt t+1;omega),h2,h3,λs hs=>?_⟩;by_cases e:s=t
   ·subst e;exact q
   exact h4 s (by omega)
  by_cases q2:∃r,r<m/\G' r (b t)≠0/\∀s,s<t->c' r≠b s
  ·obtain⟨r,hr,h0,hn⟩:=q2;refine⟨_,_,EN h1 hr (h.hb t (by omega)) h0,Hi hr h0 h2,λz=>(h3 z).trans (JG hr h0).symm,λs hs=>?_⟩;by_cases e:s=t
   ·subst e;exact⟨r,hr,if_pos Y⟩
   obtain⟨j,hj,ej⟩:=h4 s (by omega);refine⟨j,hj,?_⟩;show(if j=r then _ else c' j)=_;rw[if_neg (λ(q:j=r)=>hn s (by omega) (by rw[<-q];exact ej))];exact ej
  exfalso;have e:=Dx h1.hb h2 (λz=>(h3 z).2) (i:=t) (k:=b t) (show t<m by omega) (Nat.le_of_lt (h.hb t (by omega)));rw[hu t t (by omega) (by omega),if_pos Y,cY (k:=λ_=>0) (λs hs=>?_),jG]at e
  ·exact absurd e (by decide)
  by_cases w:G' s (b t)=0
  ·rw[w];grind
  by_cases w2:∃u,u<t/\c' s=b u
  ·obtain⟨u,VT,hu2⟩:=w2;rw[hu2,hu t u (by omega) (by omega),if_neg (by omega)];grind
  exact absurd ⟨s,hs,w,λu hu q=>w2 ⟨u,hu,q⟩⟩ q2
theorem short(h:pQ L n m p O F b)(hu:Uc m F b){G:Nat->Nat->Rat}{c:Nat->Nat}(hg:pQ 6 n m p O G c)(hv:Uc m G c)(hs:∀z,yL n m F z↔yL n m G z)(hm:m<=5):pQ 6485 n m p O F b:=by
 obtain⟨G',c',h1,h2,h3,h4⟩:=reach h hu (G:=G) (c:=c) hg hv hs m (Nat.le_refl m);have sz:Qt m<=6485:=by
  have:∀k,k<6->Qt k<=6485:=by decide
  exact this m (by omega)
 have h1:=h1.mono sz;refine⟨λi hi k=>?_,h1.o,h.z,by decide,h.hn,h.hm,h.hp,h.hb⟩;by_cases hk:k<=n+m
 ·obtain⟨j,hj,e⟩:=h4 i hi;rw[Ou h.hb hu h2 (λz=>(h3 z).1) h4 hi hj e hk];exact h1.f j hj k
 rw[h.z i hi k (by omega)];exact ur (by decide)
end two
end
section
open Go.Fw
theorem Ov(p:Lr)(x:List Qr):lj p x=uX p x:=rfl
end
end Go.Proofs.YtningmnklfpfjaaGreat
