/- A part of the proof: the framework, the plain functions, the followed functions, the plain laws. -/
import Derived.Test.YtfoldppidpmchaaGreatPPS3
set_option linter.unusedVariables false
set_option linter.unusedSimpArgs false
namespace Go.Proofs.YtfoldppidpmchaaGreat
section
open Go.Fw
noncomputable def jL(x0:List (List Qr)):Option (Bool):=(b9 (λ(xl:Int)=>(show Option ((Int)⊕((Unit)⊕(Bool)))from(some (x0.length:Int)).bind λx6=>(some (decide ((xl:Int)<x6))).bind λx7=>(bif x7 then cm (λ(IK:Bool)=>(bif IK then some (.inr (.inr true))else(some (IntKind.i64.wrap (xl+1))).bind λx9=>some (.inl x9))) λDH=>(cQ x0 xl).bind λcP=>(some (cP.length:Int)).bind λdW=>(some (decide ((20:Int)<dW))).bind λdL=>(bif dL then some true else(cQ x0 xl).bind λkN=>(lJ kN).bind λgO=>some gO).bind λNq=>DH Nq else some (.inr (.inl ()))))) 0).bind λAW=>match AW with|.inr v10=>some v10|.inl _=>some false
noncomputable def jM(x0:List (List (List Qr))):Option (Bool):=(b9 (λ(uM:Int)=>(show Option ((Int)⊕((Unit)⊕(Bool)))from(some (x0.length:Int)).bind λx6=>(some (decide ((uM:Int)<x6))).bind λx7=>(bif x7 then cm (λ(IL:Bool)=>(bif IL then some (.inr (.inr true))else(some (IntKind.i64.wrap (uM+1))).bind λx9=>some (.inl x9))) λXz=>(cQ x0 uM).bind λcP=>(some (cP.length:Int)).bind λdW=>(some (decide ((8:Int)<dW))).bind λdL=>(bif dL then some true else(cQ x0 uM).bind λkN=>(lH kN).bind λgO=>(some (decide ((8:Int)<gO))).bind λgw=>some gw).bind λNr=>(bif Nr then some true else(cQ x0 uM).bind λiL=>(jL iL).bind λir=>some ir).bind λUo=>Xz Uo else some (.inr (.inl ()))))) 0).bind λNg=>match Ng with|.inr gu=>some gu|.inl _=>some false
noncomputable def mL:Option (Lr):=(eU [[3,5]]).bind λx3=>(eU [[1,0],[0,2],[3,2]]).bind λx8=>(dh [4,12,18]).bind λdP=>some ⟨2,x3,x8,dP⟩
noncomputable def eM:Option (Bool):=(mL).bind λ⟨qc,qe,vR,vS⟩=>(qE ⟨qc,qe,vR,vS⟩).bind λ⟨⟨Ep,Er,Es,Et⟩,KE⟩=>(eU [[(-4),(-12),(-18)]]).bind λdL=>(eU [[(-1),0,(-3)],[0,(-2),(-2)]]).bind λkN=>(dh [(-3),(-5)]).bind λgO=>(dh [2,6]).bind λgV=>(oR 3 2).bind λ⟨⟨JB,JC⟩,⟨JD,JE⟩⟩=>(kI 1).bind λ⟨⟨wP,uY⟩,⟨JF,JG⟩⟩=>cm (λ(Si:Bool)=>some Si) λK36=>(iI ⟨qc,qe,vR,vS⟩).bind λye=>(bif ye then(iU ⟨qc,qe,vR,vS⟩ gV).bind λnQ=>some nQ else some false).bind λNs=>(bif Ns then(jT ⟨qc,qe,vR,vS⟩ gV).bind λpU=>(dh [36]).bind λxP=>(fH pU xP).bind λr7=>some r7 else some false).bind λUp=>(bif Up then(oM ⟨qc,qe,vR,vS⟩ gV).bind λsE=>(dh [2,0,0]).bind λWx=>(fH sE Wx).bind λuW=>some uW else some false).bind λUq=>(bif Uq then(some (decide ((KE:Int)=0))).bind λCn=>some Cn else some false).bind λNt=>(bif Nt then(fY ⟨Ep,Er,Es,Et⟩ ⟨3,dL,kN,gO⟩).bind λL9=>some L9 else some false).bind λUr=>(bif Ur then(iU ⟨Ep,Er,Es,Et⟩ [⟨⟨false,[]⟩,⟨false,[]⟩⟩,⟨⟨JB,JC⟩,⟨JD,JE⟩⟩,⟨⟨wP,uY⟩,⟨JF,JG⟩⟩]).bind λx64=>some x64 else some false).bind λUs=>(bif Us then(jT ⟨Ep,Er,Es,Et⟩ [⟨⟨false,[]⟩,⟨false,[]⟩⟩,⟨⟨JB,JC⟩,⟨JD,JE⟩⟩,⟨⟨wP,uY⟩,⟨JF,JG⟩⟩]).bind λLi=>(dh [(-36)]).bind λXA=>(fH Li XA).bind λMh=>some Mh else some false).bind λUt=>K36 Ut
noncomputable def lK(x0:List (List Qr)):Option (Bool):=(b9 (λ(m6:Int)=>(show Option ((Int)⊕((Unit)⊕(Bool)))from(some (x0.length:Int)).bind λx6=>(some (decide ((m6:Int)<x6))).bind λx7=>(bif x7 then(cQ x0 m6).bind λcP=>(some (cP.length:Int)).bind λdW=>(some (decide ((0:Int)<dW))).bind λdL=>(bif dL then some (.inr (.inr false))else(some (IntKind.i64.wrap (m6+1))).bind λx9=>some (.inl x9))else some (.inr (.inl ()))))) 0).bind λe6=>match e6 with|.inr v6=>some v6|.inl _=>some true
noncomputable def nv(x0:List Qr):Option (List Qr):=(some (x0.length:Int)).bind λx5=>(some (min (x5:Int) 20)).bind λx6=>(uG x0 0 x6).bind λx7=>some x7
noncomputable def gL(x0:Lr):Option (Bool):=match x0 with|⟨bp,bn,bD,bF⟩=>cm (λ(Sj:Bool)=>some Sj) λK59=>(some (bn.length:Int)).bind λx5=>(some (decide ((6:Int)<x5))).bind λx6=>(bif x6 then some true else(some (bD.length:Int)).bind λdP=>(some (decide ((140:Int)<dP))).bind λfN=>some fN).bind λNu=>(bif Nu then some true else(some (bF.length:Int)).bind λfy=>(some (decide ((140:Int)<fy))).bind λdS=>some dS).bind λPu=>(bif Pu then some true else(some (bD.length:Int)).bind λgw=>(some (decide ((8:Int)<gw))).bind λiQ=>(bif iQ then(lK bD).bind λiL=>(some (!iL)).bind λnR=>some nR else some false).bind λPv=>some Pv).bind λPw=>(bif Pw then some true else(some (bD.length:Int)).bind λnQ=>(some (decide ((nQ:Int)≤8))).bind λr6=>(bif r6 then(jM [bD]).bind λnY=>some nY else some false).bind λPx=>some Px).bind λPy=>(bif Py then some true else(jM [bn]).bind λsE=>some sE).bind λPz=>(bif Pz then some true else(nv bF).bind λyV=>(jL [yV]).bind λCn=>some Cn).bind λPA=>K59 PA
end
section
open Go.Fw Go.Fw.Z Go.RowKit
theorem jU{x0:List (List Qr)}{r:Bool}(h:jL x0=some r):Pure af 18 [slc 1 (List.map (eS 4 eQ) x0)] (ay r):=by
 refine bj Tryz.func18 Y (ae Y) (λdm M vs hvs=>?_)
 unfold jL at h
 refine sr<|ag Y<|dn<|qq<|sr<|ag Y<|dn<|bE h λAW sQ mY=>?_
 refine bL (λ(Bx:Unit)=>AS.cq 23 [] [] []) (λBx=>.inl Bx=AW) ?_ (λBx sS=>?_)
 refine bh ?_
 refine bM sQ (λsF=>AS.cq 23 [(0,.sv (slc 1 (List.map (eS 4 eQ) x0))),(3,ah sF)] [] []) (wR []) (λxl Ra Rb h sV pV=>?_)
 try dsimp only
 refine qq<|sr<|mv Y<|mv Y<|lE h λx6 h6 h=>ln Y h6<|lE h λx7 h7 h=>ls _ Y Y h7<|dn ?_
 cases x7
 refine cF<|bO<|aV.x<|aV.x<|bA.x<|aV.n ?_
 obtain rfl:=O (F h)
 exact⟨(),pV _ Y,wR []⟩
 refine cT<|bu<|aV.n<|qq<|bh<|qq ?_
 refine bC (V h) (λDO=>AS.cq 23 [(0,.sv (slc 1 (List.map (eS 4 eQ) x0))),(3,ah xl),(22,ai DO)] [] []) (λh=>?_) (λIK h=>?_)
 refine aW<|mv Y<|mv Y<|bE h λcP fz h=>ix Y Y fz<|lr Y Y<|lE h λdW jc h=>ln Y jc<|lE h λdL iN h=>gt _ Y Y iN<|mv Y<|bE h λNq cE h=>?_
 cases dL
 refine gm Y<|gm Y<|bE (F cE) λkN lX cE=>RT.QT (.some Y Y) Y Y T lX<|gr Y Y<|bE cE λgO mZ cE=>gc (CD mZ) ⟨Y,ak⟩ ?_
 obtain rfl:=O cE
 exact pF Y<|dn<|⟨gO,h,wR []⟩
 obtain rfl:=O (V cE)
 exact ww<|ww<|ww<|ww<|ww<|pT Y<|dn<|⟨true,h,wR []⟩
 try dsimp only
 refine aV.n ?_
 cases IK
 refine cF<|bu<|bA.n<|aV.n<|aW<|mv Y<|lE (F h) λx9 h9 h=>ad _ Y Y h9<|ag Y<|RT.done ?_
 obtain rfl:=O h
 exact aV.n ⟨x9,sV _ Y,wR []⟩
 refine cT<|sr<|ag Y<|dn<|bf<|bA.r<|aV.r ?_
 obtain rfl:=O (V h)
 have Ni:=pV _ Y
 subst Ni
 refine aV.r<|bA.r<|aV.r<|aV.r ?_
 obtain rfl:=O mY
 exact R1 Y
 subst sS
 try dsimp only
 refine aV.n<|sr<|ag Y<|dn<|bf ?_
 obtain rfl:=O mY
 exact R1 Y
theorem iV{x0:List (List (List Qr))}{r:Bool}(h:jM x0=some r):Pure af 45 [slc 1 (List.map (eS 1 (eS 4 eQ)) x0)] (ay r):=by
 refine bj Tryz.func45 Y (ae Y) (λdm M vs hvs=>?_)
 unfold jM at h
 refine sr<|ag Y<|dn<|qq<|sr<|ag Y<|dn<|bE h λNg Ea yB=>?_
 refine bL (λ(IJ:Unit)=>AS.cq 31 [] [] []) (λIJ=>.inl IJ=Ng) ?_ (λIJ Bu=>?_)
 refine bh ?_
 refine bM Ea (λEZ=>AS.cq 31 [(0,.sv (slc 1 (List.map (eS 1 (eS 4 eQ)) x0))),(3,ah EZ)] [] []) (wR []) (λuM y16 G16 h IF Eb=>?_)
 try dsimp only
 refine qq<|sr<|mv Y<|mv Y<|lE h λx6 h6 h=>ln Y h6<|lE h λx7 h7 h=>ls _ Y Y h7<|dn ?_
 cases x7
 refine cF<|bO<|aV.x<|aV.x<|bA.x<|aV.n ?_
 obtain rfl:=O (F h)
 exact⟨(),Eb _ Y,wR []⟩
 refine cT<|bu<|aV.n<|qq<|bh<|qq ?_
 refine bC (V h) (λXD=>AS.cq 31 [(0,.sv (slc 1 (List.map (eS 1 (eS 4 eQ)) x0))),(3,ah uM),(30,ai XD)] [] []) (λh=>?_) (λIL h=>?_)
 refine aW<|mv Y<|mv Y<|bE h λcP fz h=>ix Y Y fz<|lr Y Y<|lE h λdW jc h=>ln Y jc<|lE h λdL iN h=>gt _ Y Y iN<|mv Y<|bE h λNr jA h=>?_
 cases dL
 refine gm Y<|gm Y<|bE (F jA) λkN lX jA=>RT.QT (.some Y Y) Y Y T lX<|gr Y Y<|bE jA λgO mZ jA=>gc (CB mZ) ⟨Y,ak⟩<|lE jA λgw lY jA=>gg _ Y Y lY ?_
 obtain rfl:=O jA
 refine pF Y<|mv Y<|bE h λac9 n8 h=>?_
 cases gw
 refine gm Y<|gm Y<|bE (F n8) λiL o4 n8=>RT.QT (.some Y Y) Y Y T o4<|gr Y Y<|bE n8 λir mI n8=>gc (jU mI) ⟨Y,ak⟩ ?_
 obtain rfl:=O n8
 exact pF Y<|dn<|⟨ir,h,wR []⟩
 obtain rfl:=O (V n8)
 exact ww<|ww<|ww<|ww<|ww<|pT Y<|dn<|⟨true,h,wR []⟩
 obtain rfl:=O (V jA)
 refine ww<|ww<|ww<|ww<|ww<|ww<|pT Y<|mv Y<|bE h λada IG h=>?_
 obtain rfl:=O (V IG)
 exact ww<|ww<|ww<|ww<|ww<|pT Y<|dn<|⟨true,h,wR []⟩
 try dsimp only
 refine aV.n ?_
 cases IL
 refine cF<|bu<|bA.n<|aV.n<|aW<|mv Y<|lE (F h) λx9 h9 h=>ad _ Y Y h9<|ag Y<|RT.done ?_
 obtain rfl:=O h
 exact aV.n ⟨x9,IF _ Y,wR []⟩
 refine cT<|sr<|ag Y<|dn<|bf<|bA.r<|aV.r ?_
 obtain rfl:=O (V h)
 have Um:=Eb _ Y
 subst Um
 refine aV.r<|bA.r<|aV.r<|aV.r ?_
 obtain rfl:=O yB
 exact R1 Y
 subst Bu
 try dsimp only
 refine aV.n<|sr<|ag Y<|dn<|bf ?_
 obtain rfl:=O yB
 exact R1 Y
theorem By{r:Lr}(h:mL=some r):Pure af 40 [] (.agg (vu r)):=by
 refine bj Tryz.func40 Y (ae Y) (λdm M vs hvs=>?_)
 unfold mL at h
 refine sr<|al (cs:=[ax 0,slc 1 (List.map (eS 4 eQ) []),slc 1 (List.map (eS 4 eQ) []),slc 4 (List.map eQ [])]) (by exact⟨aq,aA,aA,aA,ak⟩) Y<|dn<|sr<|bl (l:=[3,5]) (e:=bK) (.one Y (.one Y (.nil))) Y Y Y Y Y Y<|bl (l:=[[3,5]]) (e:=(eS 1 bK)) (.one Y (.nil)) Y Y Y Y Y Y<|bE h λx3 h3 h=>cl (jY h3) ⟨Y,ak⟩<|bl (l:=[1,0]) (e:=bK) (.one Y (.one Y (.nil))) Y Y Y Y Y Y ?_
 refine bl (l:=[0,2]) (e:=bK) (.one Y (.one Y (.nil))) Y Y Y Y Y Y<|bl (l:=[3,2]) (e:=bK) (.one Y (.one Y (.nil))) Y Y Y Y Y Y<|bl (l:=[[1,0],[0,2],[3,2]]) (e:=(eS 1 bK)) (.one Y (.one Y (.one Y (.nil)))) Y Y Y Y Y Y<|bE h λx8 h8 h=>cl (jY h8) ⟨Y,ak⟩<|bl (l:=[4,12,18]) (e:=bK) (.one Y (.one Y (.one Y (.nil)))) Y Y Y Y Y Y<|bE h λdP gA h=>cl (fm gA) ⟨Y,ak⟩ ?_
 refine bI (cs:=[_,_,_,_]) (cs':=[ax 2,slc 1 (List.map (eS 4 eQ) x3),slc 1 (List.map (eS 4 eQ) x8),slc 4 (List.map eQ dP)]) (.one Y (.one Y (.one Y (.one Y (.nil))))) ⟨aq,aq,aq,aq,ak⟩<|so Y Y Y<|dn<|bf ?_
 obtain rfl:=O h
 exact RZ (.agg Y Y (.k4 Y Y Y Y) Y (.nil))
set_option maxHeartbeats 4000000 in
theorem lM{r:Bool}(h:eM=some r):Pure af 9 [] (ay r):=by
 refine bj Tryz.func9 Y (ae Y) (λdm M vs hvs=>?_)
 unfold eM at h
 refine sr<|ag Y<|dn<|sr ?_
 obtain⟨⟨qc,qe,vR,vS⟩,h7,h⟩:=bS h
 refine cl (By h7) trivial<|al (cs:=[ax 0,slc 1 (List.map (eS 4 eQ) []),slc 1 (List.map (eS 4 eQ) []),slc 4 (List.map eQ [])]) (by exact⟨aq,aA,aA,aA,ak⟩) Y<|so Y Y Y<|dn<|sr<|ld Y Y (.k4 Y Y Y Y) ?_
 obtain⟨⟨⟨Ep,Er,Es,Et⟩,KE⟩,gA,h⟩:=bS h
 refine cl (Iv gA) ⟨Y,ak⟩<|mv Y<|ex Y Y<|ex Y Y<|al (cs:=[ax 0,slc 1 (List.map (eS 4 eQ) []),slc 1 (List.map (eS 4 eQ) []),slc 4 (List.map eQ [])]) (by exact⟨aq,aA,aA,aA,ak⟩) Y<|so Y Y Y<|ag Y<|dn<|sr<|bl (l:=[(-4),(-12),(-18)]) (e:=bK) (.one Y (.one Y (.one Y (.nil)))) Y Y Y Y Y Y<|bl (l:=[[(-4),(-12),(-18)]]) (e:=(eS 1 bK)) (.one Y (.nil)) Y Y Y Y Y Y ?_
 refine bE h λdL iN h=>cl (jY iN) ⟨Y,ak⟩<|bl (l:=[(-1),0,(-3)]) (e:=bK) (.one Y (.one Y (.one Y (.nil)))) Y Y Y Y Y Y<|bl (l:=[0,(-2),(-2)]) (e:=bK) (.one Y (.one Y (.one Y (.nil)))) Y Y Y Y Y Y<|bl (l:=[[(-1),0,(-3)],[0,(-2),(-2)]]) (e:=(eS 1 bK)) (.one Y (.one Y (.nil))) Y Y Y Y Y Y<|bE h λkN lX h=>cl (jY lX) ⟨Y,ak⟩<|bl (l:=[(-3),(-5)]) (e:=bK) (.one Y (.one Y (.nil))) Y Y Y Y Y Y ?_
 refine bE h λgO mZ h=>cl (fm mZ) ⟨Y,ak⟩<|bI (cs:=[_,_,_,_]) (cs':=[ax 3,slc 1 (List.map (eS 4 eQ) dL),slc 1 (List.map (eS 4 eQ) kN),slc 4 (List.map eQ gO)]) (.one Y (.one Y (.one Y (.one Y (.nil))))) ⟨aq,aq,aq,aq,ak⟩<|al (cs:=[ax 0,slc 1 (List.map (eS 4 eQ) []),slc 1 (List.map (eS 4 eQ) []),slc 4 (List.map eQ [])]) (by exact⟨aq,aA,aA,aA,ak⟩) Y<|so Y Y Y ?_
 refine dn<|sr<|bl (l:=[2,6]) (e:=bK) (.one Y (.one Y (.nil))) Y Y Y Y Y Y<|bE h λgV o5 h=>cl (fm o5) ⟨Y,ak⟩<|bI (cs:=[_,_,_,_]) (cs':=[ay false,au,ay false,au]) (.nil) ⟨aq,aA,aq,aA,ak⟩ ?_
 obtain⟨⟨⟨JB,JC⟩,⟨JD,JE⟩⟩,pW,h⟩:=bS h
 refine cl (GM pW) ⟨Y,Y,ak⟩ ?_
 obtain⟨⟨⟨wP,uY⟩,⟨JF,JG⟩⟩,o4,h⟩:=bS h
 refine cl (rB o4) ⟨Y,ak⟩<|bl (l:=[⟨⟨false,[]⟩,⟨false,[]⟩⟩,⟨⟨JB,JC⟩,⟨JD,JE⟩⟩,⟨⟨wP,uY⟩,⟨JF,JG⟩⟩]) (e:=eQ) (.agg Y (.agg Y (.agg Y (.nil)))) Y Y Y Y Y Y<|ag Y<|ag Y<|dn<|qq ?_
 refine bC h (λj36=>AS.cq 74 [(0,ai j36)] [] []) (λh=>?_) (λSi h=>?_)
 refine aW<|ld Y Y (.k4 Y Y Y Y)<|bE h λye Co h=>cl (m8 Co) ⟨Y,ak⟩<|mv Y<|bE h λNs yx h=>?_
 cases ye
 obtain rfl:=O (F yx)
 refine ww<|ww<|ww<|pF Y<|mv Y<|bE h λadb GJ h=>?_
 obtain rfl:=O (F GJ)
 refine ww<|ww<|ww<|ww<|ww<|ww<|pF Y<|mv Y<|bE h λade GN h=>?_
 obtain rfl:=O (F GN)
 refine ww<|ww<|ww<|ww<|ww<|ww<|pF Y<|mv Y<|bE h λadf GO h=>?_
 obtain rfl:=O (F GO)
 refine ww<|ww<|pF Y<|mv Y<|bE h λadg Bz h=>?_
 obtain rfl:=O (F Bz)
 refine ww<|ww<|ww<|pF Y<|mv Y<|bE h λadh GP h=>?_
 obtain rfl:=O (F GP)
 refine ww<|ww<|ww<|pF Y<|mv Y<|bE h λadi BA h=>?_
 obtain rfl:=O (F BA)
 exact ww<|ww<|ww<|ww<|ww<|ww<|pF Y<|ag Y<|dn<|⟨false,h,wR []⟩
 refine gl Y Y (.k4 Y Y Y Y)<|gm Y<|bE (V yx) λnQ sW yx=>gc (tF sW) ⟨Y,Y,ak⟩ ?_
 obtain rfl:=O yx
 refine pT Y<|mv Y<|bE h λadj vI h=>?_
 cases nQ
 obtain rfl:=O (F vI)
 refine ww<|ww<|ww<|ww<|ww<|ww<|pF Y<|mv Y<|bE h λadk adl h=>?_
 obtain rfl:=O (F adl)
 refine ww<|ww<|ww<|ww<|ww<|ww<|pF Y<|mv Y<|bE h λadm adn h=>?_
 obtain rfl:=O (F adn)
 refine ww<|ww<|pF Y<|mv Y<|bE h λado adp h=>?_
 obtain rfl:=O (F adp)
 refine ww<|ww<|ww<|pF Y<|mv Y<|bE h λadq adr h=>?_
 obtain rfl:=O (F adr)
 refine ww<|ww<|ww<|pF Y<|mv Y<|bE h λads adt h=>?_
 obtain rfl:=O (F adt)
 exact ww<|ww<|ww<|ww<|ww<|ww<|pF Y<|ag Y<|dn<|⟨false,h,wR []⟩
 refine gl Y Y (.k4 Y Y Y Y)<|gm Y<|bE (V vI) λpU Cp vI=>gc (tG Cp) ⟨Y,Y,ak⟩<|RT.iY (l:=[36]) (e:=bK) (.some Y Y) (.one Y (.nil)) T Y Y Y Y Y Y<|bE vI λxP Ia vI=>gc (fm Ia) ⟨Y,ak⟩<|bE vI λr7 DP vI=>gc (lz DP) ⟨Y,Y,ak⟩ ?_
 obtain rfl:=O vI
 refine pT Y<|mv Y<|bE h λadu zM h=>?_
 cases r7
 obtain rfl:=O (F zM)
 refine ww<|ww<|ww<|ww<|ww<|ww<|pF Y<|mv Y<|bE h λadv adw h=>?_
 obtain rfl:=O (F adw)
 refine ww<|ww<|pF Y<|mv Y<|bE h λadx ady h=>?_
 obtain rfl:=O (F ady)
 refine ww<|ww<|ww<|pF Y<|mv Y<|bE h λadz adA h=>?_
 obtain rfl:=O (F adA)
 refine ww<|ww<|ww<|pF Y<|mv Y<|bE h λadB adC h=>?_
 obtain rfl:=O (F adC)
 exact ww<|ww<|ww<|ww<|ww<|ww<|pF Y<|ag Y<|dn<|⟨false,h,wR []⟩
 refine gl Y Y (.k4 Y Y Y Y)<|gm Y<|bE (V zM) λsE zK zM=>gc (Gz zK) ⟨Y,Y,ak⟩<|RT.iY (l:=[2,0,0]) (e:=bK) (.some Y Y) (.one Y (.one Y (.one Y (.nil)))) T Y Y Y Y Y Y<|bE zM λWx Tu zM=>gc (fm Tu) ⟨Y,ak⟩<|bE zM λuW Ib zM=>gc (lz Ib) ⟨Y,Y,ak⟩ ?_
 obtain rfl:=O zM
 refine pT Y<|mv Y<|bE h λadD KG h=>?_
 cases uW
 obtain rfl:=O (F KG)
 refine ww<|ww<|pF Y<|mv Y<|bE h λadE adF h=>?_
 obtain rfl:=O (F adF)
 refine ww<|ww<|ww<|pF Y<|mv Y<|bE h λadG adH h=>?_
 obtain rfl:=O (F adH)
 refine ww<|ww<|ww<|pF Y<|mv Y<|bE h λadI adJ h=>?_
 obtain rfl:=O (F adJ)
 exact ww<|ww<|ww<|ww<|ww<|ww<|pF Y<|ag Y<|dn<|⟨false,h,wR []⟩
 refine gm Y<|lE (V KG) λCn HB KG=>Tc _ Y Y (zF (p:=KE) (q:=0) HB) ?_
 obtain rfl:=O KG
 refine pT Y<|mv Y<|bE h λadK KH h=>?_
 cases Cn
 obtain rfl:=O (F KH)
 refine ww<|ww<|ww<|pF Y<|mv Y<|bE h λadL adM h=>?_
 obtain rfl:=O (F adM)
 refine ww<|ww<|ww<|pF Y<|mv Y<|bE h λadN adO h=>?_
 obtain rfl:=O (F adO)
 exact ww<|ww<|ww<|ww<|ww<|ww<|pF Y<|ag Y<|dn<|⟨false,h,wR []⟩
 refine gl Y Y (.k4 Y Y Y Y)<|gl Y Y (.k4 Y Y Y Y)<|bE (V KH) λL9 W2 KH=>gc (m9 W2) ⟨Y,Y,ak⟩ ?_
 obtain rfl:=O KH
 refine pT Y<|mv Y<|bE h λadP PB h=>?_
 cases L9
 obtain rfl:=O (F PB)
 refine ww<|ww<|ww<|pF Y<|mv Y<|bE h λadQ adR h=>?_
 obtain rfl:=O (F adR)
 exact ww<|ww<|ww<|ww<|ww<|ww<|pF Y<|ag Y<|dn<|⟨false,h,wR []⟩
 refine gl Y Y (.k4 Y Y Y Y)<|gm Y<|bE (V PB) λx64 h64 PB=>gc (tF h64) ⟨Y,Y,ak⟩ ?_
 obtain rfl:=O PB
 refine pT Y<|mv Y<|bE h λadT GQ h=>?_
 cases x64
 obtain rfl:=O (F GQ)
 exact ww<|ww<|ww<|ww<|ww<|ww<|pF Y<|ag Y<|dn<|⟨false,h,wR []⟩
 refine gl Y Y (.k4 Y Y Y Y)<|gm Y<|bE (V GQ) λLi Pc GQ=>gc (tG Pc) ⟨Y,Y,ak⟩<|RT.iY (l:=[(-36)]) (e:=bK) (.some Y Y) (.one Y (.nil)) T Y Y Y Y Y Y<|bE GQ λXA h71 GQ=>gc (fm h71) ⟨Y,ak⟩<|bE GQ λMh W9 GQ=>gc (lz W9) ⟨Y,Y,ak⟩ ?_
 obtain rfl:=O GQ
 exact pT Y<|ag Y<|dn<|⟨Mh,h,wR []⟩
 try dsimp only
 refine aV.n<|bf ?_
 obtain rfl:=O h
 exact R1 Y
theorem CE{x0:List (List Qr)}{r:Bool}(h:lK x0=some r):Pure af 44 [slc 1 (List.map (eS 4 eQ) x0)] (ay r):=by
 refine bj Tryz.func44 Y (ae Y) (λdm M vs hvs=>?_)
 unfold lK at h
 refine sr<|ag Y<|dn<|qq<|sr<|ag Y<|dn<|bE h λe6 AX jX=>?_
 refine bL (λ(H9:Unit)=>AS.cq 16 [] [] []) (λH9=>.inl H9=e6) ?_ (λH9 AY=>?_)
 refine bh ?_
 refine bM AX (λs6=>AS.cq 16 [(0,.sv (slc 1 (List.map (eS 4 eQ) x0))),(3,ah s6)] [] []) (wR []) (λm6 y6 G6 h AZ wU=>?_)
 try dsimp only
 refine qq<|sr<|mv Y<|mv Y<|lE h λx6 h6 h=>ln Y h6<|lE h λx7 h7 h=>ls _ Y Y h7<|dn ?_
 cases x7
 refine cF<|bO<|aV.x<|aV.x<|bA.x<|aV.n ?_
 obtain rfl:=O (F h)
 exact⟨(),wU _ Y,wR []⟩
 refine cT<|bu<|aV.n<|qq<|bh<|sr<|mv Y<|mv Y<|bE (V h) λcP fz h=>ix Y Y fz<|lr Y Y<|lE h λdW jc h=>ln Y jc<|lE h λdL iN h=>gt _ Y Y iN<|dn ?_
 cases dL
 refine cF<|bu<|bA.n<|aV.n<|aW<|mv Y<|lE (F h) λx9 h9 h=>ad _ Y Y h9<|ag Y<|RT.done ?_
 obtain rfl:=O h
 exact aV.n ⟨x9,AZ _ Y,wR []⟩
 refine cT<|sr<|ag Y<|dn<|bf<|bA.r<|aV.r ?_
 obtain rfl:=O (V h)
 have Mq:=wU _ Y
 subst Mq
 refine aV.r<|bA.r<|aV.r<|aV.r ?_
 obtain rfl:=O jX
 exact R1 Y
 subst AY
 try dsimp only
 refine aV.n<|sr<|ag Y<|dn<|bf ?_
 obtain rfl:=O jX
 exact R1 Y
theorem oa{x0:List Qr}{r:List Qr}(h:nv x0=some r):Pure af 46 [slc 4 (List.map eQ x0)] (slc 4 (List.map eQ r)):=by
 refine bj Tryz.func46 Y (ae Y) (λdm M vs hvs=>?_)
 unfold nv at h
 refine sr<|aI Y (aA (n:=4) (e:=eQ))<|dn<|sr<|mv Y<|mv Y<|lE h λx5 h5 h=>ln Y h5<|lE h λx6 h6 h=>RT.min .none _ Y Y T (SX (p:=x5) (q:=20) h6)<|bE h λx7 h7 h=>RT.sw .none 0 x6 Y Y ⟨_,Y⟩ T h7<|ag Y<|dn<|bf ?_
 obtain rfl:=O h
 exact R1 Y
set_option maxHeartbeats 4000000 in
theorem mM{x0:Lr}{r:Bool}(h:gL x0=some r):Pure af 10 [.agg (vu x0)] (ay r):=by
 obtain⟨bp,bn,bD,bF⟩:=x0
 refine bj Tryz.func10 Y (ae Y) (λdm M vs hvs=>?_)
 unfold gL at h
 refine sr<|bx Y<|ag Y<|dn<|qq ?_
 refine bC h (λj59=>AS.cq 56 [(2,ai j59)] [] []) (λh=>?_) (λSj h=>?_)
 refine aW<|fa Y Y<|lV Y Y Y<|lE h λx5 h5 h=>ln Y h5<|lE h λx6 h6 h=>gt _ Y Y h6<|mv Y<|bE h λNu GN h=>?_
 cases x6
 refine RT.fieldAddr (.some Y Y) Y T Y<|RT.oz (.some Y Y) Y Y Y T<|lE (F GN) λdP gA GN=>gn Y gA<|lE GN λfN kO GN=>gg _ Y Y kO ?_
 obtain rfl:=O GN
 refine pF Y<|mv Y<|bE h λadU GO h=>?_
 cases fN
 refine RT.fieldAddr (.some Y Y) Y T Y<|RT.oz (.some Y Y) Y Y Y T<|lE (F GO) λfy jo GO=>gn Y jo<|lE GO λdS jb GO=>gg _ Y Y jb ?_
 obtain rfl:=O GO
 refine pF Y<|mv Y<|bE h λadV Bz h=>?_
 cases dS
 refine RT.fieldAddr (.some Y Y) Y T Y<|RT.oz (.some Y Y) Y Y Y T<|lE (F Bz) λgw lY Bz=>gn Y lY<|lE Bz λiQ o6 Bz=>gg _ Y Y o6<|gm Y<|bE Bz λadW GP Bz=>?_
 cases iQ
 obtain rfl:=O (F GP)
 refine ww<|ww<|ww<|ww<|gF Y ?_
 obtain rfl:=O Bz
 refine pF Y<|mv Y<|bE h λadX GR h=>RT.fieldAddr (.some Y Y) Y T Y<|RT.oz (.some Y Y) Y Y Y T<|lE (F GR) λnQ sW GR=>gn Y sW<|lE GR λr6 A0 GR=>RT.leq (.some Y Y) _ Y Y T A0<|gm Y<|bE GR λadY PC GR=>?_
 cases r6
 obtain rfl:=O (F PC)
 refine ww<|ww<|ww<|ww<|gF Y ?_
 obtain rfl:=O GR
 refine pF Y<|mv Y<|bE h λadZ Uu h=>RT.fieldAddr (.some Y Y) Y T Y<|RT.oz (.some Y Y) Y Y Y T<|RT.iY (l:=[bn]) (e:=(eS 1 (eS 4 eQ))) (.some Y Y) (.one Y (.nil)) T Y Y Y Y Y Y<|bE (F Uu) λsE zK Uu=>gc (iV zK) ⟨Y,ak⟩ ?_
 obtain rfl:=O Uu
 refine pF Y<|mv Y<|bE h λad0 KP h=>?_
 cases sE
 refine RT.fieldAddr (.some Y Y) Y T Y<|RT.oz (.some Y Y) Y Y Y T<|bE (F KP) λyV FV KP=>gc (oa FV) ⟨Y,ak⟩<|RT.iY (l:=[yV]) (e:=(eS 4 eQ)) (.some Y Y) (.one Y (.nil)) T Y Y Y Y Y Y<|bE KP λCn HB KP=>gc (jU HB) ⟨Y,ak⟩ ?_
 obtain rfl:=O KP
 exact pF Y<|ag Y<|dn<|⟨Cn,h,wR []⟩
 obtain rfl:=O (V KP)
 exact ww<|ww<|ww<|ww<|ww<|pT Y<|ag Y<|dn<|⟨true,h,wR []⟩
 refine RT.fieldAddr (.some Y Y) Y T Y<|RT.oz (.some Y Y) Y Y Y T<|RT.iY (l:=[bD]) (e:=(eS 1 (eS 4 eQ))) (.some Y Y) (.one Y (.nil)) T Y Y Y Y Y Y<|bE (V PC) λnY u0 PC=>gc (iV u0) ⟨Y,ak⟩ ?_
 obtain rfl:=O PC
 refine gT Y ?_
 obtain rfl:=O GR
 refine pF Y<|mv Y<|bE h λad1 PD h=>?_
 cases nY
 refine RT.fieldAddr (.some Y Y) Y T Y<|RT.oz (.some Y Y) Y Y Y T<|RT.iY (l:=[bn]) (e:=(eS 1 (eS 4 eQ))) (.some Y Y) (.one Y (.nil)) T Y Y Y Y Y Y<|bE (F PD) λsE zK PD=>gc (iV zK) ⟨Y,ak⟩ ?_
 obtain rfl:=O PD
 refine pF Y<|mv Y<|bE h λad2 KQ h=>?_
 cases sE
 refine RT.fieldAddr (.some Y Y) Y T Y<|RT.oz (.some Y Y) Y Y Y T<|bE (F KQ) λyV FV KQ=>gc (oa FV) ⟨Y,ak⟩<|RT.iY (l:=[yV]) (e:=(eS 4 eQ)) (.some Y Y) (.one Y (.nil)) T Y Y Y Y Y Y<|bE KQ λCn HB KQ=>gc (jU HB) ⟨Y,ak⟩ ?_
 obtain rfl:=O KQ
 exact pF Y<|ag Y<|dn<|⟨Cn,h,wR []⟩
 obtain rfl:=O (V KQ)
 exact ww<|ww<|ww<|ww<|ww<|pT Y<|ag Y<|dn<|⟨true,h,wR []⟩
 obtain rfl:=O (V PD)
 refine ww<|ww<|ww<|ww<|pT Y<|mv Y<|bE h λad3 ad4 h=>?_
 obtain rfl:=O (V ad4)
 exact ww<|ww<|ww<|ww<|ww<|pT Y<|ag Y<|dn<|⟨true,h,wR []⟩
 refine RT.fieldAddr (.some Y Y) Y T Y<|RT.oz (.some Y Y) Y Y Y T<|bE (V GP) λiL o4 GP=>gc (CE o4) ⟨Y,ak⟩<|lE GP λnR vD GP=>gt_ Y _ vD ?_
 obtain rfl:=O GP
 refine gT Y ?_
 obtain rfl:=O Bz
 refine pF Y<|mv Y<|bE h λad5 BA h=>?_
 cases nR
 refine RT.fieldAddr (.some Y Y) Y T Y<|RT.oz (.some Y Y) Y Y Y T<|lE (F BA) λnQ sW BA=>gn Y sW<|lE BA λr6 A0 BA=>RT.leq (.some Y Y) _ Y Y T A0<|gm Y<|bE BA λad6 PE BA=>?_
 cases r6
 obtain rfl:=O (F PE)
 refine ww<|ww<|ww<|ww<|gF Y ?_
 obtain rfl:=O BA
 refine pF Y<|mv Y<|bE h λad7 Uv h=>RT.fieldAddr (.some Y Y) Y T Y<|RT.oz (.some Y Y) Y Y Y T<|RT.iY (l:=[bn]) (e:=(eS 1 (eS 4 eQ))) (.some Y Y) (.one Y (.nil)) T Y Y Y Y Y Y<|bE (F Uv) λsE zK Uv=>gc (iV zK) ⟨Y,ak⟩ ?_
 obtain rfl:=O Uv
 refine pF Y<|mv Y<|bE h λad8 KR h=>?_
 cases sE
 refine RT.fieldAddr (.some Y Y) Y T Y<|RT.oz (.some Y Y) Y Y Y T<|bE (F KR) λyV FV KR=>gc (oa FV) ⟨Y,ak⟩<|RT.iY (l:=[yV]) (e:=(eS 4 eQ)) (.some Y Y) (.one Y (.nil)) T Y Y Y Y Y Y<|bE KR λCn HB KR=>gc (jU HB) ⟨Y,ak⟩ ?_
 obtain rfl:=O KR
 exact pF Y<|ag Y<|dn<|⟨Cn,h,wR []⟩
 obtain rfl:=O (V KR)
 exact ww<|ww<|ww<|ww<|ww<|pT Y<|ag Y<|dn<|⟨true,h,wR []⟩
 refine RT.fieldAddr (.some Y Y) Y T Y<|RT.oz (.some Y Y) Y Y Y T<|RT.iY (l:=[bD]) (e:=(eS 1 (eS 4 eQ))) (.some Y Y) (.one Y (.nil)) T Y Y Y Y Y Y<|bE (V PE) λnY u0 PE=>gc (iV u0) ⟨Y,ak⟩ ?_
 obtain rfl:=O PE
 refine gT Y ?_
 obtain rfl:=O BA
 refine pF Y<|mv Y<|bE h λad9 PF h=>?_
 cases nY
 refine RT.fieldAddr (.some Y Y) Y T Y<|RT.oz (.some Y Y) Y Y Y T<|RT.iY (l:=[bn]) (e:=(eS 1 (eS 4 eQ))) (.some Y Y) (.one Y (.nil)) T Y Y Y Y Y Y<|bE (F PF) λsE zK PF=>gc (iV zK) ⟨Y,ak⟩ ?_
 obtain rfl:=O PF
 refine pF Y<|mv Y<|bE h λNt KS h=>?_
 cases sE
 refine RT.fieldAddr (.some Y Y) Y T Y<|RT.oz (.some Y Y) Y Y Y T<|bE (F KS) λyV FV KS=>gc (oa FV) ⟨Y,ak⟩<|RT.iY (l:=[yV]) (e:=(eS 4 eQ)) (.some Y Y) (.one Y (.nil)) T Y Y Y Y Y Y<|bE KS λCn HB KS=>gc (jU HB) ⟨Y,ak⟩ ?_
 obtain rfl:=O KS
 exact pF Y<|ag Y<|dn<|⟨Cn,h,wR []⟩
 obtain rfl:=O (V KS)
 exact ww<|ww<|ww<|ww<|ww<|pT Y<|ag Y<|dn<|⟨true,h,wR []⟩
 obtain rfl:=O (V PF)
 refine ww<|ww<|ww<|ww<|pT Y<|mv Y<|bE h λaea aeb h=>?_
 obtain rfl:=O (V aeb)
 exact ww<|ww<|ww<|ww<|ww<|pT Y<|ag Y<|dn<|⟨true,h,wR []⟩
 obtain rfl:=O (V BA)
 refine ww<|ww<|ww<|ww<|ww<|wu<|wu<|wu<|wu<|ww<|pT Y<|mv Y<|bE h λaec aed h=>?_
 obtain rfl:=O (V aed)
 refine ww<|ww<|ww<|ww<|pT Y<|mv Y<|bE h λaee aef h=>?_
 obtain rfl:=O (V aef)
 exact ww<|ww<|ww<|ww<|ww<|pT Y<|ag Y<|dn<|⟨true,h,wR []⟩
 obtain rfl:=O (V Bz)
 refine ww<|ww<|ww<|ww<|ww<|wu<|wu<|wu<|wu<|ww<|pT Y<|mv Y<|bE h λaeg aeh h=>?_
 obtain rfl:=O (V aeh)
 refine ww<|ww<|ww<|ww<|ww<|wu<|wu<|wu<|wu<|ww<|pT Y<|mv Y<|bE h λaei aej h=>?_
 obtain rfl:=O (V aej)
 refine ww<|ww<|ww<|ww<|pT Y<|mv Y<|bE h λYO XL h=>?_
 obtain rfl:=O (V XL)
 exact ww<|ww<|ww<|ww<|ww<|pT Y<|ag Y<|dn<|⟨true,h,wR []⟩
 obtain rfl:=O (V GO)
 refine ww<|ww<|ww<|ww<|pT Y<|mv Y<|bE h λYP XM h=>?_
 obtain rfl:=O (V XM)
 refine ww<|ww<|ww<|ww<|ww<|wu<|wu<|wu<|wu<|ww<|pT Y<|mv Y<|bE h λYQ XN h=>?_
 obtain rfl:=O (V XN)
 refine ww<|ww<|ww<|ww<|ww<|wu<|wu<|wu<|wu<|ww<|pT Y<|mv Y<|bE h λYR XO h=>?_
 obtain rfl:=O (V XO)
 refine ww<|ww<|ww<|ww<|pT Y<|mv Y<|bE h λYS XP h=>?_
 obtain rfl:=O (V XP)
 exact ww<|ww<|ww<|ww<|ww<|pT Y<|ag Y<|dn<|⟨true,h,wR []⟩
 obtain rfl:=O (V GN)
 refine ww<|ww<|ww<|ww<|pT Y<|mv Y<|bE h λYT XQ h=>?_
 obtain rfl:=O (V XQ)
 refine ww<|ww<|ww<|ww<|pT Y<|mv Y<|bE h λYU XR h=>?_
 obtain rfl:=O (V XR)
 refine ww<|ww<|ww<|ww<|ww<|wu<|wu<|wu<|wu<|ww<|pT Y<|mv Y<|bE h λYV XS h=>?_
 obtain rfl:=O (V XS)
 refine ww<|ww<|ww<|ww<|ww<|wu<|wu<|wu<|wu<|ww<|pT Y<|mv Y<|bE h λYW XT h=>?_
 obtain rfl:=O (V XT)
 refine ww<|ww<|ww<|ww<|pT Y<|mv Y<|bE h λYX XU h=>?_
 obtain rfl:=O (V XU)
 exact ww<|ww<|ww<|ww<|ww<|pT Y<|ag Y<|dn<|⟨true,h,wR []⟩
 try dsimp only
 refine aV.n<|bf ?_
 obtain rfl:=O h
 exact R1 Y
end
end Go.Proofs.YtfoldppidpmchaaGreat
namespace Go.Fw
section
open Go.RowKit
structure SpD where
 W:World
 Mx:Mem
 b0:Nat
 o0:Nat
 n:Nat
 sz:Nat
 hin:Mx.c8 W
 hb:0<n→∃o,Mx b0 o=some (.agg #[])
 cell:∀i k,i<n→k<sz→∃y,Mx b0 (o0+i*sz+k)=some y∧y.oneCell'=true
section
variable {P:Program}{D:SpD}{M0:Mem}{S:AS}
theorem JH:∀(xs:List Value) (l:List Value) (k:Nat),(kx l k xs).length=l.length
 |[],_,_=>rfl
 |x::xs,l,k=>by rw[kx,JH xs];simp
end
section
variable {P:Program}{C:Ctx}{ops:Array Oper}{S:AS}{nd:Bool}{K:List Ac→AS→Prop}{rest:List Oper}{acc:List Ac}
variable {gd:Option (Nat×Bool)}{rg:List Nat}{d:Nat}{ty:TypeId}{pos:String}{aft:Array Edge}{x y z:Operand}{T U E0:TypeId}{D:SpD}{M0:Mem}
instance{a:Option Addr}{n c:Nat}:VO (.v (.slice a n c)) n:=⟨λ_ v h=>⟨a,c,h⟩⟩
theorem RT.PG(hg:Gd ops S gd rg){m:Nat}[tS:eA P T E0 m]{a:Option Addr}{n c:Nat}(hx:S.ev x=.sv (.v (.slice a n c)))(hd:d<S.n)
  (next:RunT P C ops nd K rest (⟨rg++bg x,[],[],⟨some (d,.sv (.v (.int .i64 n))),[],[]⟩⟩::acc) (S.set d (.sv (.v (.int .i64 n))))):RunT P C ops nd K (⟨some d,.call ⟨.builtin .len,#[x],#[T]⟩,ty,pos,aft,gd⟩::rest) acc S:=
 RT.len hg hx hd next
theorem RT.ixC(hg:Gd ops S gd rg){sz:Nat}[tS:eA P T E0 sz]{b o n c:Nat}{kk:IntKind}{i:Nat}(hx:S.ev x=.sv (.v (.slice (some ⟨b,o,none⟩) n c)))(hy:S.ev y=.sv (.v (.int kk (i:Int))))(hd:d<S.n)(hi:i<n)
  (next:RunT P C ops nd K rest (⟨rg++(bg x++bg y),[],[],⟨some (d,.sv (.v (.pointer (some ⟨b,o+i*sz,none⟩)))),[],[]⟩⟩::acc) (S.set d (.sv (.v (.pointer (some ⟨b,o+i*sz,none⟩)))))):RunT P C ops nd K (⟨some d,.indexAddr T x y,ty,pos,aft,gd⟩::rest) acc S:=
 RT.value hg (bg x++bg y) [] [] _ hd (by intro c h;cases h) (λS' ht _ _ E a w h=>by
  have h1:a.eval x=.slice (some ⟨b,o,none⟩) n c:=by have h1:=h.ev x;rw[bB (λ_ h=>List.mem_append_left _ h) ht,hx]at h1;exact h1
  have h2:a.eval y=.int kk (i:Int):=by have h2:=h.ev y;rw[bB (λ_ h=>List.mem_append_right _ h) ht,hy]at h2;exact h2
  refine⟨.pointer (some ⟨b,o+i*sz,none⟩),?_,Y,gp⟩
  have hsz:=tS.size w
  have hb:(0:Int)≤(i:Int)∧(i:Int)<(n:Int):=⟨by omega,by omega⟩
  simp[execOp,h2,h1,Instr.indexAt,asIntOf,underlying,tS.u,hsz,fU,hb]
  exact λq=>absurd q (by omega)) next
end
section
variable {P:Program}
end
end
section
open Go.RowKit
def zv:Value→Value
 |.slice _ _ _=>.slice none 0 0
 |.bool _=>.bool false
 |.int k _=>.int k 0
 |v=>v
structure SvD where
 W:World
 Mx:Mem
 ps:List (Nat×Nat)
 sz:Nat
 hin:Mx.c8 W
 hb:∀p∈ps,∃o,Mx p.1 o=some (.agg #[])
 cell:∀p∈ps,∀k,k<sz→∃y,Mx p.1 (p.2+k)=some y∧y.oneCell'=true
section
variable {P:Program}{D:SvD}{M0:Mem}{S:AS}
end
section
variable {P:Program}{C:Ctx}{ops:Array Oper}{S:AS}{nd:Bool}{K:List Ac→AS→Prop}{rest:List Oper}{acc:List Ac}
variable {gd:Option (Nat×Bool)}{rg:List Nat}{d:Nat}{ty:TypeId}{pos:String}{aft:Array Edge}{x y z:Operand}{T U E0:TypeId}{D:SvD}{M0:Mem}
end
section
variable {P:Program}
def off{α:Type}:List (List α)→Nat→Nat
 |[],_=>0
 |_::_,0=>0
 |l::ls,i+1=>l.length+off ls i
theorem Nv{α:Type}(ls:List (List α)):off ls 0=0:=by cases ls<;>rfl
def posOf(sz n:Nat):Value→List (Nat×Nat)
 |.slice (some ⟨b,o,_⟩) _ _=>(List.range n).map λk=>(b,o+k*sz)
 |_=>[]
theorem Nw{M:Mem}{N sz:Nat}{α:Type}{e:α→List SV}{l:List α}{v:Value}(hv:(nw N (slc sz (l.map e))).h M v):∃a c,v=.slice a l.length c∧l.length≤9223372036854775807∧(posOf sz l.length v).length=l.length∧(∀k,k<l.length→∃b o,a=some ⟨b,o,none⟩∧(posOf sz l.length v)[k]? =some (b,o+k*sz))∧
  ∀p∈posOf sz l.length v,(∃o,(M.fr N) p.1 o=some (.agg #[]))∧∃x:α,(e x).length=sz∧∀(k:Nat) (s:SV),(e x)[k]? =some s→∃y,(M.fr N) p.1 (p.2+k)=some y∧y.oneCell'=true∧s.h (M.fr N) y:=by
 obtain⟨hs,hmk⟩:=hv
 rcases hs with⟨a,h1,h2⟩|⟨b,o,c,h1,h2,h3,h4⟩
 ·have hl:l=[]:=List.map_eq_nil_iff.1 h2
  subst hl h1
  refine⟨a,0,Y,by simp,?_,λk h=>by simp at h,?_⟩
  ·cases a with
   |none=>rfl
   |some a=>rfl
  ·cases a with
   |none=>intro p hp;cases hp
   |some a=>intro p hp;cases hp
 ·rw[List.length_map]at h1 h2 h3
  subst h1
  refine⟨_,c,Y,h3,by simp[posOf],λk hk=>⟨b,o,Y,by simp[posOf,hk]⟩,λp hp=>?_⟩
  simp only[posOf,List.mem_map,List.mem_range]at hp
  obtain⟨k,hk,rfl⟩:=hp
  refine⟨hmk b Y,l[k],?_⟩
  exact h4 k (e l[k]) (by rw[List.getElem?_map,List.getElem?_eq_getElem hk];rfl)
def IM(sz:Nat){α:Type}:List (List α)→List Value→List (Nat×Nat)
 |l::ls,v::vs=>posOf sz l.length v++IM sz ls vs
 |_,_=>[]
theorem JI{M:Mem}{N sz:Nat}{α:Type}{e:α→List SV}:∀{ls:List (List α)} {vs:List Value},SV.dX M (ls.map λl=>nw N (slc sz (l.map e))) vs→
  vs.length=ls.length∧(∀(i:Nat) (l:List α),ls[i]? =some l→∃a c,vs[i]? =some (.slice a l.length c)∧l.length≤9223372036854775807∧∀k,k<l.length→∃b o,a=some ⟨b,o,none⟩∧(IM sz ls vs)[off ls i+k]? =some (b,o+k*sz))∧
  ∀p∈IM sz ls vs,(∃o,(M.fr N) p.1 o=some (.agg #[]))∧∃x:α,(e x).length=sz∧∀(k:Nat) (s:SV),(e x)[k]? =some s→∃y,(M.fr N) p.1 (p.2+k)=some y∧y.oneCell'=true∧s.h (M.fr N) y
 |[],[],_=>⟨rfl,λi l h=>by simp at h,λp hp=>by cases hp⟩
 |l0::ls,v::vs,h=>by
  obtain⟨a,c,q1,q2,q3,q4,q5⟩:=Nw h.1
  obtain⟨r1,r2,r3⟩:=JI (ls:=ls) (vs:=vs) h.2
  refine⟨by simp[r1],λi l hi=>?_,λp hp=>?_⟩
  ·cases i with
   |zero=>
    simp at hi;subst hi
    refine⟨a,c,by rw[q1];rfl,q2,λk hk=>?_⟩
    obtain⟨b,o,t1,t2⟩:=q4 k hk
    refine⟨b,o,t1,?_⟩
    rw[Nv,Nat.zero_add]
    show(posOf sz l0.length v++IM sz ls vs)[k]? =_
    rw[List.getElem?_append_left (by rw[q3];exact hk)];exact t2
   |succ i=>
    obtain⟨a',c',t1,t2,t3⟩:=r2 i l (by simpa using hi)
    refine⟨a',c',by simpa using t1,t2,λk hk=>?_⟩
    obtain⟨b,o,u1,u2⟩:=t3 k hk
    refine⟨b,o,u1,?_⟩
    show(posOf sz l0.length v++IM sz ls vs)[l0.length+off ls i+k]? =_
    rw[List.getElem?_append_right (by rw[q3];omega),q3,show l0.length+off ls i+k-l0.length=off ls i+k by omega];exact u2
  ·rcases List.mem_append.1 (show p∈posOf sz l0.length v++IM sz ls vs from hp)with hp|hp
   ·exact q5 p hp
   ·exact r3 p hp
 |[],_::_,h=>h.elim
 |_::_,[],h=>h.elim
end
section
variable {P:Program}{C:Ctx}{ops:Array Oper}{S:AS}{nd:Bool}{K:List Ac→AS→Prop}{rest:List Oper}{acc:List Ac}
variable {gd:Option (Nat×Bool)}{rg:List Nat}{d:Nat}{ty:TypeId}{pos:String}{aft:Array Edge}{x y z:Operand}{T U E0:TypeId}
end
end
section
open Go.RowKit
def WoI(ln:Nat→Option Nat)(O:Nat→Prop)(w:World):Prop:=∀b n,ln b=some n→O b∧∃vs T,w.heap[b]? =some (.cells ⟨vs⟩ T (0,0))∧n≤vs.length
def CF(C:Ctx)(ln:Nat→Option Nat):Ctx:={w0:=C.w0,M0:=C.M0,own:=C.own,uO:=C.uO,iX:=C.iX,dV:=C.dV,ro:=C.ro,J:=λ_ _ O _ w=>WoI ln O w,Hw:=C.Hw,Lb:=C.Lb,jf:=λ_ _ _ _ _ _ _ j _ _ _ hs _ _ _ _ b n e=>(by
 obtain⟨h1,vs,T,h2,h3⟩:=j b n e
 exact⟨h1,vs,T,by rw[hs b (.inr h1)];exact h2,h3⟩)}
section
variable {P:Program}{C:Ctx}{S S2:AS}{E:Env}{a:Act}{w:World}{ln:Nat→Option Nat}{M2:Mem}
theorem bk.XV(h:bk (CF C ln) S E a w)(hJ:∀g go O M w,C.J g go O M w):bk C S E a w:=
 {wf:=h.wf,marks:=h.marks,size:=h.size,os:=h.os,tape:=h.tape,output:=h.output,grown:=h.grown,frame:=h.frame,m0:=h.m0,eu:=h.eu,c8:=h.c8,tm:=h.tm,bx:=h.bx,inj:=h.inj,rx:=h.rx,fu:=h.fu,iX:=h.iX,dV:=h.dV,lU:=h.lU,jj:=hJ _ _ _ _ _}
theorem bk.aek(h:bk C S E a w)(XW:M2.le E.M)(hM0:C.M0.le M2)
  (Ov:∀b n,ln b=some n→(∃o y,E.M b o=some y)∧(∀o,M2 b o=none)∧C.w0.heap.size≤b∧∃vs T,w.heap[b]? =some (.cells ⟨vs⟩ T (0,0))∧n≤vs.length)
  (hn:S2.n=S.n) (ht:∀s,(S2.t s).holds {E with M:=M2} (a.tmps.getD s undef)) (hb:∀i B,S2.b i=some B→∃B0,S.b i=some B0∧B0.T=B.T∧∀vs,w.heap[E.β i]? =some (.cells ⟨vs⟩ B.T (0,0))→c9 E B0.cells vs→c9 {E with M:=M2} B.cells vs) (hmb:∀s j,(S2.t s).mb j→∃B,S2.b j=some B) (Cb:∀i B,S2.b i=some B→∀x∈B.cells,(∀j,x.mb j→∃B',S2.b j=some B')∧∀j,x.mr j→S2.r j≠ .un) (hmr:∀s j,(S2.t s).mr j→S2.r j≠ .un)
  (hr:∀i R,S2.r i=.live R→(∃R0,S.r i=.live R0)∧∃vs:List Value,w.ownsRow 0 R.E R.sz (E.ν i) R.n vs∧SV.dX M2 R.cells vs):
  bk (CF C ln) S2 {E with M:=M2,O:=λb=>E.O b∨∃n,ln b=some n} a w:=
 {wf:=⟨hmb,hmr,λi B q x hx j hj=>(Cb i B q x hx).1 j hj,λi B q x hx j hj=>(Cb i B q x hx).2 j hj⟩
  marks:=by
   obtain⟨ds,d1,d2,d3⟩:=h.marks
   refine⟨ds,d1,d2,λr hr=>?_⟩
   obtain⟨p1,p2,p3⟩:=d3 r hr
   refine⟨p1,λq=>?_,p3⟩
   rcases q with q|⟨n,q⟩
   ·exact p2 q
   ·obtain⟨_,_,_,vs,T,e,_⟩:=Ov r n q
    rw[p3]at e;cases e
  size:=by rw[hn];exact h.size
  os:=h.os
  tape:=h.tape
  output:=h.output
  grown:=h.grown
  frame:=h.frame
  m0:=hM0
  eu:=λb o v e=>h.eu b o v (XW b o v e)
  c8:=λb o v e=>h.c8 b o v (XW b o v e)
  tm:=λs=>AV.cK (E:={E with M:=M2}) (E':={E with M:=M2,O:=λb=>E.O b∨∃n,ln b=some n}) (Mem.le_refl _) (λ_ _=>Y) (λ_ _=>Y) (ht s)
  bx:=λi B q=>by
   obtain⟨B0,q0,q1,q2⟩:=hb i B q
   obtain⟨p1,p2,p3,vs,p4,p5⟩:=h.bx i B0 q0
   rw[q1]at p4
   have XX:∀o,M2 (E.β i) o=none:=λo=>by
    cases e:M2 (E.β i) o with
    |none=>rfl
    |some y=>have:=XW _ o y e;rw[p2 o]at this;cases this
   refine⟨p1,XX,λq=>?_,vs,p4,(q2 vs p4 p5).imp (λx _ v hv=>AV.cK (E:={E with M:=M2}) (E':={E with M:=M2,O:=λb=>E.O b∨∃n,ln b=some n}) (Mem.le_refl _) (λ_ _=>Y) (λ_ _=>Y) hv)⟩
   rcases q with q|⟨n,q⟩
   ·exact p3 q
   ·obtain⟨⟨o,y,e⟩,_⟩:=Ov _ n q
    rw[p2 o]at e;cases e
  inj:=λi j B B' q q' e=>by
   obtain⟨B0,q0,_⟩:=hb i B q
   obtain⟨B1,q1,_⟩:=hb j B' q'
   exact h.inj i j B0 B1 q0 q1 e
  rx:=λi R q=>by
   obtain⟨⟨R0,q0⟩,q1⟩:=hr i R q
   refine⟨q1,λg hg=>?_⟩
   obtain⟨_,p⟩:=h.rx i R0 q0
   obtain⟨p1,p2,p3,p4⟩:=p g hg
   refine⟨p1,λo=>?_,λq=>?_,λj B q=>(by obtain⟨B0,q0,_⟩:=hb j B q;exact p4 j B0 q0)⟩
   ·show M2 g o=none
    cases e:M2 g o with
    |none=>rfl
    |some y=>have:=XW g o y e;rw[p2 o]at this;cases this
   ·rcases q with q|⟨n,q⟩
    ·exact p3 q
    ·obtain⟨⟨o,y,e⟩,_⟩:=Ov g n q
     rw[p2 o]at e;cases e
  fu:=λi j R R' q q' g e e'=>by
   obtain⟨⟨R0,q0⟩,_⟩:=hr i R q
   obtain⟨⟨R1,q1⟩,_⟩:=hr j R' q'
   exact h.fu i j R0 R1 q0 q1 g e e'
  iX:=h.iX
  dV:=h.dV
  lU:=λb q=>by
   rcases q with q|⟨n,q⟩
   ·obtain⟨p1,p2,p3⟩:=h.lU b q
    refine⟨p1,λo=>?_,p3⟩
    show M2 b o=none
    cases e:M2 b o with
    |none=>rfl
    |some y=>have:=XW b o y e;rw[p2 o]at this;cases this
   ·obtain⟨_,p2,p3,vs,T,p4,_⟩:=Ov b n q
    exact⟨(Array.getElem?_eq_some_iff.1 p4).1,p2,.inr p3⟩
  jj:=λb n q=>by
   obtain⟨_,_,_,p⟩:=Ov b n q
   exact⟨.inr ⟨n,q⟩,p⟩}
theorem XY{c:Code}{Q:Exit→AS→Prop}(hJ:∀g go O M w,C.J g go O M w)(k:∀E a w,bk C S E a w→∃ln S2,S2.holds (CF C ln) a w∧Ok P (CF C ln) c S2 Q):Ok P C c S Q:=λa w ⟨E,h⟩=>by
 obtain⟨ln,S2,h2,ok⟩:=k E a w h
 refine wpIn_mono (ok a w h2) ?_
 rintro e a' w' ⟨S',q,E',h'⟩
 exact⟨S',q,E',h'.XV hJ⟩
end
section
variable {P:Program}{C:Ctx}{ops:Array Oper}{S:AS}{nd:Bool}{K:List Ac→AS→Prop}{rest:List Oper}{acc:List Ac}
variable {gd:Option (Nat×Bool)}{rg:List Nat}{d:Nat}{ty:TypeId}{pos:String}{aft:Array Edge}{x y z:Operand}{T U E0:TypeId}{ln:Nat→Option Nat}
theorem RT.XZ(hg:Gd ops S gd rg){b o n sz:Nat}{cs:List SV}[h1s:uF cs](hx:S.ev x=.sv (.v (.pointer (some ⟨b,o,none⟩))))(hy:S.ev y=.sv (.agg cs))(hcs:cs.length=sz)(h0:0<sz)(hs:∀w:World,(sizeOf T).run P w=.ok sz w)(hl:ln b=some n)(hle:o+sz≤n)
  (next:RunT P (CF C ln) ops nd K rest (⟨rg++(bg x++bg y),[],[],⟨none,[],[]⟩⟩::acc) S):RunT P (CF C ln) ops nd K (⟨none,.store T x y,ty,pos,aft,gd⟩::rest) acc S:=by
 refine .inl ⟨_,[],[],⟨none,[],[]⟩,?_,next⟩
 rintro S' hn ht _ _ i' a w L Q ho ⟨E,h⟩ hL
 refine cI (C:=CF C ln) ho (hg.wanted h (λs hs=>ht s (List.mem_append_left _ hs)) Y) ?_
 have h1:a.eval x=.pointer (some ⟨b,o,none⟩):=by have h1:=h.ev x;rw[bB (λ_ h=>List.mem_append_right _ (List.mem_append_left _ h)) ht,hx]at h1;exact h1
 have h2:=h.ev y
 rw[bB (λ_ h=>List.mem_append_right _ (List.mem_append_right _ h)) ht,hy]at h2
 obtain⟨us,h2,hall⟩:=h2
 have hu:(a.eval y).cells=⟨us⟩:=by rw[h2];rfl
 have hone:=h1s.h _ _ hall
 have OK:us.length=sz:=by rw[←hall.length];exact hcs
 subst OK
 obtain⟨hO,vs,T',q2,q3⟩:=h.jj b n hl
 have hlen:o+us.length≤vs.length:=Nat.le_trans hle q3
 have hr:(execOp a.eval ⟨none,.store T x y,ty,pos,aft,gd⟩).run P w=.ok .skip (eP w b (kx vs o us) T'):=by
  have hst:=iC (P:=P) us 0 o w vs hone q2 (by omega)
  simp only[execOp,h1,Instr.storeAt,Instr.sureAddr,storeVar,hu]
  simp only[Sem.run_bind,Sem.run_pure,Result.andThen_ok,hs]
  simp only[List.size_toArray,ne_eq,not_true_eq_false,if_false]
  simp only[Nat.add_zero]at hst
  simp only[Result.andThen_ok,hst]
 obtain⟨hlt,hno,hge⟩:=h.lU b hO
 have other:∀k,k≠b→(eP w b (kx vs o us) T').heap[k]? =w.heap[k]? :=λk e=>gD e
 refine cJ (C:=CF C ln) (by intro c h;cases h) hr (hL _ _ ⟨E,?_⟩)
 show bk (CF C ln) S' E a _
 exact{
  wf:=h.wf
  marks:=by
   obtain⟨ds,d1,d2,d3⟩:=h.marks
   refine⟨ds,d1,d2,λr hr=>?_⟩
   obtain⟨p1,p2,p3⟩:=d3 r hr
   exact⟨p1,p2,by rw[other _ (λe=>p2 (by rw[e];exact hO))];exact p3⟩
  size:=h.size
  os:=h.os
  tape:=h.tape
  output:=h.output
  grown:=by rw[kz];exact h.grown
  frame:=λk hk ho=>by
   rw[other _ (λe=>?_)]
   ·exact h.frame k hk ho
   ·rcases hge with q|q
    ·exact ho (by rw[e];exact q)
    ·rw[e]at hk;exact absurd hk (Nat.not_lt.2 q)
  m0:=h.m0
  eu:=h.eu
  c8:=dQ h.c8 λk ⟨o,v,e⟩=>other _ (λq=>by rw[q,hno o]at e;cases e)
  tm:=h.tm
  bx:=λi B hB=>by
   obtain⟨p1,p2,p3,us,p4,p5⟩:=h.bx i B hB
   exact⟨p1,p2,p3,us,by rw[other _ (λe=>p3 (by rw[e];exact hO))];exact p4,p5⟩
  inj:=h.inj
  rx:=λi R hR=>by
   obtain⟨⟨us,p1,p2⟩,p3⟩:=h.rx i R hR
   exact⟨⟨us,dJ p1 λg hg=>other _ (λe=>(p3 g hg).2.2.1 (by rw[e];exact hO)),p2⟩,p3⟩
  fu:=h.fu
  iX:=h.iX
  dV:=h.dV
  lU:=λk hk=>by rw[kz];exact h.lU k hk
  jj:=λb' n' q=>by
   obtain⟨p1,vs',T2,p2,p3⟩:=h.jj b' n' q
   by_cases e:b'=b
   ·subst e
    rw[q2]at p2;cases p2
    exact⟨p1,kx vs o us,T',tY q2,by rw[JH];exact p3⟩
   ·exact⟨p1,vs',T2,by rw[other _ e];exact p2,p3⟩}
end
abbrev PI:=Option Addr×Nat×Nat
def Nx(h:PI):Value:=.slice h.1 h.2.1 h.2.2
def eH(h:PI):List SV:=[.v (.slice h.1 h.2.1 h.2.2)]
instance:EL eH 1:=⟨λ_=>rfl,λh=>⟨λ_ vs q=>by
 match vs,q with
 |[v],q=>intro u hu;obtain rfl:=List.mem_singleton.1 hu;rw[show u=.slice h.1 h.2.1 h.2.2 from q.1];rfl⟩⟩
def Uw(ln:Nat→Option Nat)(h:PI):Prop:=h.2.1≤9223372036854775807∧∀k,k<h.2.1→∃b o n,h.1=some ⟨b,o,none⟩∧ln b=some n∧o+k*4+4≤n
theorem GS{N:Nat}:∀ls:List (List Qr),ls.flatMap (fS N 4 (fQ N))=ls.map λl=>nw N (slc 4 (l.map (fQ N)))
 |[]=>rfl
 |l::ls=>by rw[List.flatMap_cons,GS ls];rfl
theorem GU{M:Mem}{s:SV}{u:Value}:∀{l:List SV} {vs:List Value},SV.dX M l vs→s.h M u→SV.dX M (l++[s]) (vs++[u])
 |[],[],_,hu=>⟨hu,ak⟩
 |_::_,_::_,h,hu=>⟨h.1,GU h.2 hu⟩
 |[],_::_,h,_=>h.elim
 |_::_,[],h,_=>h.elim
theorem Ny{M:Mem}:∀hs:List PI,SV.dX M (hs.flatMap eH) (hs.map Nx)
 |[]=>trivial
 |_::hs=>⟨Y,Ny hs⟩
theorem Sk{ln:Nat→Option Nat}:∀{ls:List (List Qr)} {us:List Value},us.length=ls.length→(∀(i:Nat) (l:List Qr),ls[i]? =some l→∃h:PI,us[i]? =some (Nx h)∧Uw ln h)→∃hs:List PI,us=hs.map Nx∧∀h∈hs,Uw ln h
 |[],[],_,_=>⟨[],rfl,λh q=>by cases q⟩
 |l::ls,u::us,hl,h=>by
  obtain⟨h0,q1,q2⟩:=h 0 l Y
  obtain⟨hs,q3,q4⟩:=Sk (ls:=ls) (us:=us) (by simpa using hl) (λi l hi=>h (i+1) l (by simpa using hi))
  have q1:u=Nx h0:=by simpa using q1
  refine⟨h0::hs,by rw[List.map_cons,←q1,←q3],λh hm=>?_⟩
  rcases List.mem_cons.1 hm with rfl|hm
  ·exact q2
  ·exact q4 h hm
 |[],_::_,hl,_=>by simp at hl
 |_::_,[],hl,_=>by simp at hl
theorem PJ{C:Ctx}{S:AS}{E:Env}{a:Act}{w:World}(h:bk C S E a w){j:Nat}{E0:TypeId}{N:Nat}{ls:List (List Qr)}{lb:List Qr}(hR:S.r j=.live (TR E0 1 (fS N 4 (fQ N)) ls))(hN:C.w0.heap.size≤N){ub:Value}(hu:(nw N (slc 4 (lb.map (fQ N)))).h E.M ub):
  ∃(hs:List PI) (hb:PI) (ln:Nat→Option Nat),w.ownsRow 0 E0 1 (E.ν j) hs.length (hs.map Nx)∧(∀h∈hs,Uw ln h)∧ub=Nx hb∧Uw ln hb∧
   ∀b n,ln b=some n→(∃o y,E.M b o=some y)∧(∀o,E.M.to N b o=none)∧C.w0.heap.size≤b∧∃vs T,w.heap[b]? =some (.cells ⟨vs⟩ T (0,0))∧n≤vs.length:=by
 obtain⟨⟨us,ho,hall⟩,_⟩:=h.rx j _ hR
 have hall:SV.dX E.M (ls.flatMap (fS N 4 (fQ N))) us:=hall
 rw[GS]at hall
 have X0:SV.dX E.M ((ls++[lb]).map λl=>nw N (slc 4 (l.map (fQ N)))) (us++[ub]):=by
  rw[List.map_append];exact GU hall hu
 obtain⟨r1,r2,r3⟩:=JI (M:=E.M) (N:=N) (sz:=4) (e:=fQ N) X0
 have OK:us.length=ls.length:=by simpa using r1
 generalize IM 4 (ls++[lb]) (us++[ub])=ps at r2 r3
 obtain⟨ln,Ov⟩:∃ln:Nat→Option Nat,∀b n,ln b=some n↔(∃p∈ps,p.1=b)∧∃vs T,w.heap[b]? =some (.cells ⟨vs⟩ T (0,0))∧vs.length=n:=by
  refine⟨λb=>@ite _ (∃p∈ps,p.1=b) (Classical.propDecidable _) (match w.heap[b]? with|some (.cells c _ (0,0))=>some c.size|_=>none) none,λb n=>?_⟩
  dsimp only
  by_cases q:∃p∈ps,p.1=b
  ·rw[if_pos q]
   constructor
   ·intro e
    refine⟨q,?_⟩
    split at e
    ·rename_i c T hc
     cases e
     exact⟨c.toList,T,by simpa using hc,by simp⟩
    ·cases e
   ·rintro⟨_,vs,T,e1,e2⟩
    rw[e1];simp[e2]
  ·rw[if_neg q]
   constructor
   ·intro e;cases e
   ·rintro⟨q2,_⟩;exact absurd q2 q
 have key:∀p∈ps,∃n,ln p.1=some n∧p.2+4≤n:=λp hp=>by
  obtain⟨⟨o,q1⟩,x,q2,q3⟩:=r3 p hp
  obtain⟨c,T,hc⟩:=(show ∃c T,w.heap[p.1]? =some (.cells c T (0,0))from h.c8 _ _ _ (Mem.Jm _ _ _ _ _ q1))
  obtain⟨y,q4,q5,_⟩:=q3 3 _ (List.getElem?_eq_getElem (by omega))
  have e:=(h.c8 _ _ _ (Mem.Jm _ _ _ _ _ q4)).cell q5
  simp only[World.cell?,hc]at e
  have hlt:p.2+3<c.size:=by
   simp only[Option.isSome_none,Bool.false_eq_true,if_false]at e
   exact(Array.getElem?_eq_some_iff.1 e).1
  exact⟨c.size,(Ov _ _).2 ⟨⟨p,hp,Y⟩,c.toList,T,by simpa using hc,by simp⟩,hlt⟩
 have one:∀(i:Nat) (l:List Qr),(ls++[lb])[i]? =some l→∃h:PI,(us++[ub])[i]? =some (Nx h)∧Uw ln h:=λi l hi=>by
  obtain⟨a,c,t1,t2,t3⟩:=r2 i l hi
  refine⟨(a,l.length,c),t1,t2,λk hk=>?_⟩
  obtain⟨b,o,u1,u2⟩:=t3 k hk
  obtain⟨n,n1,n2⟩:=key (b,o+k*4) (List.mem_of_getElem? u2)
  exact⟨b,o,n,u1,n1,n2⟩
 obtain⟨hs,s1,s2⟩:=Sk (ln:=ln) OK (λi l hi=>by
  have hlt:=(List.getElem?_eq_some_iff.1 hi).1
  obtain⟨u,q1,q2⟩:=one i l (by rw[List.getElem?_append_left hlt];exact hi)
  rw[List.getElem?_append_left (by omega)]at q1
  exact⟨u,q1,q2⟩)
 obtain⟨hb,b1,b2⟩:=one ls.length lb (by rw[List.getElem?_append_right (Nat.le_refl _)];simp)
 rw[List.getElem?_append_right (by omega)]at b1
 have b3:ub=Nx hb:=by simpa[OK]using b1
 subst s1
 rw[List.length_map]at OK
 refine⟨hs,hb,ln,by rw[OK];exact ho,s2,b3,b2,λb n hb=>?_⟩
 obtain⟨⟨p,hp,rfl⟩,vs,T,e1,e2⟩:=(Ov b n).1 hb
 obtain⟨⟨o,q1⟩,_⟩:=r3 p hp
 have hge:N≤p.1:=by
  unfold Mem.fr at q1
  split at q1
  ·assumption
  ·cases q1
 exact⟨⟨o,_,Mem.Jm _ _ _ _ _ q1⟩,λo=>by unfold Mem.to;rw[if_neg (by omega)],Nat.le_trans hN hge,vs,T,e1,by omega⟩
theorem JJ{E:Env}{N:Nat}:∀{l:List SV} {vs:List Value},c9 E ((l.map AV.sv).map (AV.od N)) vs→c9 {E with M:=E.M.to N} (l.map AV.sv) vs
 |[],[],_=>trivial
 |_::_,_::_,h=>⟨h.1,JJ h.2⟩
 |[],_::_,h=>h.elim
 |_::_,[],h=>h.elim
theorem Sl{l:List SV}{x:AV}(h:x∈l.map AV.sv):(∀j,¬x.mb j)∧∀j,¬x.mr j:=by
 obtain⟨s,_,rfl⟩:=List.mem_map.1 h
 exact⟨λ_ q=>q,λ_ q=>q⟩
theorem Eu:∀(pts:List Nat) (s:Nat),CL (pts.map λi=>(i,AV.ptr i 0)) s=.sv .any∨(s∈pts∧CL (pts.map λi=>(i,AV.ptr i 0)) s=.ptr s 0)
 |[],_=>.inl Y
 |i::pts,s=>by
  rw[List.map_cons,CL]
  by_cases e:s=i
  ·subst e;right;exact⟨by simp,by simp⟩
  ·rw[cz e]
   rcases Eu pts s with q|⟨q1,q2⟩
   ·exact .inl q
   ·exact .inr ⟨List.mem_cons_of_mem _ q1,q2⟩
theorem Ux{bs:List (Nat×nE)}{i:Nat}(h:i∈bs.map (·.1)):∃B,Ld bs i=some B:=by
 induction bs with
 |nil=>cases h
 |cons p bs ih=>
  obtain⟨k,B⟩:=p
  rw[Ld]
  by_cases e:i=k
  ·subst e;exact⟨B,by simp⟩
  ·rw[cz e]
   rcases List.mem_cons.1 h with q|q
   ·exact absurd q e
   ·exact ih q
theorem PK{P:Program}{C:Ctx}{S:AS}{c:Code}{Q:Exit→AS→Prop}(hJ:∀g go O M w,C.J g go O M w)(hC:∀b o v,C.M0 b o=some v→b<C.w0.heap.size){N:Nat}(hN:C.w0.heap.size≤N){n:Nat}(hn:S.n=n)(kb:List (Nat×TypeId×List SV))(hkb:∀p∈kb,S.b p.1=some ⟨p.2.1,(p.2.2.map AV.sv).map (AV.od N)⟩)
  {i6 J:Nat} {T6 E0:TypeId} {x1 x2:AV} {ls:List (List Qr)} {lb:List Qr} (h6:S.b i6=some ⟨T6,[x1,x2,.row J,.sv (nw N (slc 4 (lb.map (fQ N))))]⟩) (hR:S.r J=.live (TR E0 1 (fS N 4 (fQ N)) ls)) (pts:List Nat) (YM:∀i∈pts,S.t i=.ptr i 0) (Wa:(pts.all λi=>((kb.map (·.1))++[i6]).any λj=>Nat.beq i j)=true)
  (k:∀ln hs hb,(∀h∈hs,Uw ln h)→Uw ln hb→hs.length≤9223372036854775807→Ok P (CF C ln) c (AS.cq n (pts.map λi=>(i,AV.ptr i 0)) (kb.map (λp=>(p.1,⟨p.2.1,p.2.2.map AV.sv⟩))++[(i6,⟨T6,[.sv .any,.sv .any,.row J,.sv (.v (Nx hb))]⟩)]) [(J,TR E0 1 eH hs)]) Q):Ok P C c S Q:=by
 refine XY hJ (λE a w h=>?_)
 obtain⟨_,_,_,bs,b1,b2⟩:=h.bx i6 _ h6
 match bs,b1,b2 with
 |[u1,u2,u3,u4],b1,b2=>
  obtain⟨_,_,h3,h4,_⟩:=b2
  have h4:(nw N (slc 4 (lb.map (fQ N)))).h E.M u4:=h4
  have h3:u3=E.ν J:=h3
  obtain⟨hs,hb,ln,ho,q1,rfl,q2,Ov⟩:=PJ h hR hN h4
  have hlen:hs.length≤9223372036854775807:=by
   rcases ho.2 with⟨_,q2⟩|⟨g',cap,cur,q1,_,q2,q3,q4,q5,q6⟩
   ·have q2:hs.length=0:=q2
    omega
   ·have q3:hs.length≤cap:=q3
    have:maxLen=9223372036854775807:=by decide
    omega
  have hps:∀i,i∈pts→i∈List.map (λq:Nat×nE=>q.1) (kb.map (λp:Nat×TypeId×List SV=>((p.1,(⟨p.2.1,p.2.2.map AV.sv⟩:nE)):Nat×nE))++[((i6,⟨T6,[.sv .any,.sv .any,.row J,.sv (.v (Nx hb))]⟩):Nat×nE)]):=λi hi=>by
   obtain⟨j,hj,e⟩:=List.any_eq_true.1 (List.all_eq_true.1 Wa i hi)
   rw[Nat.eq_of_beq_eq_true e]
   simpa[List.map_append,List.map_map,Function.comp_def]using hj
  refine⟨ln,AS.cq n (pts.map λi=>(i,AV.ptr i 0)) (kb.map (λp=>(p.1,⟨p.2.1,p.2.2.map AV.sv⟩))++[(i6,⟨T6,[.sv .any,.sv .any,.row J,.sv (.v (Nx hb))]⟩)]) [(J,TR E0 1 eH hs)],⟨_,h.aek (M2:=E.M.to N) (Mem.Xw _ _) (λb o v e=>?_) Ov (by rw[hn];rfl) (λs=>?_) (λi B e=>?_) (λs j q=>?_) (λi B e=>?_) (λs j q=>?_) (λi R e=>?_)⟩,k ln hs hb q1 q2 hlen⟩
  ·have:=hC b o v e
   unfold Mem.to;rw[if_pos (by omega)];exact h.m0 b o v e
  ·show(CL (pts.map λi=>(i,AV.ptr i 0)) s).holds _ _
   rcases Eu pts s with q|⟨q1,q2⟩
   ·rw[q];trivial
   ·rw[q2]
    have h5:=h.tm s
    rw[YM s q1]at h5
    exact h5
  ·rcases List.mem_append.1 (nV e)with e|e
   ·obtain⟨p,hp,e⟩:=List.mem_map.1 e
    cases e
    exact⟨_,hkb p hp,Y,λvs _ hv=>JJ hv⟩
   ·obtain e:=List.mem_singleton.1 e
    cases e
    exact⟨_,h6,rfl,λvs hv _=>by rw[b1]at hv;cases hv;exact⟨ak,ak,h3,rfl,ak⟩⟩
  ·have q:(CL (pts.map λi=>(i,AV.ptr i 0)) s).mb j:=q
   rcases Eu pts s with e|⟨e1,e2⟩
   ·rw[e]at q;exact q.elim
   ·rw[e2]at q
    have q:j=s:=q
    subst q
    exact Ux (hps j e1)
  ·intro x hx
   rcases List.mem_append.1 (nV e)with e|e
   ·obtain⟨p,hp,e⟩:=List.mem_map.1 e
    cases e
    exact⟨λj q=>absurd q ((Sl hx).1 j),λj q=>absurd q ((Sl hx).2 j)⟩
   ·obtain e:=List.mem_singleton.1 e
    cases e
    refine⟨λj q=>?_,λj q=>?_⟩
    ·simp only[List.mem_cons,List.not_mem_nil,or_false]at hx
     rcases hx with rfl|rfl|rfl|rfl<;>exact q.elim
    ·simp only[List.mem_cons,List.not_mem_nil,or_false]at hx
     rcases hx with rfl|rfl|rfl|rfl
     ·exact q.elim
     ·exact q.elim
     ·have q:j=J:=q
      subst q
      show(match Ca [(j,TR E0 1 eH hs)] j with|some R=>mE.live R|none=>.un)≠ .un
      simp[Ca]
     ·exact q.elim
  ·have q:(CL (pts.map λi=>(i,AV.ptr i 0)) s).mr j:=q
   rcases Eu pts s with e|⟨e1,e2⟩
   ·rw[e]at q;exact q.elim
   ·rw[e2]at q;exact q.elim
  ·have e:(match Ca [(J,TR E0 1 eH hs)] i with|some R=>mE.live R|none=>.un)=.live R:=e
   cases e2:Ca [(J,TR E0 1 eH hs)] i with
   |none=>rw[e2]at e;cases e
   |some R'=>
    rw[e2]at e
    have e3:=List.mem_singleton.1 (z6 e2)
    cases e3
    cases e
    exact⟨⟨_,hR⟩,_,ho,Ny hs⟩
theorem Uy{α:Type}{l:List α}{i:Nat}(h:i<l.length):vm l (i:Int)=some i:=by
 unfold vm
 rw[if_pos ⟨Int.natCast_nonneg i,by omega⟩];simp
end
end Go.Fw
namespace Go.Proofs.YtfoldppidpmchaaGreat
section
open Go.Fw
noncomputable def nx(x0:Lr)(x1:Lr):Option (Bool):=match x0 with|⟨bp,bn,bD,bF⟩=>match x1 with|⟨bU,bR,dx,dy⟩=>cm (λ(BB:Bool)=>(bif BB then(eM).bind λdS=>some dS else(kL ⟨bp,bn,bD,bF⟩).bind λ⟨gx,gy,l8,l9⟩=>(ew ⟨bp,bn,bD,bF⟩ 0).bind λ⟨oK,oL,qA,nS⟩=>(kI 77).bind λuW=>cm (λ(Nz:Bool)=>some Nz) λK9=>(fY ⟨bp,bn,bD,bF⟩ ⟨bU,bR,dx,dy⟩).bind λJp=>(jK ⟨bp,bn,bD,bF⟩ ⟨bU,bR,dx,dy⟩).bind λLi=>(some (Jp==Li)).bind λMg=>(bif Mg then(fY ⟨bp,bn,bD,bF⟩ ⟨gx,gy,l8,l9⟩).bind λFG=>some FG else some false).bind λBC=>(bif BC then(eM).bind λUz=>some Uz else some false).bind λIN=>K9 IN)) λK3=>(gL ⟨bp,bn,bD,bF⟩).bind λcP=>(bif cP then some true else(gL ⟨bU,bR,dx,dy⟩).bind λdL=>some dL).bind λoO=>K3 oO
noncomputable def pL(x0:Lr)(x1:Lr):Option (Bool):=match x0 with|⟨bp,bn,bD,bF⟩=>match x1 with|⟨bU,bR,dx,dy⟩=>cm (λ(BB:Bool)=>(bif BB then(eM).bind λdS=>some dS else(kL ⟨bp,bn,bD,bF⟩).bind λ⟨gx,gy,l8,l9⟩=>(eV ⟨bp,bn,bD,bF⟩ 0).bind λ⟨⟨UA,UB,UC,UD⟩,UE⟩=>(some (decide ((UE:Int)=0))).bind λiS=>(bif iS then none else cm (λ(Nz:Bool)=>some Nz) λK9=>(fY ⟨bp,bn,bD,bF⟩ ⟨bU,bR,dx,dy⟩).bind λJp=>(jK ⟨bp,bn,bD,bF⟩ ⟨bU,bR,dx,dy⟩).bind λLi=>(some (Jp==Li)).bind λMg=>(bif Mg then(fY ⟨bp,bn,bD,bF⟩ ⟨gx,gy,l8,l9⟩).bind λFG=>some FG else some false).bind λBC=>(bif BC then(eM).bind λUz=>some Uz else some false).bind λIN=>K9 IN))) λK3=>(gL ⟨bp,bn,bD,bF⟩).bind λcP=>(bif cP then some true else(gL ⟨bU,bR,dx,dy⟩).bind λdL=>some dL).bind λoO=>K3 oO
noncomputable def gi(x0:Lr)(x1:Lr):Option (Bool):=if nx x0 x1=some true then some true else pL x0 x1
end
section
open Go.Fw Go.Fw.Z Go.RowKit
set_option maxHeartbeats 4000000 in
theorem Ev{x0:Lr}{x1:Lr}{r:Bool}(h:nx x0 x1=some r):Pure af 4 [.agg (vu x0),.agg (vu x1)] (.v (.bool r)):=by
 obtain⟨bp,bn,bD,bF⟩:=x0
 obtain⟨bU,bR,dx,dy⟩:=x1
 refine GB Tryz.func4 Y (ae Y) (λdm M vs hM hvs=>?_)
 unfold nx at h
 refine sr<|bx Y<|bx Y<|ag Y<|dn<|qq<|qq ?_
 refine bC h (λj3=>AS.cq 79 [(2,.ptr 2 0),(3,.ptr 3 0),(16,.sv (.v (.bool j3)))] [(3,⟨26,[.sv (.v (.int .i64 bU)),.sv (slc 1 (List.map (eS 4 eQ) bR)),.sv (slc 1 (List.map (eS 4 eQ) dx)),.sv (slc 4 (List.map eQ dy))]⟩),(2,⟨26,[.sv (.v (.int .i64 bp)),.sv (slc 1 (List.map (eS 4 eQ) bn)),.sv (slc 1 (List.map (eS 4 eQ) bD)),.sv (slc 4 (List.map eQ bF))]⟩)] []) (λh=>?_) (λBB h=>?_)
 refine aW<|ld Y Y (.cons Y (.cons Y (.cons Y (.cons Y (.nil)))))<|bE h λcP fz h=>cl (mM fz) ⟨Y,ak⟩<|mv Y<|bE h λoO cE h=>?_
 cases cP
 refine gl Y Y (.cons Y (.cons Y (.cons Y (.cons Y (.nil)))))<|bE (F cE) λdL iN cE=>gc (mM iN) ⟨Y,ak⟩ ?_
 obtain rfl:=O cE
 exact pF Y<|dn<|⟨dL,h,wR []⟩
 obtain rfl:=O (V cE)
 exact ww<|ww<|pT Y<|dn<|⟨true,h,wR []⟩
 try dsimp only
 refine aV.n ?_
 cases BB
 refine fs<|sr<|ld Y Y (.cons Y (.cons Y (.cons Y (.cons Y (.nil))))) ?_
 obtain⟨⟨gx,gy,l8,l9⟩,lX,h⟩:=bS (F h)
 refine cl (xz lX) ⟨Y,ak⟩<|al (cs:=[.v (.int .i64 0),slc 1 (List.map (eS 4 eQ) []),slc 1 (List.map (eS 4 eQ) []),slc 4 (List.map eQ [])]) (by exact⟨aq,aA,aA,aA,ak⟩) Y<|so Y Y Y<|dn<|sr<|ld Y Y (.cons Y (.cons Y (.cons Y (.cons Y (.nil))))) ?_
 obtain⟨⟨oK,oL,qA,nS⟩,lY,h⟩:=bS h
 refine RT.T3 .none (λN=>rf N lY) [302] (by decide) (λ_=>Y) ⟨⟨Y,T⟩,ak⟩ Y ⟨Y,Y,ak⟩ T (λN2 hN2=>?_)
 refine mo (s:=.cmp _ _) Y<|RT.T4 (js:=[.val (.v (.int .i64 oK)),.val (nw N2 (slc 1 (List.map (fS N2 4 (fQ N2)) oL))),.row 302,.val (nw N2 (slc 4 (List.map (fQ N2) nS)))]) (s:=.v (.int .i64 0)) .none Y T<|RT.T5 (js:=[.val (.v (.int .i64 oK)),.val (nw N2 (slc 1 (List.map (fS N2 4 (fQ N2)) oL))),.row 302,.val (nw N2 (slc 4 (List.map (fQ N2) nS)))]) (s:=.v (.int .i64 0)) .none Y T<|al (cs:=[.v (.int .i64 0),slc 1 (List.map (eS 4 eQ) []),slc 1 (List.map (eS 4 eQ) []),.v (.slice none 0 0)]) (by exact⟨aq,aA,aA,aq,ak⟩) Y ?_
 refine RT.Ir .none Y Y Y ⟨(λ_ _ q_=>One.h _ _ q_),(λ_ _ q_=>One.h _ _ q_),⟨_,Y⟩,(λ_ _ q_=>One.h _ _ q_),ak⟩ Y Y [302] Y [.sv (.v (.int .i64 oK)),.sv (nw N2 (slc 1 (List.map (fS N2 4 (fQ N2)) oL))),.row 302,.sv (nw N2 (slc 4 (List.map (fQ N2) nS)))] Y<|ag Y<|dn<|qq<|sr<|mv Y<|eq true Y Y (by decide)<|dn<|cT<|bE h λuW VK h=>?_
 refine PK (λ_ _ _ _ _=>trivial) (λ_ _ _ e=>kQ hM e) hN2 Y [(2,26,[.v (.int .i64 bp),slc 1 (List.map (eS 4 eQ) bn),slc 1 (List.map (eS 4 eQ) bD),slc 4 (List.map eQ bF)]),(3,26,[.v (.int .i64 bU),slc 1 (List.map (eS 4 eQ) bR),slc 1 (List.map (eS 4 eQ) dx),slc 4 (List.map eQ dy)]),(5,26,[.v (.int .i64 gx),slc 1 (List.map (eS 4 eQ) gy),slc 1 (List.map (eS 4 eQ) l8),slc 4 (List.map eQ l9)])] (λp hp=>?_) (i6:=6) (J:=302) (E0:=24) (ls:=qA) (lb:=nS) Y Y [2,3,5,6] (λi hi=>?_) Y (λln hs hb hhs hhb hhl=>?_)
 simp only[List.mem_cons,List.not_mem_nil,or_false]at hp;rcases hp with rfl|rfl|rfl<;>rfl
 simp only[List.mem_cons,List.not_mem_nil,or_false]at hi;rcases hi with rfl|rfl|rfl|rfl<;>rfl
 obtain⟨ba,bl,bc⟩:=hb
 refine bz<|bz<|aW<|RT.wA .none Y T<|RT.done<|aV.n<|bh ?_
 refine pA (ι:={i:Nat//i≤hs.length}) (λi=>AS.cq 79 [(2,.ptr 2 0),(3,.ptr 3 0),(5,.ptr 5 0),(6,.ptr 6 0),(8,.sv (.v (.int .i64 (i.1:Int))))] [(2,⟨26,[.sv (.v (.int .i64 bp)),.sv (slc 1 (List.map (eS 4 eQ) bn)),.sv (slc 1 (List.map (eS 4 eQ) bD)),.sv (slc 4 (List.map eQ bF))]⟩),(3,⟨26,[.sv (.v (.int .i64 bU)),.sv (slc 1 (List.map (eS 4 eQ) bR)),.sv (slc 1 (List.map (eS 4 eQ) dx)),.sv (slc 4 (List.map eQ dy))]⟩),(5,⟨26,[.sv (.v (.int .i64 gx)),.sv (slc 1 (List.map (eS 4 eQ) gy)),.sv (slc 1 (List.map (eS 4 eQ) l8)),.sv (slc 4 (List.map eQ l9))]⟩),(6,⟨26,[.sv .any,.sv .any,.row 302,.sv (.v (.slice ba bl bc))]⟩)] [(302,TR 24 1 eH hs)]) (λi=>hs.length-i.1) ⟨0,Nat.zero_le _⟩ (wR []) ?_
 rintro⟨i,hi⟩
 dsimp only
 by_cases X1:i<hs.length
 obtain⟨⟨ha,hl,hc⟩,YY⟩:∃hd,hs[i]? =some hd:=⟨_,List.getElem?_eq_getElem X1⟩
 have hwo:=hhs _ (List.mem_of_getElem? YY)
 have B6:hl≤9223372036854775807:=hwo.1
 refine bz<|bz<|aW<|RT.mv .none Y T<|RT.fieldAddr .none Y T Y<|RT.ku .none (s:=.row _) Y Y Y T<|RT.LX .none Y Y T Y<|RT.lss .none true Y Y T (decide_eq_true (show((i:Nat):Int)<((hs.length:Nat):Int) by omega))<|RT.done<|aV.n<|cA Y<|bu<|aV.n<|bz<|bh<|bz<|aW<|RT.wA .none Y T<|RT.done<|aV.n<|bh ?_
 refine pA (ι:={k:Nat//k≤hl}) (λk=>AS.cq 79 [(2,.ptr 2 0),(3,.ptr 3 0),(5,.ptr 5 0),(6,.ptr 6 0),(8,.sv (.v (.int .i64 (i:Int)))),(9,.sv (.v (.int .i64 (k.1:Int))))] [(2,⟨26,[.sv (.v (.int .i64 bp)),.sv (slc 1 (List.map (eS 4 eQ) bn)),.sv (slc 1 (List.map (eS 4 eQ) bD)),.sv (slc 4 (List.map eQ bF))]⟩),(3,⟨26,[.sv (.v (.int .i64 bU)),.sv (slc 1 (List.map (eS 4 eQ) bR)),.sv (slc 1 (List.map (eS 4 eQ) dx)),.sv (slc 4 (List.map eQ dy))]⟩),(5,⟨26,[.sv (.v (.int .i64 gx)),.sv (slc 1 (List.map (eS 4 eQ) gy)),.sv (slc 1 (List.map (eS 4 eQ) l8)),.sv (slc 4 (List.map eQ l9))]⟩),(6,⟨26,[.sv .any,.sv .any,.row 302,.sv (.v (.slice ba bl bc))]⟩)] [(302,TR 24 1 eH hs)]) (λk=>hl-k.1) ⟨0,Nat.zero_le _⟩ (wR []) ?_
 rintro⟨k,hk⟩
 dsimp only
 by_cases Ax:k<hl
 obtain⟨b,o,nn,e1,e2,e3⟩:=hwo.2 k Ax
 have e1:ha=some ⟨b,o,none⟩:=e1
 subst e1
 refine bz<|bz<|aW<|RT.mv .none Y T<|RT.fieldAddr .none Y T Y<|RT.ku .none (s:=.row _) Y Y Y T<|RT.mv .none Y T<|RT.OX .none Y Y Y T (Uy X1)<|RT.LY (e:=eH) .none Y Y YY Y T<|RT.PG .none Y T<|RT.lss .none true Y Y T (decide_eq_true (show((k:Nat):Int)<((hl:Nat):Int) by omega))<|RT.done<|aV.n<|cA Y<|bu<|aV.n ?_
 refine bz<|bh<|aZ mixed<|RT.fieldAddr .none Y T Y<|RT.ku .none (s:=.row _) Y Y Y T<|RT.mv .none Y T<|RT.OX .none Y Y Y T (Uy X1)<|RT.LY (e:=eH) .none Y Y YY Y T<|RT.mv .none Y T<|RT.call .none (rB VK) Y ⟨Y,ak⟩ T<|RT.ixC .none Y Y T Ax<|RT.XZ (sz:=4) .none Y Y Y (by decide) (λw=>xO.size (T:=36) (n:=4) w) e2 (by omega)<|RT.done ⟨by kernel_rfl,bA.n<|aV.n ?_⟩
 exact aW<|RT.mv .none Y (tl Y)<|RT.add .none _ Y Y (tl Y) (jg (by omega))<|RT.wA .none Y (tl Y)<|RT.done<|aV.n ⟨⟨k+1,Ax⟩,by dsimp only;omega,wR []⟩
 exact bz<|bz<|aW<|RT.mv .none Y T<|RT.fieldAddr .none Y T Y<|RT.ku .none (s:=.row _) Y Y Y T<|RT.mv .none Y T<|RT.OX .none Y Y Y T (Uy X1)<|RT.LY (e:=eH) .none Y Y YY Y T<|RT.PG .none Y T<|RT.lss .none false Y Y T (decide_eq_false (show ¬(((k:Nat):Int)<((hl:Nat):Int)) by omega))<|RT.done<|aV.n<|da Y<|bO<|aV.x<|aV.x<|bA.x<|bA.n<|aV.n<|aW<|RT.mv .none Y (tl Y)<|RT.add .none _ Y Y (tl Y) (jg (by omega))<|RT.wA .none Y (tl Y)<|RT.done<|aV.n ⟨⟨i+1,X1⟩,by dsimp only;omega,wR []⟩
 refine bz<|bz<|aW<|RT.mv .none Y T<|RT.fieldAddr .none Y T Y<|RT.ku .none (s:=.row _) Y Y Y T<|RT.LX .none Y Y T Y<|RT.lss .none false Y Y T (decide_eq_false (show ¬(((i:Nat):Int)<((hs.length:Nat):Int)) by omega))<|RT.done<|aV.n<|da Y<|bO<|aV.x<|aV.x<|bA.x<|aV.n<|bz<|aW<|RT.wA .none Y T<|RT.done<|aV.n<|bh ?_
 have hbm:bl≤9223372036854775807:=hhb.1
 refine pA (ι:={i:Nat//i≤bl}) (λi=>AS.cq 79 [(2,.ptr 2 0),(3,.ptr 3 0),(5,.ptr 5 0),(6,.ptr 6 0),(10,.sv (.v (.int .i64 (i.1:Int))))] [(2,⟨26,[.sv (.v (.int .i64 bp)),.sv (slc 1 (List.map (eS 4 eQ) bn)),.sv (slc 1 (List.map (eS 4 eQ) bD)),.sv (slc 4 (List.map eQ bF))]⟩),(3,⟨26,[.sv (.v (.int .i64 bU)),.sv (slc 1 (List.map (eS 4 eQ) bR)),.sv (slc 1 (List.map (eS 4 eQ) dx)),.sv (slc 4 (List.map eQ dy))]⟩),(5,⟨26,[.sv (.v (.int .i64 gx)),.sv (slc 1 (List.map (eS 4 eQ) gy)),.sv (slc 1 (List.map (eS 4 eQ) l8)),.sv (slc 4 (List.map eQ l9))]⟩),(6,⟨26,[.sv .any,.sv .any,.row 302,.sv (.v (.slice ba bl bc))]⟩)] [(302,TR 24 1 eH hs)]) (λi=>bl-i.1) ⟨0,Nat.zero_le _⟩ (wR []) ?_
 rintro⟨j,hj⟩
 dsimp only
 by_cases hjl:j<bl
 obtain⟨b,o,nn,e1,e2,e3⟩:=hhb.2 j hjl
 have e1:ba=some ⟨b,o,none⟩:=e1
 subst e1
 refine bz<|bz<|aW<|RT.mv .none Y T<|RT.fieldAddr .none Y T Y<|RT.oz .none Y Y Y T<|RT.PG .none Y T<|RT.lss .none true Y Y T (decide_eq_true (show((j:Nat):Int)<((bl:Nat):Int) by omega))<|RT.done<|aV.n<|cA Y<|bu<|aV.n ?_
 refine bz<|bh<|aZ mixed<|RT.fieldAddr .none Y T Y<|RT.oz .none Y Y Y T<|RT.mv .none Y T<|RT.call .none (rB VK) Y ⟨Y,ak⟩ T<|RT.ixC .none Y Y T hjl<|RT.XZ (sz:=4) .none Y Y Y (by decide) (λw=>xO.size (T:=36) (n:=4) w) e2 (by omega)<|RT.done ⟨by kernel_rfl,bA.n<|aV.n ?_⟩
 exact aW<|RT.mv .none Y (tl Y)<|RT.add .none _ Y Y (tl Y) (jg (by omega))<|RT.wA .none Y (tl Y)<|RT.done<|aV.n ⟨⟨j+1,hjl⟩,by dsimp only;omega,wR []⟩
 refine bz<|bz<|aW<|RT.mv .none Y T<|RT.fieldAddr .none Y T Y<|RT.oz .none Y Y Y T<|RT.PG .none Y T<|RT.lss .none false Y Y T (decide_eq_false (show ¬(((j:Nat):Int)<((bl:Nat):Int)) by omega))<|RT.done<|aV.n<|da Y<|bO<|aV.x<|aV.x<|bA.x<|aV.n<|qq ?_
 refine bC h (λj9=>AS.cq 79 [(4,.sv (.v (.bool j9)))] [] []) (λh=>?_) (λNz h=>?_)
 refine aZ mixed<|ld Y Y (.cons Y (.cons Y (.cons Y (.cons Y (.nil)))))<|ld Y Y (.cons Y (.cons Y (.cons Y (.cons Y (.nil)))))<|bE h λJp Tx h=>cl (m9 Tx) ⟨Y,Y,ak⟩<|ld Y Y (.cons Y (.cons Y (.cons Y (.cons Y (.nil)))))<|ld Y Y (.cons Y (.cons Y (.cons Y (.cons Y (.nil)))))<|bE h λLi Pc h=>cl (ve Pc) ⟨Y,Y,ak⟩<|lE h λMg Tz h=>RT.OD .none _ Y Y T Tz ?_
 refine mv Y<|bE h λBC uL h=>?_
 cases Mg
 obtain rfl:=O (F uL)
 refine ww<|ww<|ww<|pF Y<|mv Y<|bE h λUF UG h=>?_
 obtain rfl:=O (F UG)
 refine ww<|pF Y<|ag Y ?_
 refine RT.done ⟨by kernel_rfl,?_⟩
 exact aV.n<|⟨false,h,wR []⟩
 refine gl Y Y (.cons Y (.cons Y (.cons Y (.cons Y (.nil)))))<|gl Y Y (.cons Y (.cons Y (.cons Y (.cons Y (.nil)))))<|bE (V uL) λFG Pd uL=>gc (m9 Pd) ⟨Y,Y,ak⟩ ?_
 obtain rfl:=O uL
 refine pT Y<|mv Y<|bE h λUH Ew h=>?_
 cases FG
 obtain rfl:=O (F Ew)
 refine ww<|pF Y<|ag Y ?_
 refine RT.done ⟨by kernel_rfl,?_⟩
 exact aV.n<|⟨false,h,wR []⟩
 refine bE (V Ew) λUz VK Ew=>gc (lM VK) trivial ?_
 obtain rfl:=O Ew
 refine pT Y<|ag Y ?_
 refine RT.done ⟨by kernel_rfl,?_⟩
 exact aV.n<|⟨Uz,h,wR []⟩
 try dsimp only
 refine aV.n<|bf ?_
 obtain rfl:=O h
 exact R1 Y
 refine cT<|sr<|bE (V h) λdS jb h=>cl (lM jb) trivial<|ag Y<|dn<|bf<|aV.r ?_
 obtain rfl:=O h
 exact R1 Y
end
section
open Go.Fw Go.Fw.Z Go.RowKit
theorem Ex{x0:Lr}{x1:Lr}{r:Bool}(h:pL x0 x1=some r):Pure af 4 [.agg (vu x0),.agg (vu x1)] (.v (.bool r)):=by
 obtain⟨bp,bn,bD,bF⟩:=x0
 obtain⟨bU,bR,dx,dy⟩:=x1
 refine bj Tryz.func4 Y (ae Y) (λdm M vs hvs=>?_)
 unfold pL at h
 refine sr<|bx Y<|bx Y<|ag Y<|dn<|qq<|qq ?_
 refine bC h (λj3=>AS.cq 79 [(2,.ptr 2 0),(3,.ptr 3 0),(16,.sv (.v (.bool j3)))] [(3,⟨26,[.sv (.v (.int .i64 bU)),.sv (slc 1 (List.map (eS 4 eQ) bR)),.sv (slc 1 (List.map (eS 4 eQ) dx)),.sv (slc 4 (List.map eQ dy))]⟩),(2,⟨26,[.sv (.v (.int .i64 bp)),.sv (slc 1 (List.map (eS 4 eQ) bn)),.sv (slc 1 (List.map (eS 4 eQ) bD)),.sv (slc 4 (List.map eQ bF))]⟩)] []) (λh=>?_) (λBB h=>?_)
 refine aW<|ld Y Y (.cons Y (.cons Y (.cons Y (.cons Y (.nil)))))<|bE h λcP fz h=>cl (mM fz) ⟨Y,ak⟩<|mv Y<|bE h λoO cE h=>?_
 cases cP
 refine gl Y Y (.cons Y (.cons Y (.cons Y (.cons Y (.nil)))))<|bE (F cE) λdL iN cE=>gc (mM iN) ⟨Y,ak⟩ ?_
 obtain rfl:=O cE
 exact pF Y<|dn<|⟨dL,h,wR []⟩
 obtain rfl:=O (V cE)
 exact ww<|ww<|pT Y<|dn<|⟨true,h,wR []⟩
 try dsimp only
 refine aV.n ?_
 cases BB
 refine fs<|sr<|ld Y Y (.cons Y (.cons Y (.cons Y (.cons Y (.nil))))) ?_
 obtain⟨⟨gx,gy,l8,l9⟩,lX,h⟩:=bS (F h)
 refine cl (xz lX) ⟨Y,ak⟩<|al (cs:=[.v (.int .i64 0),slc 1 (List.map (eS 4 eQ) []),slc 1 (List.map (eS 4 eQ) []),slc 4 (List.map eQ [])]) (by exact⟨aq,aA,aA,aA,ak⟩) Y<|so Y Y Y<|dn<|sr<|ld Y Y (.cons Y (.cons Y (.cons Y (.cons Y (.nil))))) ?_
 obtain⟨⟨⟨UA,UB,UC,UD⟩,UE⟩,lY,h⟩:=bS h
 refine cl (r5 lY) ⟨Y,Y,ak⟩<|mv Y<|ex Y Y<|ex Y Y<|al (cs:=[.v (.int .i64 0),slc 1 (List.map (eS 4 eQ) []),slc 1 (List.map (eS 4 eQ) []),.v (.slice none 0 0)]) (by exact⟨aq,aA,aA,aq,ak⟩) Y<|so Y Y Y<|ag Y<|dn<|qq<|sr<|mv Y<|lE h λiS pW h=>eq _ Y Y (zF (p:=UE) (q:=0) pW)<|dn ?_
 cases iS
 refine fs<|qq ?_
 refine bC (F h) (λj9=>AS.cq 79 [(4,.sv (.v (.bool j9)))] [] []) (λh=>?_) (λNz h=>?_)
 refine aZ mixed<|ld Y Y (.cons Y (.cons Y (.cons Y (.cons Y (.nil)))))<|ld Y Y (.cons Y (.cons Y (.cons Y (.cons Y (.nil)))))<|bE h λJp Tx h=>cl (m9 Tx) ⟨Y,Y,ak⟩<|ld Y Y (.cons Y (.cons Y (.cons Y (.cons Y (.nil)))))<|ld Y Y (.cons Y (.cons Y (.cons Y (.cons Y (.nil)))))<|bE h λLi Pc h=>cl (ve Pc) ⟨Y,Y,ak⟩<|lE h λMg Tz h=>RT.OD .none _ Y Y T Tz ?_
 refine mv Y<|bE h λBC uL h=>?_
 cases Mg
 obtain rfl:=O (F uL)
 refine ww<|ww<|ww<|pF Y<|mv Y<|bE h λUF UG h=>?_
 obtain rfl:=O (F UG)
 refine ww<|pF Y<|ag Y ?_
 refine RT.done ⟨by kernel_rfl,?_⟩
 exact aV.n<|⟨false,h,wR []⟩
 refine gl Y Y (.cons Y (.cons Y (.cons Y (.cons Y (.nil)))))<|gl Y Y (.cons Y (.cons Y (.cons Y (.cons Y (.nil)))))<|bE (V uL) λFG Pd uL=>gc (m9 Pd) ⟨Y,Y,ak⟩ ?_
 obtain rfl:=O uL
 refine pT Y<|mv Y<|bE h λUH Ew h=>?_
 cases FG
 obtain rfl:=O (F Ew)
 refine ww<|pF Y<|ag Y ?_
 refine RT.done ⟨by kernel_rfl,?_⟩
 exact aV.n<|⟨false,h,wR []⟩
 refine bE (V Ew) λUz VK Ew=>gc (lM VK) trivial ?_
 obtain rfl:=O Ew
 refine pT Y<|ag Y ?_
 refine RT.done ⟨by kernel_rfl,?_⟩
 exact aV.n<|⟨Uz,h,wR []⟩
 try dsimp only
 refine aV.n<|bf ?_
 obtain rfl:=O h
 exact R1 Y
 refine cT ?_
 replace h:=V h
 cases h
 refine cT<|sr<|bE (V h) λdS jb h=>cl (lM jb) trivial<|ag Y<|dn<|bf<|aV.r ?_
 obtain rfl:=O h
 exact R1 Y
end
section
open Go.Fw Go.Fw.Z Go.RowKit
theorem rE{x0:Lr}{x1:Lr}{r:Bool}(h:gi x0 x1=some r):Pure af 4 [.agg (vu x0),.agg (vu x1)] (.v (.bool r)):=by
 unfold gi at h
 by_cases UI:nx x0 x1=some true
 rw[if_pos UI]at h;rw[←Option.some.inj h];exact Ev UI
 rw[if_neg UI]at h
 exact Ex h
end
end Go.Proofs.YtfoldppidpmchaaGreat
namespace Go.Fw
section
theorem gj{n:Nat}(h:n≤9223372036854775807):IntKind.i64.wrap (n:Int)=n:=jg (by omega)
theorem cC{x:Int}(h: -9223372036854775808≤x)(h':x≤9223372036854775807):IntKind.i64.wrap x=x:=jg ⟨h,h'⟩
theorem b8{n:Nat}(h:n<9223372036854775807):IntKind.i64.wrap ((n:Int)+1)=((n+1:Nat):Int):=by rw[jg (by omega)];simp
theorem lN{n m:Nat}(h:n+m≤9223372036854775807):IntKind.i64.wrap ((n:Int)+(m:Int))=((n+m:Nat):Int):=by rw[jg (by omega)];simp
theorem BD{n:Nat}(h:n≤9223372036854775807):IntKind.i64.wrap (((n+1:Nat):Int)-1)=(n:Int):=by rw[jg (by omega)];omega
theorem bN{α:Type}{l:List α}{i:Nat}{a:α}(h:l[i]? =some a):cQ l (i:Int)=some a:=by simp[cQ,h]
theorem uo{α:Type}{l:List α}{a:α}(h:l[0]? =some a):cQ l 0=some a:=by simp[cQ,h]
theorem NA{α:Type}{l:List α}{a:α}(h:l[1]? =some a):cQ l 1=some a:=by simp[cQ,h]
theorem gk{α:Type}{l:List α}{i:Nat}(h:i<l.length):vm l (i:Int)=some i:=by simp[vm,h]
theorem jD{α:Type}{l:List α}{i:Nat}{y:α}(h:i<l.length):stM l i y=some (l.set i y):=by simp[stM,h]
theorem NB{α:Type}{b:Nat}{l k:List α}(h:(l.length+k.length)*b≤140737488355328)(h':l.length+k.length≤140737488355328):rM b l k=some (l++k):=by simp[rM,h,h']
theorem vU{α:Type}{b:Nat}{l:List α}{x:α}(hb:b≤100)(h:l.length≤1000000000000):rM b l [x]=some (l++[x]):=by
 apply NB
 ·have:(l.length+[x].length)*b≤1000000000001*100:=Nat.mul_le_mul (by simp;omega) hb
  omega
 ·simp;omega
theorem PL{α:Type}{b:Nat}{l k:List α}(hb:b≤100)(h:l.length+k.length≤1000000000000):rM b l k=some (l++k):=by
 apply NB
 ·have:(l.length+k.length)*b≤1000000000000*100:=Nat.mul_le_mul h hb
  omega
 ·omega
theorem IP{α:Type}{b:Nat}{n:Nat}(hb:b≤100)(h:n≤1000000000000):OU (α:=α) b (n:Int)=some []:=by
 have:b*n≤100*1000000000000:=Nat.mul_le_mul hb h
 have h2:(b:Int)*(n:Int)=((b*n:Nat):Int):=by simp
 unfold OU
 rw[h2,if_pos ⟨by omega,by omega,by omega⟩]
theorem tN{α:Type}{b:Nat}{n:Nat}{z:α}(hb:b≤100)(h:n≤1000000000000):EX b (n:Int) z=some (List.replicate n z):=by
 have:b*n≤100*1000000000000:=Nat.mul_le_mul hb h
 have h2:(b:Int)*(n:Int)=((b*n:Nat):Int):=by simp
 unfold EX
 rw[h2,if_pos ⟨by omega,by omega,by omega⟩,Int.toNat_natCast]
theorem GV{α:Type}{l:List α}{i j:Nat}(h:i≤j)(h':j≤l.length):uG l (i:Int) (j:Int)=some (cut l i j):=by
 unfold uG;rw[if_pos ⟨by omega,by omega,by omega⟩];simp
theorem om{α:Type}{l:List α}{j:Nat}(h':j≤l.length):uG l 0 (j:Int)=some (l.take j):=by
 have:=GV (l:=l) (i:=0) (j:=j) (by omega) h'
 simpa[cut]using this
theorem rF{M a b:Nat}(h:b≤a)(h':a<M):oC M a b=a-b:=by
 unfold oC;rw[show(a:Int)-(b:Int)=((a-b:Nat):Int) by omega,←Int.natCast_emod,Int.toNat_natCast,Nat.mod_eq_of_lt (by omega)]
theorem xA{M a b:Nat}(h:a<b)(h':b≤M):oC M a b=M+a-b:=by
 unfold oC
 have:((a:Int)-(b:Int))%(M:Int)=((M+a-b:Nat):Int):=by
  rw[←Int.add_emod_right (a:=(a:Int)-b),show(a:Int)-(b:Int)+(M:Int)=((M+a-b:Nat):Int) by omega,←Int.natCast_emod,Nat.mod_eq_of_lt (by omega)]
 rw[this,Int.toNat_natCast]
theorem Af{o n i:Nat}(h:i<n):Oo o n (i:Int)=some (o+i):=by simp[Oo,h]
theorem qF{α:Type}{l l':List α}(h:l'.length=l.length):uT l l'=some ():=by simp[uT,h]
theorem Ey{M a b:Nat}(h:b≠0)(h':a<M):Dy M a b=some (a/b):=by
 unfold Dy;rw[if_neg h,Nat.mod_eq_of_lt (Nat.lt_of_le_of_lt (Nat.div_le_self _ _) h')]
theorem Ag{a b:Nat}(h:b≠0):Cf a b=some (a%b):=by unfold Cf;rw[if_neg h]
theorem bH{α β:Type}{a:α}{f:α→Option β}:Option.bind (some a) f=f a:=by
 have h:∀o,o=some a→Option.bind o f=f a:=by intro o ho;rw[ho];rfl
 exact h _ Y
theorem eY{α:Type}{x y:α}:(bif true then x else y)=x:=by
 have h:∀b,b=true→(bif b then x else y)=x:=by intro b hb;rw[hb];rfl
 exact h _ Y
theorem fM{α:Type}{x y:α}:(bif false then x else y)=y:=by
 have h:∀b,b=false→(bif b then x else y)=y:=by intro b hb;rw[hb];rfl
 exact h _ Y
theorem fR{S E R:Type}{body:S→Option (S⊕E)}{s:S}{f:E→Option R}{r:R}(I:S→Prop)(Post:E→Prop)(μ:S→Nat)
  (step:∀s,I s→(∃s',body s=some (.inl s')∧I s'∧μ s'<μ s)∨(∃e,body s=some (.inr e)∧Post e)) (h:I s) (hf:∀e,Post e→f e=some r):(b9 body s).bind f=some r:=by
 obtain⟨e,h1,h2⟩:=xZ I Post μ step h
 rw[h1];exact hf e h2
theorem lO{S E R:Type}{body:S→Option (S⊕E)}{s:S}{f:E→Option R}{Q:R→Prop}(I:S→Prop)(Post:E→Prop)(μ:S→Nat)
  (step:∀s,I s→(∃s',body s=some (.inl s')∧I s'∧μ s'<μ s)∨(∃e,body s=some (.inr e)∧Post e)) (h:I s) (hf:∀e,Post e→∃r,f e=some r∧Q r):∃r,(b9 body s).bind f=some r∧Q r:=by
 obtain⟨e,h1,h2⟩:=xZ I Post μ step h
 rw[h1];exact hf e h2
theorem bJ{S E R:Type}{body:S→Option (S⊕E)}{s:S}{f:E→Option R}{r:R}(st:Nat→S)(n:Nat)(e:E)(h0:s=st 0)(hs:∀k,k<n→body (st k)=some (.inl (st (k+1))))(he:body (st n)=some (.inr e))(hf:f e=some r):(b9 body s).bind f=some r:=by
 rw[h0,LV st n hs he];exact hf
theorem rG{S R:Type}{body:Nat→S→Option S}{s:S}{f:S→Option R}{r:R}(st:Nat→S){n:Nat}(h0:s=st 0)(hs:∀k,k<n→body k (st k)=some (st (k+1)))(hf:f (st n)=some r):(pQ body n s).bind f=some r:=by
 rw[h0,CQ st n hs];exact hf
theorem az{α β:Type}{x:Option α}{a:α}{f:α→Option β}{r:Option β}(h:x=some a)(hf:f a=r):x.bind f=r:=by rw[h];exact hf
theorem cj{α:Type}{b:Bool}{x y r:α}(hb:b=true)(h:x=r):(bif b then x else y)=r:=by rw[hb];exact h
theorem cn{α:Type}{b:Bool}{x y r:α}(hb:b=false)(h:y=r):(bif b then x else y)=r:=by rw[hb];exact h
end
section
def val(B:Nat):List Nat→Nat
 |[]=>0
 |x::l=>x+B*val B l
def ep(B:Nat):Nat→Nat→List Nat
 |0,_=>[]
 |n+1,v=>v%B::ep B n (v/B)
def jE(ws:List Nat):List Nat:=(ws.reverse.dropWhile (· ==0)).reverse
def can(B v:Nat):List Nat:=jE (ep B v v)
theorem bG(B:Nat):∀n v,(ep B n v).length=n
 |0,_=>rfl
 |n+1,v=>by simp[ep,bG B n]
theorem lP(B:Nat):∀n v,val B (ep B n v)=v%B^n
 |0,v=>by simp[ep,val,Nat.mod_one]
 |n+1,v=>by
  rw[ep,val,lP B n,Nat.pow_succ,Nat.mul_comm (B^n) B,Nat.mod_mul]
theorem nL{B:Nat}(hB:0<B):∀(n v x:Nat),x∈ep B n v→x<B
 |n+1,v,x,h=>by
  rcases List.mem_cons.1 h with rfl|h
  ·exact Nat.mod_lt _ hB
  ·exact nL hB n _ x h
theorem fC{B:Nat}:∀(l:List Nat),(∀x∈l,x<B)→val B l<B^l.length
 |[],_=>by simp[val]
 |x::l,h=>by
  have h1:=fC l (λy hy=>h y (List.mem_cons_of_mem _ hy))
  have h2:=h x (by simp)
  rw[val,List.length_cons,Nat.pow_succ]
  calc x+B*val B l<B+B*val B l:=by omega
   _=B*(val B l+1):=by rw[Nat.mul_add];omega
   _≤B*B^l.length:=Nat.mul_le_mul_left _ h1
   _=B^l.length*B:=Nat.mul_comm _ _
theorem Ah{B:Nat}:∀(l:List Nat),(∀x∈l,x<B)→ep B l.length (val B l)=l
 |[],_=>rfl
 |x::l,h=>by
  have h2:=h x (by simp)
  have hB:0<B:=by omega
  rw[List.length_cons,ep,val,Nat.add_mul_mod_self_left,Nat.mod_eq_of_lt h2,Nat.add_mul_div_left _ _ hB,Nat.div_eq_of_lt h2,Nat.zero_add,Ah l (λy hy=>h y (List.mem_cons_of_mem _ hy))]
theorem xB{B:Nat}:∀(n v j:Nat),j<n→(ep B n v)[j]? =some (v/B^j%B)
 |n+1,v,0,_=>by simp[ep]
 |n+1,v,j+1,h=>by
  rw[ep,List.getElem?_cons_succ,xB n _ j (by omega),Nat.div_div_eq_div_mul,Nat.pow_succ,Nat.mul_comm B]
theorem Ez{B:Nat}:∀(a b:List Nat),val B (a++b)=val B a+B^a.length*val B b
 |[],b=>by simp[val]
 |x::a,b=>by
  rw[List.cons_append,val,val,Ez a b,List.length_cons,Nat.pow_succ,Nat.mul_add,Nat.add_assoc,Nat.mul_comm (B^a.length) B,Nat.mul_assoc]
theorem iq{B:Nat}:∀(n v:Nat),ep B (n+1) v=ep B n v++[v/B^n%B]
 |0,v=>by simp[ep]
 |n+1,v=>by
  rw[ep,iq n,ep,List.cons_append,Nat.div_div_eq_div_mul,Nat.pow_succ,Nat.mul_comm B]
theorem qG(B:Nat):∀k,ep B k 0=List.replicate k 0
 |0=>rfl
 |k+1=>by rw[ep,Nat.zero_mod,Nat.zero_div,qG B k];rfl
theorem BE{B:Nat}(hB:0<B):∀(n k v:Nat),v<B^n→ep B (n+k) v=ep B n v++List.replicate k 0
 |0,k,v,h=>by
  have:v=0:=by simpa using h
  subst this;rw[Nat.zero_add,qG];rfl
 |n+1,k,v,h=>by
  rw[show n+1+k=n+k+1 by omega,ep,ep,List.cons_append,BE hB n k (v/B) (by rw[Nat.div_lt_iff_lt_mul hB];rwa[Nat.pow_succ]at h)]
theorem rH{B:Nat}(hB:2≤B):∀v,v<B^v
 |0=>by simp
 |v+1=>by
  have:=rH hB v
  rw[Nat.pow_succ]
  have h2:B^v*2≤B^v*B:=Nat.mul_le_mul_left _ hB
  omega
theorem oS(l:List Nat):jE (l++[0])=jE l:=by simp[jE]
theorem tO(l:List Nat):∀k,jE (l++List.replicate k 0)=jE l
 |0=>by simp
 |k+1=>by rw[List.replicate_succ',←List.append_assoc,oS,tO l k]
theorem rI(l:List Nat){x:Nat}(h:x≠0):jE (l++[x])=l++[x]:=by simp[jE,h]
theorem vV(xs:List Nat):xs=[]∨(∃ys,xs=ys++[0])∨(∃ys y,y≠0∧xs=ys++[y]):=by
 rcases List.eq_nil_or_concat xs with rfl|⟨ys,y,rfl⟩
 ·exact .inl Y
 ·by_cases hy:y=0
  ·subst hy;exact .inr (.inl ⟨ys,by simp⟩)
  ·exact .inr (.inr ⟨ys,y,hy,by simp⟩)
theorem yC:∀(n:Nat) (l:List Nat),l.length=n→∃k,l=jE l++List.replicate k 0:=by
 intro n
 induction n with
 |zero=>intro l h;obtain rfl:=List.length_eq_zero_iff.1 h;exact⟨0,Y⟩
 |succ n ih=>
  intro l h
  rcases vV l with rfl|⟨ys,rfl⟩|⟨ys,y,hy,rfl⟩
  ·simp at h
  ·obtain⟨k,hk⟩:=ih ys (by simpa using h)
   refine⟨k+1,?_⟩
   rw[oS,List.replicate_succ',←List.append_assoc,←hk]
  ·exact⟨0,by rw[rI _ hy];simp⟩
theorem KT{l:List Nat}{x:Nat}(h:x∈jE l):x∈l:=by
 obtain⟨k,hk⟩:=yC _ l Y
 rw[hk];exact List.mem_append_left _ h
theorem C7(l:List Nat):(jE l).length≤l.length:=by
 obtain⟨k,hk⟩:=yC _ l Y
 have:=congrArg List.length hk
 rw[List.length_append]at this;omega
theorem C8(B:Nat):∀k,val B (List.replicate k 0)=0
 |0=>rfl
 |k+1=>by rw[List.replicate_succ,val,C8 B k];simp
theorem NC(B:Nat)(l:List Nat):val B (jE l)=val B l:=by
 obtain⟨k,hk⟩:=yC _ l Y
 conv=>rhs;rw[hk,Ez,C8]
 simp
theorem ny{B:Nat}(hB:2≤B){n v:Nat}(h:v<B^n):jE (ep B n v)=can B v:=by
 have hv:=rH hB v
 rcases Nat.le_total n v with hn|hn
 ·obtain⟨k,rfl⟩:=Nat.exists_eq_add_of_le hn
  rw[can,BE (by omega) n k _ h,tO]
 ·obtain⟨k,rfl⟩:=Nat.exists_eq_add_of_le hn
  rw[can,BE (by omega) v k _ hv,tO]
theorem jF{B:Nat}(hB:2≤B){l:List Nat}(h:∀x∈l,x<B):jE l=can B (val B l):=by
 conv=>lhs;rw[←Ah l h]
 exact ny hB (fC l h)
theorem jN{B:Nat}(hB:2≤B)(v:Nat):val B (can B v)=v:=by
 rw[can,NC,lP,Nat.mod_eq_of_lt (rH hB v)]
theorem fo{B:Nat}(hB:2≤B){v x:Nat}(h:x∈can B v):x<B:=nL (by omega) v v x (KT h)
theorem oT(B:Nat):can B 0=[]:=rfl
theorem xC{B:Nat}(hB:2≤B){v:Nat}(h:can B v=[]):v=0:=by have:=jN hB v;rw[h]at this;exact this.symm
theorem PM{B:Nat}(hB:2≤B){v n:Nat}(h:v<B^n):(can B v).length≤n:=by
 rw[←ny hB h]
 have:=C7 (ep B n v)
 rwa[bG]at this
theorem PN{B:Nat}(hB:2≤B)(v:Nat):jE (can B v)=can B v:=by
 rw[jF hB (λx hx=>fo hB hx),jN hB]
theorem JK{B:Nat}(hB:2≤B)(v:Nat):can B v=ep B (can B v).length v:=by
 have:=Ah (can B v) (λx hx=>fo hB hx)
 rw[jN hB]at this;exact this.symm
theorem cc{B:Nat}(hB:2≤B)(v:Nat):v<B^(can B v).length:=by
 have:=fC (can B v) (λx hx=>fo hB hx)
 rwa[jN hB]at this
theorem ur{B:Nat}(hB:2≤B){v j:Nat}(h:j<(can B v).length):(can B v)[j]? =some (v/B^j%B):=by
 rw[JK hB v]at h⊢
 rw[bG]at h
 exact xB _ _ _ h
theorem BF{B:Nat}(hB:2≤B){v j:Nat}(h:(can B v).length≤j):v/B^j=0:=by
 refine Nat.div_eq_of_lt (Nat.lt_of_lt_of_le (cc hB v) ?_)
 exact Nat.pow_le_pow_right (by omega) h
theorem GW{B:Nat}(hB:2≤B){v:Nat}(h:v≠0):∃l x,x≠0∧can B v=l++[x]:=by
 rcases vV (can B v)with e|⟨ys,e⟩|⟨ys,y,hy,e⟩
 ·exact absurd (xC hB e) h
 ·exfalso
  have h1:=PN hB v
  rw[e,oS]at h1
  have h2:=C7 ys
  rw[h1]at h2;simp at h2;omega
 ·exact⟨ys,y,hy,e⟩
theorem qg{B:Nat}(hB:2≤B){v n:Nat}(h:n<(can B v).length):B^n≤v:=by
 by_cases h0:v=0
 ·subst h0;simp[oT]at h
 obtain⟨l,x,hx,e⟩:=GW hB h0
 have h1:=jN hB v
 rw[e,Ez]at h1
 have hl:n≤l.length:=by rw[e]at h;simp at h;omega
 have h2:B^n≤B^l.length:=Nat.pow_le_pow_right (by omega) hl
 have h3:B^l.length≤B^l.length*val B [x]:=Nat.le_mul_of_pos_right _ (by simp[val];omega)
 omega
theorem bT{B:Nat}(hB:2≤B){v n:Nat}:(can B v).length≤n↔v<B^n:=by
 refine⟨λh=>?_,PM hB⟩
 exact Nat.lt_of_lt_of_le (cc hB v) (Nat.pow_le_pow_right (by omega) h)
theorem ND{B:Nat}(hB:2≤B){l:List Nat}{x:Nat}(hx:x≠0)(h:∀y∈l++[x],y<B):l++[x]=can B (val B (l++[x])):=by
 rw[←jF hB h,rI _ hx]
theorem qH{B:Nat}:∀(l:List Nat),(∀x∈l,x<B)→∀k,l.getD k 0=val B l/B^k%B
 |[],_,k=>by simp[val]
 |x::l,h,0=>by
  have h2:=h x (by simp)
  simp[val,Nat.add_mul_mod_self_left,Nat.mod_eq_of_lt h2]
 |x::l,h,k+1=>by
  have h2:=h x (by simp)
  have hB:0<B:=by omega
  rw[List.getD_cons_succ,qH l (λy hy=>h y (List.mem_cons_of_mem _ hy)) k,val,Nat.pow_succ,Nat.mul_comm (B^k) B,←Nat.div_div_eq_div_mul,Nat.add_mul_div_left _ _ hB,Nat.div_eq_of_lt h2,Nat.zero_add]
theorem gM(B V k:Nat):V%B^(k+1)=V%B^k+B^k*(V/B^k%B):=by
 rw[Nat.pow_succ,Nat.mod_mul]
def Ai(B V W k:Nat):Nat:=(V%B^k+W%B^k)/B^k
theorem BG{B:Nat}(hB:0<B)(V W k:Nat):Ai B V W k≤1:=by
 have hP:0<B^k:=Nat.pow_pos hB
 have h1:=Nat.mod_lt V hP
 have h2:=Nat.mod_lt W hP
 have:Ai B V W k<2:=by rw[Ai,Nat.div_lt_iff_lt_mul hP];omega
 omega
theorem BH{B:Nat}(hB:0<B)(V W k:Nat):(V/B^k%B+W/B^k%B+Ai B V W k)/B=Ai B V W (k+1):=by
 have hP:0<B^k:=Nat.pow_pos hB
 rw[Ai,Ai,gM,gM,Nat.pow_succ,←Nat.div_div_eq_div_mul]
 congr 1
 rw[show V%B^k+B^k*(V/B^k%B)+(W%B^k+B^k*(W/B^k%B))=(V%B^k+W%B^k)+B^k*(V/B^k%B+W/B^k%B) by rw[Nat.mul_add];omega,Nat.add_mul_div_left _ _ hP]
 omega
theorem Aj{B:Nat}(hB:0<B)(V W k:Nat):(V/B^k%B+W/B^k%B+Ai B V W k)%B=(V+W)/B^k%B:=by
 have hP:0<B^k:=Nat.pow_pos hB
 have h:(V+W)/B^k=V/B^k+W/B^k+Ai B V W k:=by
  have e1:=Nat.div_add_mod V (B^k)
  have e2:=Nat.div_add_mod W (B^k)
  rw[Ai]
  conv=>lhs;rw[←e1,←e2]
  rw[show B^k*(V/B^k)+V%B^k+(B^k*(W/B^k)+W%B^k)=(V%B^k+W%B^k)+B^k*(V/B^k+W/B^k) by rw[Nat.mul_add];omega,Nat.add_mul_div_left _ _ hP]
  omega
 rw[h]
 simp[Nat.add_mod]
theorem EA{B:Nat}{V W k:Nat}(hV:V<B^k)(hW:W<B^k):Ai B V W k=(V+W)/B^k:=by
 rw[Ai,Nat.mod_eq_of_lt hV,Nat.mod_eq_of_lt hW]
theorem BI(B V W:Nat):Ai B V W 0=0:=by simp[Ai,Nat.mod_one]
def yD(B V W k:Nat):Nat:=(V%B^k+B^k-W%B^k)/B^k
theorem BJ(B V W:Nat):yD B V W 0=1:=by simp[yD,Nat.mod_one]
theorem IQ{B:Nat}(hB:0<B)(V W k:Nat):yD B V W k≤1:=by
 have hP:0<B^k:=Nat.pow_pos hB
 have h1:=Nat.mod_lt V hP
 have:yD B V W k<2:=by
  rw[yD,Nat.div_lt_iff_lt_mul hP]
  generalize W%B^k=y at*
  generalize V%B^k=x at*
  omega
 omega
theorem JM{B:Nat}(hB:0<B)(V W k:Nat):V%B^(k+1)+B^(k+1)-W%B^(k+1)=(V%B^k+B^k-W%B^k)+B^k*(V/B^k%B+(B-1-W/B^k%B)):=by
 have hP:0<B^k:=Nat.pow_pos hB
 have h1:=Nat.mod_lt V hP
 have h2:=Nat.mod_lt W hP
 have h3:=Nat.mod_lt (W/B^k) hB
 rw[gM,gM,Nat.pow_succ]
 generalize B^k=p at*
 generalize V/p%B=x at*
 generalize W/p%B=y at*
 obtain⟨z,rfl⟩:∃z,B=y+1+z:=⟨B-y-1,by omega⟩
 have e1:y+1+z-1-y=z:=by omega
 rw[e1,Nat.mul_add p x z,Nat.mul_add p (y+1) z,Nat.mul_add p y 1]
 omega
theorem BK{B:Nat}(hB:0<B)(V W k:Nat):(V/B^k%B+(B-1-W/B^k%B)+yD B V W k)/B=yD B V W (k+1):=by
 have hP:0<B^k:=Nat.pow_pos hB
 rw[yD,yD,JM hB,Nat.pow_succ,←Nat.div_div_eq_div_mul,Nat.add_mul_div_left _ _ hP]
 congr 1
 omega
theorem IS{Q V W:Nat}(hQ:0<Q)(h:W≤V):(V%Q+Q-W%Q)%Q=(V-W)%Q:=by
 have e1:=Nat.div_add_mod V Q
 have e2:=Nat.div_add_mod W Q
 have h1:=Nat.mod_lt V hQ
 have h2:=Nat.mod_lt W hQ
 have hq:W/Q≤V/Q:=Nat.div_le_div_right h
 generalize V%Q=r at*
 generalize W%Q=s at*
 generalize V/Q=a at*
 generalize W/Q=b at*
 obtain⟨c,rfl⟩:=Nat.exists_eq_add_of_le hq
 rw[Nat.mul_add]at e1
 rcases Nat.lt_or_ge r s with hrs|hrs
 ·cases c with
  |zero=>simp at e1;omega
  |succ c=>
   rw[Nat.mul_add,Nat.mul_one]at e1
   rw[show V-W=Q*c+(r+Q-s) by omega,Nat.mul_add_mod]
 ·rw[show V-W=Q*c+(r-s) by omega,Nat.mul_add_mod,show r+Q-s=r-s+Q by omega,Nat.add_mod_right]
theorem EB{B:Nat}(hB:0<B){V W:Nat}(h:W≤V)(k:Nat):(V/B^k%B+(B-1-W/B^k%B)+yD B V W k)%B=(V-W)/B^k%B:=by
 have hP:0<B^k:=Nat.pow_pos hB
 have hQ:0<B^(k+1):=Nat.pow_pos hB
 have e:=IS hQ h
 have e2:V/B^k%B+(B-1-W/B^k%B)+yD B V W k=(V%B^(k+1)+B^(k+1)-W%B^(k+1))/B^k:=by
  rw[JM hB,Nat.add_mul_div_left _ _ hP,yD];omega
 rw[e2,←Nat.mod_mul_right_div_self,←Nat.mod_mul_right_div_self,←Nat.pow_succ,e]
end
section
theorem JN{B:Nat}(hB:0<B):∀(j N lo p d hi:Nat),lo<B^j→p<B→d<B→j<N→(ep B N (lo+B^j*(p+B*hi))).set j d=ep B N (lo+B^j*(d+B*hi))
 |0,N+1,lo,p,d,hi,hlo,hp,hd,_=>by
  have:lo=0:=by simpa using hlo
  subst this
  simp only[Nat.pow_zero,Nat.zero_add,Nat.one_mul,ep,List.set_cons_zero,Nat.add_mul_mod_self_left,Nat.mod_eq_of_lt hd]
  rw[Nat.add_mul_div_left _ _ hB,Nat.add_mul_div_left _ _ hB,Nat.div_eq_of_lt hp,Nat.div_eq_of_lt hd]
 |j+1,N+1,lo,p,d,hi,hlo,hp,hd,hN=>by
  have e:∀q,(lo+B^(j+1)*(q+B*hi))%B=lo%B:=λq=>by
   rw[Nat.pow_succ,Nat.mul_comm (B^j) B,Nat.mul_assoc,Nat.add_mul_mod_self_left]
  have e2:∀q,(lo+B^(j+1)*(q+B*hi))/B=lo/B+B^j*(q+B*hi):=λq=>by
   rw[Nat.pow_succ,Nat.mul_comm (B^j) B,Nat.mul_assoc,Nat.add_mul_div_left _ _ hB]
  have aem:lo/B<B^j:=by rw[Nat.div_lt_iff_lt_mul hB];rwa[Nat.pow_succ]at hlo
  rw[ep,ep,List.set_cons_succ,e,e,e2,e2,JN hB j N (lo/B) p d hi aem hp hd (by omega)]
theorem uu{B:Nat}(hB:0<B){N j u u' d:Nat}(hj:j<N)(hd:d<B)(hlo:u'%B^j=u%B^j)(IT:u'/B^j%B=d)(hhi:u'/B^(j+1)=u/B^(j+1)):(ep B N u).set j d=ep B N u':=by
 have hP:0<B^j:=Nat.pow_pos hB
 have f:∀u,u=u%B^j+B^j*(u/B^j%B+B*(u/B^(j+1))):=λu=>by
  have e1:=Nat.mod_add_div u (B^j)
  have e2:=KU B u j
  rw[Nat.add_comm]at e2
  rw[←e2,e1]
 rw[f u,JN hB j N _ _ d _ (Nat.mod_lt _ hP) (Nat.mod_lt _ hB) hd hj]
 conv=>rhs;rw[f u',hlo,IT,hhi]
where
 KU (B v m:Nat):v/B^m=B*(v/B^(m+1))+v/B^m%B:=by
  rw[Nat.pow_succ,←Nat.div_div_eq_div_mul,Nat.div_add_mod]
def mT(B V W i k:Nat):Nat:=((V%B^i)*W)%B^(i+k)+B^i*(V/B^i%B)*(W%B^k)
def mC(B V W i k:Nat):Nat:=mT B V W i k/B^(i+k)
def mV(B V W i k:Nat):Nat:=mT B V W i k%B^(i+k)+B^(i+k)*(((V%B^i)*W)/B^(i+k))
theorem Sn{B:Nat}(hB:0<B)(V W i k:Nat):mT B V W i k<B^(i+k)*B:=by
 have h1:((V%B^i)*W)%B^(i+k)<B^(i+k):=Nat.mod_lt _ (Nat.pow_pos hB)
 have h2:V/B^i%B<B:=Nat.mod_lt _ hB
 have h3:W%B^k<B^k:=Nat.mod_lt _ (Nat.pow_pos hB)
 have h4:B^i*(V/B^i%B)*(W%B^k)≤B^i*(B-1)*B^k:=Nat.mul_le_mul (Nat.mul_le_mul_left _ (by omega)) (Nat.le_of_lt h3)
 have h5:B^i*(B-1)*B^k=B^(i+k)*(B-1):=by rw[Nat.pow_add,Nat.mul_assoc,Nat.mul_assoc,Nat.mul_comm (B-1)]
 have h6:B^(i+k)*B=B^(i+k)*(B-1)+B^(i+k):=by
  obtain⟨b,rfl⟩:∃b,B=b+1:=⟨B-1,by omega⟩
  rw[Nat.add_sub_cancel,Nat.mul_add,Nat.mul_one]
 unfold mT
 omega
theorem So{B:Nat}(hB:0<B)(V W i k:Nat):mC B V W i k<B:=by
 rw[mC,Nat.div_lt_iff_lt_mul (Nat.pow_pos hB),Nat.mul_comm];exact Sn hB V W i k
theorem EC{B:Nat}(V W i k:Nat):mT B V W i (k+1)=mT B V W i k+B^(i+k)*(((V%B^i)*W)/B^(i+k)%B+(V/B^i%B)*(W/B^k%B)):=by
 have e1:((V%B^i)*W)%B^(i+(k+1))=((V%B^i)*W)%B^(i+k)+B^(i+k)*(((V%B^i)*W)/B^(i+k)%B):=by rw[←Nat.add_assoc,gM]
 have e2:W%B^(k+1)=W%B^k+B^k*(W/B^k%B):=gM B W k
 unfold mT
 rw[e1,e2,Nat.mul_add,Nat.mul_add (B^(i+k))]
 have e3:B^i*(V/B^i%B)*(B^k*(W/B^k%B))=B^(i+k)*((V/B^i%B)*(W/B^k%B)):=by
  rw[Nat.pow_add,Nat.mul_assoc,Nat.mul_assoc,Nat.mul_left_comm (V/B^i%B)]
 omega
theorem PO{B:Nat}(hB:0<B)(V W i k:Nat):(((V%B^i)*W)/B^(i+k)%B+(V/B^i%B)*(W/B^k%B)+mC B V W i k)/B=mC B V W i (k+1):=by
 have hP:0<B^(i+k):=Nat.pow_pos hB
 rw[mC,mC,EC,←Nat.add_assoc,Nat.pow_succ,←Nat.div_div_eq_div_mul,Nat.add_mul_div_left _ _ hP]
 congr 1;omega
theorem Sq{B:Nat}(V W i k:Nat):mV B V W i k%B^(i+k)=mT B V W i k%B^(i+k):=by
 rw[mV,Nat.add_mul_mod_self_left,Nat.mod_mod]
theorem JO{B:Nat}(hB:0<B)(V W i k:Nat):mV B V W i k/B^(i+k)=((V%B^i)*W)/B^(i+k):=by
 have hP:0<B^(i+k):=Nat.pow_pos hB
 rw[mV,Nat.add_mul_div_left _ _ hP,Nat.div_eq_of_lt (Nat.mod_lt _ hP),Nat.zero_add]
theorem UJ{B:Nat}(hB:0<B){V W i k N:Nat}(h:i+k<N):(ep B N (mV B V W i k))[i+k]? =some (((V%B^i)*W)/B^(i+k)%B):=by
 rw[xB _ _ _ h,JO hB]
theorem PR{B:Nat}(hB:0<B){V W i k N:Nat}(h:i+k<N):
  (ep B N (mV B V W i k)).set (i+k) ((((V%B^i)*W)/B^(i+k)%B+(V/B^i%B)*(W/B^k%B)+mC B V W i k)%B)=ep B N (mV B V W i (k+1)):=by
 have hP:0<B^(i+k):=Nat.pow_pos hB
 have hPB:B^(i+(k+1))=B^(i+k)*B:=by rw[←Nat.add_assoc,Nat.pow_succ]
 have hs:mT B V W i (k+1)/B^(i+k)=((V%B^i)*W)/B^(i+k)%B+(V/B^i%B)*(W/B^k%B)+mC B V W i k:=by
  rw[EC,Nat.add_mul_div_left _ _ hP,mC];omega
 have ht:mT B V W i (k+1)%B^(i+k)=mT B V W i k%B^(i+k):=by rw[EC,Nat.add_mul_mod_self_left]
 refine uu hB h (Nat.mod_lt _ hB) ?_ ?_ ?_
 ·rw[Sq,←ht,mV,hPB,Nat.mul_assoc,Nat.add_mul_mod_self_left,Nat.mod_mul_right_mod]
 ·rw[mV,hPB,Nat.mul_assoc,Nat.add_mul_div_left _ _ hP,Nat.add_mul_mod_self_left,Nat.mod_mul_right_div_self,Nat.mod_mod,hs]
 ·rw[show i+k+1=i+(k+1) by omega,JO hB,show i+(k+1)=i+k+1 by omega,Nat.pow_succ,←Nat.div_div_eq_div_mul,←Nat.div_div_eq_div_mul,JO hB]
theorem PS{B:Nat}(V W i:Nat):mV B V W i 0=(V%B^i)*W:=by
 rw[mV,mT,Nat.pow_zero,Nat.mod_one,Nat.mul_zero,Nat.add_zero,Nat.add_zero,Nat.mod_mod,Nat.mod_add_div]
theorem PT{B:Nat}(hB:0<B)(V W i:Nat):mC B V W i 0=0:=by
 rw[mC,mT,Nat.pow_zero,Nat.mod_one,Nat.mul_zero,Nat.add_zero,Nat.add_zero]
 exact Nat.div_eq_of_lt (Nat.mod_lt _ (Nat.pow_pos hB))
theorem UL{B:Nat}(hB:0<B){V W i n N:Nat}(hW:W<B^n)(h:i+n<N):(ep B N (mV B V W i n)).set (i+n) ((0+mC B V W i n)%B)=ep B N ((V%B^(i+1))*W):=by
 have hP:0<B^(i+n):=Nat.pow_pos hB
 have hp:(V%B^i)*W<B^(i+n):=by
  have h1:V%B^i<B^i:=Nat.mod_lt _ (Nat.pow_pos hB)
  rw[Nat.pow_add]
  by_cases h0:W=0
  ·subst h0;rw[Nat.mul_zero];exact Nat.mul_pos (Nat.pow_pos hB) (Nat.pow_pos hB)
  ·calc (V%B^i)*W<B^i*W:=Nat.mul_lt_mul_of_pos_right h1 (by omega)
    _≤B^i*B^n:=Nat.mul_le_mul_left _ (Nat.le_of_lt hW)
 have hT:mT B V W i n=(V%B^(i+1))*W:=by
  rw[mT,Nat.mod_eq_of_lt hp,Nat.mod_eq_of_lt hW,gM,Nat.add_mul]
 have hlt:=Sn hB V W i n
 rw[hT]at hlt
 refine uu hB h (Nat.mod_lt _ hB) ?_ ?_ ?_
 ·rw[Sq,hT]
 ·rw[Nat.zero_add,mC,hT]
 ·rw[Nat.pow_succ B (i+n),Nat.div_eq_of_lt hlt,←Nat.div_div_eq_div_mul,JO hB,Nat.div_eq_of_lt hp,Nat.zero_div]
def sT(B V f e i:Nat):Nat:=V%B^i*f+e
def sC(B V f e i:Nat):Nat:=sT B V f e i/B^i
theorem ED(B V f e:Nat):sC B V f e 0=e:=by simp[sC,sT,Nat.mod_one]
theorem JP(B V f e i:Nat):sT B V f e (i+1)=sT B V f e i+B^i*(V/B^i%B*f):=by
 unfold sT
 rw[gM,Nat.add_mul,Nat.mul_assoc];omega
theorem EE{B:Nat}(hB:0<B)(V f e i:Nat):(V/B^i%B*f+sC B V f e i)/B=sC B V f e (i+1):=by
 have hP:0<B^i:=Nat.pow_pos hB
 rw[sC,sC,JP,Nat.pow_succ,←Nat.div_div_eq_div_mul,Nat.add_mul_div_left _ _ hP]
 congr 1;omega
theorem IU{B:Nat}(hB:0<B)(V f e i:Nat):(V/B^i%B*f+sC B V f e i)%B=(V*f+e)/B^i%B:=by
 have hP:0<B^i:=Nat.pow_pos hB
 have h1:V*f+e=sT B V f e (i+1)+B^i*(B*(V/B^(i+1)*f)):=by
  have e1:=Nat.mod_add_div V (B^(i+1))
  unfold sT
  conv=>lhs;rw[←e1,Nat.add_mul]
  rw[Nat.pow_succ,Nat.mul_assoc,Nat.mul_assoc];omega
 rw[h1,Nat.add_mul_div_left _ _ hP,Nat.add_mul_mod_self_left,JP,Nat.add_mul_div_left _ _ hP,sC,Nat.add_comm]
theorem NF{B:Nat}(hB:0<B){V f e:Nat}(hf:f<B)(he:e<B)(i:Nat):sC B V f e i<B:=by
 have hP:0<B^i:=Nat.pow_pos hB
 rw[sC,Nat.div_lt_iff_lt_mul hP]
 have h1:V%B^i≤B^i-1:=by have:=Nat.mod_lt V hP;omega
 have h2:V%B^i*f≤(B^i-1)*(B-1):=Nat.mul_le_mul h1 (by omega)
 obtain⟨p,hp⟩:∃p,B^i=p+1:=⟨B^i-1,by omega⟩
 obtain⟨b,rfl⟩:∃b,B=b+1:=⟨B-1,by omega⟩
 unfold sT
 rw[hp]at h2⊢
 rw[Nat.add_sub_cancel,Nat.add_sub_cancel]at h2
 have h3:(b+1)*(p+1)=p*b+b+p+1:=by rw[Nat.add_mul,Nat.mul_add,Nat.mul_comm b p];omega
 omega
theorem IV{B V f e i:Nat}(h:V<B^i):sC B V f e i=(V*f+e)/B^i:=by rw[sC,sT,Nat.mod_eq_of_lt h]
def sU(B V f e i:Nat):Nat:=sT B V f e i%B^i+B^i*(V/B^i)
def qU(B V d n:Nat):Nat:=V%B^n+B^n*(V/B^n/d)
theorem PU(B V d:Nat):qU B V d 0=V/d:=by simp[qU,Nat.mod_one]
theorem UM{B V d n:Nat}(h:V<B^n):qU B V d n=V:=by simp[qU,Nat.mod_eq_of_lt h,Nat.div_eq_of_lt h]
theorem PV(B V m:Nat):V/B^m=B*(V/B^(m+1))+V/B^m%B:=by rw[Nat.pow_succ,←Nat.div_div_eq_div_mul,Nat.div_add_mod]
theorem Sr{B d:Nat}(V m:Nat):V/B^m=(V/B^(m+1)%d*B+V/B^m%B)+d*(B*(V/B^(m+1)/d)):=by
 have h1:=PV B V m
 have h2:=Nat.mod_add_div (V/B^(m+1)) d
 generalize V/B^(m+1)=q at*
 generalize V/B^m%B=y at*
 rw[h1]
 conv=>lhs;rw[←h2]
 rw[Nat.mul_add,Nat.mul_left_comm B d,Nat.mul_comm B (q%d)];omega
theorem Ss{B d:Nat}(hd:0<d)(V m:Nat):V/B^m/d=B*(V/B^(m+1)/d)+(V/B^(m+1)%d*B+V/B^m%B)/d:=by
 conv=>lhs;rw[Sr (B:=B) (d:=d) V m]
 rw[Nat.add_mul_div_left _ _ hd,Nat.add_comm]
theorem NG{B d:Nat}(V m:Nat):V/B^m%d=(V/B^(m+1)%d*B+V/B^m%B)%d:=by
 conv=>lhs;rw[Sr (B:=B) (d:=d) V m]
 rw[Nat.add_mul_mod_self_left]
theorem PW{B d:Nat}(hB:0<B)(hd:0<d)(V m:Nat):V/B^(m+1)%d*B+V/B^m%B<d*B:=by
 have h1:=Nat.mod_lt (V/B^(m+1)) hd
 have h2:=Nat.mod_lt (V/B^m) hB
 have h3:(V/B^(m+1)%d+1)*B≤d*B:=Nat.mul_le_mul_right _ h1
 rw[Nat.add_mul]at h3;omega
theorem NH{B:Nat}(hB:0<B)(V d n:Nat):qU B V d n/B^n=V/B^n/d:=by
 have hP:0<B^n:=Nat.pow_pos hB
 rw[qU,Nat.add_mul_div_left _ _ hP,Nat.div_eq_of_lt (Nat.mod_lt _ hP),Nat.zero_add]
theorem X2(B V d n:Nat):qU B V d n%B^n=V%B^n:=by rw[qU,Nat.add_mul_mod_self_left,Nat.mod_mod]
theorem PX{B:Nat}(V d m:Nat):qU B V d (m+1)%B^m=V%B^m:=by
 rw[qU,Nat.pow_succ,Nat.mul_assoc,Nat.add_mul_mod_self_left,Nat.mod_mul_right_mod]
theorem UN{B:Nat}(hB:0<B){V d m N:Nat}(h:m<N):(ep B N (qU B V d (m+1)))[m]? =some (V/B^m%B):=by
 have hP:0<B^m:=Nat.pow_pos hB
 rw[xB _ _ _ h,qU,Nat.pow_succ,Nat.mul_assoc,Nat.add_mul_div_left _ _ hP,Nat.add_mul_mod_self_left,Nat.mod_mul_right_div_self,Nat.mod_mod]
theorem PY{B:Nat}(hB:0<B){V d m N:Nat}(hd:0<d)(h:m<N):(ep B N (qU B V d (m+1))).set m ((V/B^(m+1)%d*B+V/B^m%B)/d)=ep B N (qU B V d m):=by
 have hx:(V/B^(m+1)%d*B+V/B^m%B)/d<B:=by rw[Nat.div_lt_iff_lt_mul hd,Nat.mul_comm B d];exact PW hB hd V m
 have hq:=Ss (B:=B) hd V m
 refine uu hB h hx ?_ ?_ ?_
 ·rw[X2,PX]
 ·rw[NH hB,hq,Nat.mul_add_mod,Nat.mod_eq_of_lt hx]
 ·rw[NH hB,Nat.pow_succ,←Nat.div_div_eq_div_mul,NH hB,hq,Nat.mul_add_div hB,Nat.div_eq_of_lt hx,←Nat.pow_succ];rfl
end
section
theorem PZ{B v:Nat}(hB:2≤B)(h0:v≠0)(h:v<B):can B v=[v]:=by
 have:=ND hB (l:=[]) h0 (by simpa using h)
 simpa[val]using this.symm
theorem P0{B v:Nat}(hB:2≤B)(h0:v/B≠0)(h:v<B*B):can B v=[v%B,v/B]:=by
 have h1:v/B<B:=by rw[Nat.div_lt_iff_lt_mul (by omega)];exact h
 have h2:v%B<B:=Nat.mod_lt _ (by omega)
 have:=ND hB (l:=[v%B]) h0 (by simp;exact⟨h2,h1⟩)
 simp only[List.cons_append,List.nil_append,val,Nat.mul_zero,Nat.add_zero]at this
 rw[Nat.mod_add_div]at this
 exact this.symm
theorem jZ{B:Nat}{l:List Nat}(h:∀x∈l,x<B){i:Nat}(hi:i<l.length):l[i]? =some (val B l/B^i%B):=by
 rw[←qH l h i];simp[List.getD,hi]
def vW(v w:Nat):Int:=if v<w then-1 else if v=w then 0 else 1
theorem pM{v w:Nat}(h:v<w):vW v w=-1:=by simp[vW,h]
theorem uw(v:Nat):vW v v=0:=by simp[vW]
theorem rJ{v w:Nat}(h:w<v):vW v w=1:=by
 have h1:¬v<w:=by omega
 have h2:¬v=w:=by omega
 simp[vW,h1,h2]
theorem vX{B v w:Nat}(hB:2≤B)(h:(can B v).length<(can B w).length):v<w:=
 Nat.lt_of_lt_of_le (cc hB v) (qg hB h)
theorem xD(B v m:Nat):v/B^m=B*(v/B^(m+1))+v/B^m%B:=by
 rw[Nat.pow_succ,←Nat.div_div_eq_div_mul,Nat.div_add_mod]
theorem C9{B v w m:Nat}(h:v/B^m<w/B^m):v<w:=by
 rcases Nat.lt_or_ge v w with h1|h1
 ·exact h1
 ·have:=Nat.div_le_div_right (c:=B^m) h1;omega
theorem Da{B v w m:Nat}(h:v/B^(m+1)=w/B^(m+1)):(v/B^m%B=w/B^m%B∧v/B^m=w/B^m)∨(v/B^m%B<w/B^m%B∧v<w)∨(w/B^m%B<v/B^m%B∧w<v):=by
 have h1:=xD B v m
 have h2:=xD B w m
 rw[←h]at h2
 rcases Nat.lt_trichotomy (v/B^m%B) (w/B^m%B)with h3|h3|h3
 ·exact .inr (.inl ⟨h3,C9 (B:=B) (m:=m) (by omega)⟩)
 ·exact .inl ⟨h3,by omega⟩
 ·exact .inr (.inr ⟨h3,C9 (B:=B) (m:=m) (by omega)⟩)
end
end Go.Fw
namespace Go.Proofs.YtfoldppidpmchaaGreat
section
open Go.Fw
theorem Ak(l:List Nat)(hl:l.length≤1000000000000):bt l=some (jE l):=by
 unfold bt
 refine fR (λy=>y.length≤1000000000000∧jE y=jE l) (λe=>e=jE l) (λy=>y.length) ?_ ⟨hl,Y⟩ (λe he=>by rw[he])
 rintro y ⟨hy,ht⟩
 rcases vV y with rfl|⟨ys,rfl⟩|⟨ys,x,hx,rfl⟩
 ·right;exact⟨[],by simp[cm],ht⟩
 ·left
  have h1:((ys++[0]).length:Int)=((ys.length+1:Nat):Int):=by simp
  have h2:ys.length≤9223372036854775807:=by simp at hy;omega
  refine⟨ys,?_,⟨by simp at hy⊢;omega,by rw[←ht,oS]⟩,by simp⟩
  simp only[cm,Option.bind_some,h1,BD h2]
  rw[bN (a:=0) (by simp),om (by simp)]
  simp
 ·right
  have h1:((ys++[x]).length:Int)=((ys.length+1:Nat):Int):=by simp
  have h2:ys.length≤9223372036854775807:=by simp at hy;omega
  refine⟨ys++[x],?_,by rw[←ht,rI _ hx]⟩
  simp only[cm,Option.bind_some,h1,BD h2]
  rw[bN (a:=x) (by simp)]
  simp[hx]
def zc(n:Bool)(v:Nat):Zr:=⟨n&&v != 0,can 4294967296 v⟩
theorem JQ(n:Bool):zc n 0=⟨false,[]⟩:=by simp[zc,oT]
theorem NI(n:Bool){v:Nat}(h:v≠0):zc n v=⟨n,can 4294967296 v⟩:=by simp[zc,h]
def EF(l:List Nat):Prop:=(∀x∈l,x<4294967296)∧l.length≤100000000000
abbrev vl(l:List Nat):Nat:=val 4294967296 l
theorem jV(n:Bool)(l:List Nat)(h:EF l):ct n l=some (zc n (vl l)):=by
 unfold ct
 rw[Ak l (by have:=h.2;omega),jF (by decide) h.1]
 show _=some (zc n (val 4294967296 l))
 by_cases hz:val 4294967296 l=0
 ·rw[hz,JQ];simp[oT]
 ·have:can 4294967296 (val 4294967296 l)≠[]:=λe=>hz (xC (by decide) e)
  rw[NI _ hz];simp[this]
theorem qJ(n:Bool)(v:Nat)(h:v<18446744073709551616):eJ n v=some (zc n v):=by
 unfold eJ
 by_cases hz:v=0
 ·subst hz;simp[JQ]
 ·rw[NI _ hz]
  by_cases h1:v/2^32=0
  ·rw[PZ (by decide) hz (by omega)]
   simp only[Option.bind_some,hz,h1,decide_false,decide_true,cond_false,cond_true]
   rw[Nat.mod_eq_of_lt (by omega)]
  ·rw[P0 (by decide) (by omega) (by omega)]
   simp only[Option.bind_some,hz,h1,decide_false,cond_false]
   rw[Nat.mod_eq_of_lt (a:=v/2^32) (by omega)]
theorem NJ{a b s:Nat}(h:a<2^s):a ||| b*2^s=a+b*2^s:=by
 rw[Nat.or_comm,Nat.mul_comm b,←Nat.two_pow_add_eq_or_of_lt h,Nat.add_comm]
theorem low_eq(l:List Nat)(h:∀x∈l,x<4294967296)(hl:l.length≤2):dB l=some (vl l):=by
 rcases l with _|⟨x,_|⟨y,_|⟨z,l⟩⟩⟩
 ·simp[dB,vl,val]
 ·have hx:=h x (by simp)
  simp only[dB,uo (l:=[x]) (a:=x) rfl]
  simp[vl,val];omega
 ·have hx:=h x (by simp)
  have hy:=h y (by simp)
  simp only[dB,uo (l:=[x,y]) (a:=x) Y,NA (l:=[x,y]) (a:=y) Y,Option.bind_some]
  rw[Nat.mod_eq_of_lt (a:=x) (by omega),Nat.mod_eq_of_lt (a:=y) (by omega),Nat.mod_eq_of_lt (a:=y*2^32) (by omega),NJ (by omega),Nat.mod_eq_of_lt (by omega)]
  simp[vl,val];omega
 ·simp at hl
theorem gS(x c:Nat)(h:x+c<18446744073709551616):bV x c=some ((x+c)%4294967296,(x+c)/4294967296):=by
 simp[bV,Nat.mod_eq_of_lt h]
theorem j0(v w:Nat)(hv:(can 4294967296 v).length≤100000000000)(hw:(can 4294967296 w).length≤100000000000):cO (can 4294967296 v) (can 4294967296 w)=some (vW v w):=by
 unfold cO
 rcases Nat.lt_trichotomy (can 4294967296 v).length (can 4294967296 w).length with hl|hl|hl
 ·rw[pM (vX (by decide) hl)]
  simp only[Option.bind_some]
  rw[show decide (((can 4294967296 v).length:Int)≠((can 4294967296 w).length:Int))=true by simp;omega,show decide (((can 4294967296 v).length:Int)<((can 4294967296 w).length:Int))=true by simp;omega];rfl
 ·simp only[Option.bind_some]
  rw[show decide (((can 4294967296 v).length:Int)≠((can 4294967296 w).length:Int))=false by simp;omega,cond_false]
  refine fR (λy=>∃n:Nat,y=(n:Int)-1∧n≤(can 4294967296 v).length∧v/4294967296^n=w/4294967296^n) (λe=>e=(if v=w then .inl ()else .inr (vW v w))) (λy=>(y+1).toNat) ?_ ⟨(can 4294967296 v).length,?_,Nat.le_refl _,?_⟩ ?_
  ·rintro y ⟨n,rfl,hn,he⟩
   cases n with
   |zero=>
    right
    have:v=w:=by simpa using he
    subst this
    exact⟨_,by simp,Y⟩
   |succ m=>
    have Dp:=ur (B:=4294967296) (by decide) (v:=v) (j:=m) (by omega)
    have X3:=ur (B:=4294967296) (by decide) (v:=w) (j:=m) (by omega)
    have e0:((m+1:Nat):Int)-1=(m:Int):=by omega
    rw[e0]
    rcases Da he with⟨h1,h2⟩|⟨h1,h2⟩|⟨h1,h2⟩
    ·left
     refine⟨(m:Int)-1,?_,⟨m,Y,by omega,h2⟩,by omega⟩
     simp only[Option.bind_some,bN Dp,bN X3,h1]
     rw[cC (by omega) (by omega)]
     simp
    ·right
     refine⟨.inr (-1),?_,by rw[if_neg (by omega),pM h2]⟩
     simp only[Option.bind_some,bN Dp,bN X3]
     simp[h1,Nat.ne_of_lt h1]
    ·right
     refine⟨.inr 1,?_,by rw[if_neg (by omega),rJ h2]⟩
     simp only[Option.bind_some,bN Dp,bN X3]
     simp[Nat.not_lt_of_lt h1,Nat.ne_of_gt h1]
  ·rw[cC (by omega) (by omega)]
  ·rw[BF (by decide) (Nat.le_refl _),BF (by decide) (by omega)]
  ·rintro e rfl
   by_cases h:v=w
   ·subst h;simp[uw]
   ·simp[h]
 ·rw[rJ (vX (by decide) hl)]
  simp only[Option.bind_some]
  rw[show decide (((can 4294967296 v).length:Int)≠((can 4294967296 w).length:Int))=true by simp;omega,show decide (((can 4294967296 v).length:Int)<((can 4294967296 w).length:Int))=false by simp;omega];rfl
theorem Al{l:List Nat}(h:∀x∈l,x<4294967296)(i:Nat):l.getD i 0<4294967296:=by
 rcases Nat.lt_or_ge i l.length with hi|hi
 ·exact h _ (List.mem_of_getElem? (sy hi))
 ·rw[vv hi];decide
theorem zq(a b:List Nat)(ha:EF a)(hb:EF b):eC a b=some (ep 4294967296 (max a.length b.length+1) (vl a+vl b)):=by
 obtain⟨hA,hla⟩:=ha
 obtain⟨hB,hlb⟩:=hb
 have hV:val 4294967296 a<4294967296^(max a.length b.length):=Nat.lt_of_lt_of_le (fC a hA) (Nat.pow_le_pow_right (by decide) (by omega))
 have hW:val 4294967296 b<4294967296^(max a.length b.length):=Nat.lt_of_lt_of_le (fC b hB) (Nat.pow_le_pow_right (by decide) (by omega))
 unfold eC
 simp only[Option.bind_some]
 rw[show max (a.length:Int) (b.length:Int)=((max a.length b.length:Nat):Int) by omega,b8 (by omega),IP (by decide) (by omega),Option.bind_some]
 refine rG (λk=>(Ai 4294967296 (vl a) (vl b) k,ep 4294967296 k (vl a+vl b))) (by simp[BI,ep]) (λk hk=>?_) ?_
 ·have hx:=Al hA k
  have hy:=Al hB k
  have hc:=BG (B:=4294967296) (by decide) (vl a) (vl b) k
  have hxe:=qH a hA k
  have hye:=qH b hB k
  simp only[Option.bind_some]
  rw[Nat.mod_eq_of_lt (a:=a.getD k 0) (by omega),Nat.mod_eq_of_lt (a:=b.getD k 0) (by omega),Nat.mod_eq_of_lt (a:=a.getD k 0+b.getD k 0) (by omega),gS _ _ (by omega)]
  simp only[Option.bind_some]
  rw[vU (by decide) (by rw[bG];omega),Option.bind_some,hxe,hye,BH (by decide),Aj (by decide),←iq]
 ·have hc:=BG (B:=4294967296) (by decide) (vl a) (vl b) (max a.length b.length)
  simp only
  rw[gS _ _ (by omega)]
  simp only[Option.bind_some]
  rw[vU (by decide) (by rw[bG];omega),Option.bind_some,Nat.zero_add,EA hV hW,←iq]
theorem zu(a b:List Nat)(ha:EF a)(hb:EF b)(hl:b.length≤a.length)(hle:vl b≤vl a):cX a b=some (ep 4294967296 a.length (vl a-vl b)):=by
 obtain⟨hA,hla⟩:=ha
 obtain⟨hB,hlb⟩:=hb
 have hmx:max a.length b.length=a.length:=by omega
 unfold cX
 simp only[Option.bind_some]
 rw[IP (by decide) (by omega),Option.bind_some,hmx]
 refine rG (λk=>(yD 4294967296 (vl a) (vl b) k,ep 4294967296 k (vl a-vl b))) (by simp[BJ,ep]) (λk hk=>?_) Y
 have hx:=Al hA k
 have hy:=Al hB k
 have hc:=IQ (B:=4294967296) (by decide) (vl a) (vl b) k
 have hxe:=qH a hA k
 have hye:=qH b hB k
 simp only[Option.bind_some]
 rw[Nat.mod_eq_of_lt (a:=a.getD k 0) (by omega),Nat.mod_eq_of_lt (a:=b.getD k 0) (by omega),rF (by omega) (by omega),Nat.mod_eq_of_lt (a:=a.getD k 0+(4294967295-b.getD k 0)) (by omega),gS _ _ (by omega)]
 simp only[Option.bind_some]
 rw[vU (by decide) (by rw[bG];omega),Option.bind_some,hxe,hye,BK (B:=4294967296) (by decide),EB (B:=4294967296) (by decide) hle,←iq]
theorem GX(a b:List Nat)(ha:EF a)(hb:EF b):fO a b=some (ep 4294967296 (a.length+b.length) (vl a*vl b)):=by
 obtain⟨hA,hla⟩:=ha
 obtain⟨hB,hlb⟩:=hb
 unfold fO
 simp only[Option.bind_some]
 rw[lN (by omega),tN (by decide) (by omega),Option.bind_some]
 refine bJ (λi=>((i:Int),ep 4294967296 (a.length+b.length) (vl a%4294967296^i*vl b))) a.length (ep 4294967296 (a.length+b.length) (vl a%4294967296^a.length*vl b)) (by simp[Nat.mod_one,qG]) (λi hi=>?_) (by simp) (by rw[Nat.mod_eq_of_lt (fC a hA)])
 have YZ:=jZ hA hi
 have hx:val 4294967296 a/4294967296^i%4294967296<4294967296:=Nat.mod_lt _ (by decide)
 simp only[Option.bind_some,show decide ((i:Int)<(a.length:Int))=true by simp;omega,cond_true]
 rw[bN YZ,Option.bind_some]
 refine bJ (λk=>((k:Int),mC 4294967296 (vl a) (vl b) i k,ep 4294967296 (a.length+b.length) (mV 4294967296 (vl a) (vl b) i k))) b.length (mC 4294967296 (vl a) (vl b) i b.length,ep 4294967296 (a.length+b.length) (mV 4294967296 (vl a) (vl b) i b.length)) (by simp[PT,PS]) (λk hk=>?_) (by simp) ?_
 ·have hgy:=jZ hB hk
  have Y0:=UJ (B:=4294967296) (by decide) (V:=vl a) (W:=vl b) (i:=i) (k:=k) (N:=a.length+b.length) (by omega)
  have hy:val 4294967296 b/4294967296^k%4294967296<4294967296:=Nat.mod_lt _ (by decide)
  have hp:vl a%4294967296^i*vl b/4294967296^(i+k)%4294967296<4294967296:=Nat.mod_lt _ (by decide)
  have hc:=So (B:=4294967296) (by decide) (vl a) (vl b) i k
  have hxy:val 4294967296 a/4294967296^i%4294967296*(val 4294967296 b/4294967296^k%4294967296)≤4294967295*4294967295:=Nat.mul_le_mul (by omega) (by omega)
  simp only[Option.bind_some,show decide ((k:Int)<(b.length:Int))=true by simp;omega,cond_true]
  rw[bN hgy,Option.bind_some,lN (by omega),gk (by rw[bG];omega),Option.bind_some,Y0,Option.bind_some]
  rw[Nat.mod_eq_of_lt (a:=vl a%4294967296^i*vl b/4294967296^(i+k)%4294967296) (by omega),Nat.mod_eq_of_lt (a:=val 4294967296 a/4294967296^i%4294967296) (b:=18446744073709551616) (by omega),Nat.mod_eq_of_lt (a:=val 4294967296 b/4294967296^k%4294967296) (b:=18446744073709551616) (by omega),Nat.mod_eq_of_lt (a:=val 4294967296 a/4294967296^i%4294967296*(val 4294967296 b/4294967296^k%4294967296)) (by omega),Nat.mod_eq_of_lt (a:=vl a%4294967296^i*vl b/4294967296^(i+k)%4294967296+_) (by omega),gS _ _ (by omega)]
  simp only[Option.bind_some]
  rw[jD (by rw[bG];omega),Option.bind_some,PO (B:=4294967296) (by decide),PR (B:=4294967296) (by decide) (by omega),b8 (by omega)]
 ·have hc:=So (B:=4294967296) (by decide) (vl a) (vl b) i b.length
  simp only[Option.bind_some]
  rw[lN (by omega),gS _ _ (by omega)]
  simp only[Option.bind_some]
  rw[gk (by rw[bG];omega),Option.bind_some,jD (by rw[bG];omega),Option.bind_some,UL (B:=4294967296) (by decide) (fC b hB) (by omega),b8 (by omega)]
end
section
open Go.Fw
theorem P1{a b s:Nat}(h:a<2^s):b*2^s ||| a=b*2^s+a:=by rw[Nat.or_comm,NJ h,Nat.add_comm]
theorem JR{a b:Nat}(h:a<4294967296):b*4294967296 ||| a=b*4294967296+a:=P1 (s:=32) h
theorem GY(a:List Nat)(d:Nat)(ha:EF a)(hd:0<d)(hd2:d≤4294967296):ig a d=some (vl a%d,ep 4294967296 a.length (vl a/d)):=by
 obtain⟨hA,hla⟩:=ha
 unfold ig
 simp only[Option.bind_some]
 rw[cC (by omega) (by omega)]
 refine bJ (λi=>(vl a/4294967296^(a.length-i)%d,((a.length-i:Nat):Int)-1,ep 4294967296 a.length (qU 4294967296 (vl a) d (a.length-i)))) a.length (vl a%d,ep 4294967296 a.length (vl a/d)) ?_ (λi hi=>?_) (by simp[PU]) ?_
 ·simp only[Nat.sub_zero]
  rw[UM (fC a hA),Ah a hA,Nat.div_eq_of_lt (fC a hA),Nat.zero_mod]
 ·obtain⟨m,hm⟩:∃m,a.length-i=m+1:=⟨a.length-i-1,by omega⟩
  have hm':a.length-(i+1)=m:=by omega
  have hml:m<a.length:=by omega
  rw[hm,hm']
  have hy:vl a/4294967296^m%4294967296<4294967296:=Nat.mod_lt _ (by decide)
  have hr:vl a/4294967296^(m+1)%d<d:=Nat.mod_lt _ hd
  have hq:=PW (B:=4294967296) (by decide) hd (vl a) m
  have hqd:(vl a/4294967296^(m+1)%d*4294967296+vl a/4294967296^m%4294967296)/d<4294967296:=by rw[Nat.div_lt_iff_lt_mul hd,Nat.mul_comm 4294967296 d];exact hq
  have hg:=UN (B:=4294967296) (by decide) (V:=vl a) (d:=d) (m:=m) (N:=a.length) hml
  have hlt:vl a/4294967296^(m+1)%d*4294967296+vl a/4294967296^m%4294967296<18446744073709551616:=by omega
  have Le:vl a/4294967296^(m+1)%d*4294967296<18446744073709551616:=Nat.lt_of_le_of_lt (Nat.le_add_right _ _) hlt
  have zC:vl a/4294967296^m%4294967296<18446744073709551616:=Nat.lt_of_le_of_lt (Nat.le_add_left _ _) hlt
  have hi1:((m+1:Nat):Int)-1=(m:Int):=by omega
  simp only[hi1,show decide ((0:Int)≤(m:Int))=true by simp,cond_true,Option.bind_some]
  rw[gk (by rw[bG];omega),Option.bind_some,hg]
  simp only[Option.bind_some]
  rw[show(2:Nat)^32=4294967296 from rfl]
  rw[Nat.mod_eq_of_lt (a:=vl a/4294967296^(m+1)%d*4294967296) Le,Nat.mod_eq_of_lt (a:=vl a/4294967296^m%4294967296) (b:=18446744073709551616) zC,JR hy,Nat.mod_eq_of_lt (a:=vl a/4294967296^(m+1)%d*4294967296+vl a/4294967296^m%4294967296) hlt,Ey (by omega) hlt,Ag (by omega)]
  simp only[Option.bind_some]
  rw[Nat.mod_eq_of_lt (b:=4294967296) (a:=(vl a/4294967296^(m+1)%d*4294967296+vl a/4294967296^m%4294967296)/d) hqd,jD (by rw[bG];omega),Option.bind_some,cC (by omega) (by omega)]
  rw[PY (B:=4294967296) (by decide) hd hml,←NG (B:=4294967296) (d:=d) (vl a) m]
 ·simp only
  rw[qF (by rw[bG]),Option.bind_some]
theorem shiftLeft_eq(a:List Nat)(s:Nat)(ha:EF a)(hs:s<32):fe a s=some (ep 4294967296 (a.length+1) (vl a*2^s)):=by
 obtain⟨hA,hla⟩:=ha
 have hf:2^s<4294967296:=by
  have:2^s<2^32:=Nat.pow_lt_pow_right (by decide) hs
  omega
 unfold fe
 simp only[Option.bind_some]
 rw[b8 (by omega),IP (by decide) (by omega),Option.bind_some]
 refine bJ (λi=>((i:Int),sC 4294967296 (vl a) (2^s) 0 i,ep 4294967296 i (vl a*2^s+0))) a.length (sC 4294967296 (vl a) (2^s) 0 a.length,ep 4294967296 a.length (vl a*2^s+0)) (by simp[ED,ep]) (λi hi=>?_) (by simp) ?_
 ·have hx:vl a/4294967296^i%4294967296<4294967296:=Nat.mod_lt _ (by decide)
  have hc:=NF (B:=4294967296) (by decide) (V:=vl a) hf (show(0:Nat)<4294967296 by decide) i
  have hxf:vl a/4294967296^i%4294967296*2^s≤4294967295*4294967295:=Nat.mul_le_mul (by omega) (by omega)
  have hg:a[i]? =some (vl a/4294967296^i%4294967296):=jZ hA hi
  simp only[show decide ((i:Int)<(a.length:Int))=true by simp;omega,cond_true]
  rw[bN hg]
  simp only[Option.bind_some]
  rw[show min s 64=s by omega,Nat.mod_eq_of_lt (a:=vl a/4294967296^i%4294967296) (b:=18446744073709551616) (by omega),Nat.mod_eq_of_lt (b:=18446744073709551616) (by omega),gS _ _ (by omega)]
  simp only[Option.bind_some]
  rw[vU (by decide) (by rw[bG];omega),Option.bind_some,EE (B:=4294967296) (by decide),IU (B:=4294967296) (by decide),b8 (by omega),←iq]
 ·have hc:=NF (B:=4294967296) (by decide) (V:=vl a) hf (show(0:Nat)<4294967296 by decide) a.length
  simp only
  rw[gS _ _ (by omega)]
  simp only[Option.bind_some]
  rw[vU (by decide) (by rw[bG];omega),Option.bind_some,Nat.zero_add,IV (fC a hA),←iq]
  simp
theorem CG(a:List Nat)(s:Nat):iE a s=fe a s:=rfl
def vY:On:=[0,1,2,2,3,3,3,3,4,4,4,4,4,4,4,4,5,5,5,5,5,5,5,5,5,5,5,5,5,5,5,5]++List.replicate 32 6++List.replicate 64 7++List.replicate 128 8
theorem UO:∀y:Nat,y<256→uS vY (y:Int)=some ((uS vY (y:Int)).getD 0)∧(uS vY (y:Int)).getD 0≤8∧y<2^(uS vY (y:Int)).getD 0∧(y=0∨2^(uS vY (y:Int)).getD 0≤2*y):=by decide+kernel
set_option maxRecDepth 20000 in
theorem NK(x:Nat)(h:x<4294967296):∃n:Nat,gE x=some (n:Int)∧n≤32∧x<2^n∧(x=0∨2^n≤2*x):=by
 have key:∀(y k:Nat),y<256→y=x/2^k→k≤24→(x≠0→y≠0)→∃n:Nat,(((uS vY ((y%256:Nat):Int)).bind λfy=>(some (IntKind.i64.wrap (fy:Int))).bind λdS=>(some (IntKind.i64.wrap ((k:Int)+dS))).bind λeI=>some eI)=some (n:Int))∧n≤32∧x<2^n∧(x=0∨2^n≤2*x):=by
  intro y k hy hyx hk hnz
  obtain⟨h1,h2,h3,h4⟩:=UO y hy
  rw[Nat.mod_eq_of_lt hy,h1]
  generalize (uS vY (y:Int)).getD 0=t at*
  have hp:0<2^k:=Nat.two_pow_pos _
  have e1:2^(k+t)=2^k*2^t:=Nat.pow_add ..
  have e2:=Nat.div_add_mod x (2^k)
  have e3:=Nat.mod_lt x hp
  rw[←hyx]at e2
  refine⟨k+t,?_,by omega,?_,?_⟩
  ·simp only[Option.bind_some]
   rw[gj (by omega),lN (by omega)]
  ·rw[e1]
   have:2^k*(y+1)≤2^k*2^t:=Nat.mul_le_mul_left _ h3
   rw[Nat.mul_add]at this
   omega
  ·rcases h4 with h4|h4
   ·left
    cases Nat.eq_zero_or_pos x with
    |inl h=>exact h
    |inr h=>exact absurd h4 (hnz (by omega))
   ·right
    rw[e1]
    have:2^k*2^t≤2^k*(2*y):=Nat.mul_le_mul_left _ h4
    rw[show 2^k*(2*y)=2*(2^k*y) by rw[Nat.mul_left_comm]]at this
    omega
 unfold gE
 simp only[cm,Option.bind_some]
 by_cases c1:65536≤x
 ·rw[show decide (65536≤x)=true by simpa using c1]
  simp only[cond_true]
  by_cases c2:256≤x/2^16
  ·rw[show decide (256≤x/2^16)=true by simpa using c2]
   simp only[cond_true]
   rw[show IntKind.i64.wrap (16+8)=((24:Nat):Int) by decide]
   exact key (x/2^16/2^8) 24 (by omega) (by omega) (by omega) (by omega)
  ·rw[show decide (256≤x/2^16)=false by simpa using c2]
   simp only[cond_false]
   exact key (x/2^16) 16 (by omega) Y (by omega) (by omega)
 ·rw[show decide (65536≤x)=false by simpa using c1]
  simp only[cond_false]
  by_cases c2:256≤x
  ·rw[show decide (256≤x)=true by simpa using c2]
   simp only[cond_true]
   rw[show IntKind.i64.wrap (0+8)=((8:Nat):Int) by decide]
   exact key (x/2^8) 8 (by omega) Y (by omega) (by omega)
  ·rw[show decide (256≤x)=false by simpa using c2]
   simp only[cond_false]
   exact key x 0 (by omega) (by simp) (by omega) (λh=>h)
theorem X4(x:Nat)(h:x<4294967296)(h0:x≠0):∃s:Nat,dc x=some (s:Int)∧s<32∧2147483648≤x*2^s∧x*2^s<4294967296:=by
 obtain⟨n,h1,h2,h3,h4⟩:=NK x h
 have h4:2^n≤2*x:=h4.resolve_left h0
 have hn:n≠0:=by rintro rfl;simp at h3;omega
 refine⟨32-n,?_,by omega,?_,?_⟩
 ·unfold dc
  rw[h1]
  simp only[Option.bind_some]
  rw[cC (by omega) (by omega)]
  congr 1;omega
 ·have:2^n*2^(32-n)≤2*x*2^(32-n):=Nat.mul_le_mul_right _ h4
  rw[←Nat.pow_add,show n+(32-n)=32 by omega,Nat.mul_assoc]at this
  omega
 ·have:x*2^(32-n)<2^n*2^(32-n):=Nat.mul_lt_mul_of_pos_right h3 (Nat.two_pow_pos _)
  rw[←Nat.pow_add,show n+(32-n)=32 by omega]at this
  omega
end
end Go.Proofs.YtfoldppidpmchaaGreat
namespace Go.Fw
section
section X5
variable {B V U W:Nat}
theorem UP{P F T:Nat}(hP:0<P)(hF:0<F)(hV:F*P≤V)(hU:U<(T+1)*P):U/V≤T/F:=by
 have UQ:0<V:=Nat.lt_of_lt_of_le (Nat.mul_pos hF hP) hV
 rw[Nat.le_div_iff_mul_le hF]
 rcases Nat.lt_or_ge T (U/V*F)with h|h
 ·exfalso
  have h1:U/V*V≤U:=Nat.div_mul_le_self U V
  have h2:U/V*(F*P)≤U/V*V:=Nat.mul_le_mul_left _ hV
  have h3:(T+1)*P≤U/V*F*P:=Nat.mul_le_mul_right _ h
  rw[Nat.mul_assoc]at h3
  omega
 ·exact h
theorem P2{P F S T u g r:Nat}(hV:(F*B+S)*P≤V)(hU:U<(T*B+u+1)*P)(V1:g*F+r=T)(h:r*B+u<g*S):U<g*V:=by
 have h1:g*((F*B+S)*P)≤g*V:=Nat.mul_le_mul_left _ hV
 have h2:(T*B+u+1)*P≤g*(F*B+S)*P:=by
  apply Nat.mul_le_mul_right
  rw[Nat.mul_add,←Nat.mul_assoc,←V1,Nat.add_mul]
  omega
 rw[Nat.mul_assoc]at h2
 omega
theorem UR{P V2 U2 g:Nat}(hV:V<(V2+1)*P)(hU:U2*P≤U)(hq:U/V<B)(hB:B≤V2)(UQ:0<V)(h:g*V2≤U2):g≤U/V+1:=by
 rcases Nat.lt_or_ge (U/V+1) g with h'|h'
 ·exfalso
  have h1:U<(U/V+1)*V:=by have:=Nat.lt_div_mul_add (a:=U) UQ;rw[Nat.add_mul,Nat.one_mul];exact this
  have h2:(U/V+1)*V≤(U/V+1)*((V2+1)*P):=Nat.mul_le_mul_left _ (Nat.le_of_lt hV)
  have h3:g*V2*P≤U2*P:=Nat.mul_le_mul_right _ h
  have h4:(U/V+2)*V2≤g*V2:=Nat.mul_le_mul_right _ h'
  have h5:(U/V+2)*V2*P≤g*V2*P:=Nat.mul_le_mul_right _ h4
  have h6:(U/V+1)*((V2+1)*P)≤(U/V+2)*V2*P:=by
   rw[←Nat.mul_assoc]
   apply Nat.mul_le_mul_right
   rw[Nat.mul_add,Nat.add_mul (U/V) 2 V2,Nat.add_mul (U/V) 1 V2]
   omega
  omega
 ·exact h'
end X5
def mix(B o i X U A:Nat):Nat:=A%B^o+B^o*(X%B^i+B^i*(U/B^i))
theorem JS(B o i X U A:Nat):mix B o i X U A%B^o=A%B^o:=by rw[mix,Nat.add_mul_mod_self_left,Nat.mod_mod]
section mix
variable {B:Nat}(hB:0<B)(o i X U A:Nat)
include hB
theorem xE:mix B o i X U A/B^o=X%B^i+B^i*(U/B^i):=by
 rw[mix,Nat.add_mul_div_left _ _ (Nat.pow_pos hB),Nat.div_eq_of_lt (Nat.mod_lt _ (Nat.pow_pos hB)),Nat.zero_add]
theorem xF:mix B o i X U A/B^(o+i)=U/B^i:=by
 rw[Nat.pow_add,←Nat.div_div_eq_div_mul,xE hB,Nat.add_mul_div_left _ _ (Nat.pow_pos hB),Nat.div_eq_of_lt (Nat.mod_lt _ (Nat.pow_pos hB)),Nat.zero_add]
theorem P3:mix B o i X U A%B^(o+i)=A%B^o+B^o*(X%B^i):=by
 rw[Nat.pow_add,Nat.mod_mul,JS,xE hB,Nat.add_mul_mod_self_left,Nat.mod_mod]
theorem EG{N:Nat}(h:o+i<N):(ep B N (mix B o i X U A)).set (o+i) (X/B^i%B)=ep B N (mix B o (i+1) X U A):=by
 apply uu hB h (Nat.mod_lt _ hB)
 ·rw[P3 hB,Nat.pow_add,Nat.mod_mul,JS,xE hB,Nat.pow_succ B i,Nat.mul_assoc,Nat.add_mul_mod_self_left,Nat.mod_mul,Nat.add_mul_mod_self_left,Nat.mod_mod]
 ·rw[Nat.pow_add,←Nat.div_div_eq_div_mul,xE hB,Nat.pow_succ B i,Nat.mod_mul,Nat.mul_assoc,Nat.add_assoc,←Nat.mul_add,Nat.add_mul_div_left _ _ (Nat.pow_pos hB),Nat.div_eq_of_lt (Nat.mod_lt _ (Nat.pow_pos hB)),Nat.zero_add,Nat.add_mul_mod_self_left,Nat.mod_mod]
 ·have h1:=xF hB o (i+1) X U A
  have h2:=xF hB o i X U A
  rw[show o+i+1=o+(i+1) by omega,h1,show o+(i+1)=(o+i)+1 by omega,Nat.pow_succ B (o+i),←Nat.div_div_eq_div_mul,h2,Nat.pow_succ,←Nat.div_div_eq_div_mul]
end mix
theorem GZ{B o m X U A:Nat}(hU:U<B^m):mix B o m X U A=A%B^o+B^o*(X%B^m):=by rw[mix,Nat.div_eq_of_lt hU];simp
theorem G0{B:Nat}(o X A:Nat):mix B o 0 X (A/B^o) A=A:=by
 simp only[mix,Nat.pow_zero,Nat.mod_one,Nat.zero_add,Nat.one_mul,Nat.div_one]
 exact Nat.mod_add_div A (B^o)
theorem KV{B U U' T i:Nat}(h:U%B^i=U'%B^i):yD B U T i=yD B U' T i:=by rw[yD,yD,h]
theorem NL{B:Nat}(hB:0<B){U T m i:Nat}(hi:i<m)(hT:T≤U+B^m):(U/B^i%B+(B-1-T/B^i%B)+yD B U T i)%B=(U+B^m-T)/B^i%B:=by
 have e:B^m=B^i*(B*B^(m-i-1)):=by rw[←Nat.pow_succ',←Nat.pow_add];congr 1;omega
 have h1:(U+B^m)%B^i=U%B^i:=by rw[e,Nat.add_mul_mod_self_left]
 have h2:(U+B^m)/B^i%B=U/B^i%B:=by rw[e,Nat.add_mul_div_left _ _ (Nat.pow_pos hB),Nat.add_mul_mod_self_left]
 rw[←h2,KV (U':=U+B^m) h1.symm,EB hB hT]
theorem P4{B m U T:Nat}(hB:0<B)(hU:U<B^m)(hT:T<B^m):yD B U T m=if U<T then 0 else 1:=by
 rw[yD,Nat.mod_eq_of_lt hU,Nat.mod_eq_of_lt hT]
 have hp:0<B^m:=Nat.pow_pos hB
 split
 ·exact Nat.div_eq_of_lt (by omega)
 ·rw[show U+B^m-T=(U-T)+B^m by omega,Nat.add_div_right _ hp,Nat.div_eq_of_lt (by omega)]
end
end Go.Fw
namespace Go.Proofs.YtfoldppidpmchaaGreat
section
open Go.Fw
theorem nA{N A j:Nat}(h:j<N):(ep 4294967296 N A)[j]? =some (A/4294967296^j%4294967296):=xB N A j h
theorem two32:(2:Nat)^32=4294967296:=rfl
theorem X6:(2:Nat)^63=9223372036854775808:=rfl
theorem EH(A o j:Nat):A/4294967296^(o+j)=A/4294967296^o/4294967296^j:=by rw[Nat.pow_add,Nat.div_div_eq_div_mul]
theorem G1{N A o n:Nat}{v:List Nat}(hv:EF v)(hn:v.length=n+2)(hN:N≤100000000001)(ho:o+(n+2)<N)
  (hU:A/4294967296^o<4294967296*vl v) (NM:2147483648*4294967296^(n+1)≤vl v):
  ∃r,ij (ep 4294967296 N A) o (n+3) v=some r∧r.2=ep 4294967296 N A∧A/4294967296^o/vl v≤r.1∧r.1≤A/4294967296^o/vl v+1:=by
 obtain⟨hV,hlv⟩:=hv
 obtain⟨U,Ow⟩:∃U,A/4294967296^o=U:=⟨_,Y⟩
 obtain⟨V,Ox⟩:∃V,vl v=V:=⟨_,Y⟩
 have zX:V<4294967296^(n+2):=by rw[←Ox,←hn];exact fC v hV
 have St:0<4294967296^(n+1):=Nat.pow_pos (by decide)
 have hP:0<4294967296^n:=Nat.pow_pos (by decide)
 have US:4294967296^(n+1)=4294967296^n*4294967296:=Nat.pow_succ ..
 have G2:4294967296^(n+2)=4294967296^(n+1)*4294967296:=Nat.pow_succ ..
 rw[Ow,Ox]at hU⊢
 rw[Ox]at NM
 have X7:U<4294967296^(n+1)*4294967296*4294967296:=by
  have:4294967296*V<4294967296*4294967296^(n+2):=Nat.mul_lt_mul_of_pos_left zX (by decide)
  rw[G2]at this
  omega
 obtain⟨F,hF⟩:∃F,V/4294967296^(n+1)=F:=⟨_,Y⟩
 obtain⟨S,hS⟩:∃S,V/4294967296^n%4294967296=S:=⟨_,Y⟩
 obtain⟨T,hT⟩:∃T,U/4294967296^(n+1)=T:=⟨_,Y⟩
 obtain⟨u,hu⟩:∃u,U/4294967296^n%4294967296=u:=⟨_,Y⟩
 have aep:F<4294967296:=by rw[←hF,Nat.div_lt_iff_lt_mul St];rw[G2,Nat.mul_comm]at zX;exact zX
 have ah4:2147483648≤F:=by rw[←hF,Nat.le_div_iff_mul_le St];exact NM
 have ah5:S<4294967296:=by rw[←hS];exact Nat.mod_lt _ (by decide)
 have X8:u<4294967296:=by rw[←hu];exact Nat.mod_lt _ (by decide)
 have aeq:T<4294967296*4294967296:=by rw[←hT,Nat.div_lt_iff_lt_mul St];rw[Nat.mul_comm,←Nat.mul_assoc];exact X7
 have hV2:V/4294967296^n=F*4294967296+S:=by rw[←hF,←hS,US,←Nat.div_div_eq_div_mul,Nat.mul_comm,Nat.div_add_mod]
 have hU2:U/4294967296^n=T*4294967296+u:=by rw[←hT,←hu,US,←Nat.div_div_eq_div_mul,Nat.mul_comm,Nat.div_add_mod]
 have hq:U/V<4294967296:=by rw[Nat.div_lt_iff_lt_mul (by omega)];exact hU
 have X9:(F*4294967296+S)*4294967296^n≤V:=by rw[←hV2];exact Nat.div_mul_le_self _ _
 have Ya:V<(F*4294967296+S+1)*4294967296^n:=by rw[←hV2,Nat.add_mul,Nat.one_mul];exact Nat.lt_div_mul_add hP
 have Yb:(T*4294967296+u)*4294967296^n≤U:=by rw[←hU2];exact Nat.div_mul_le_self _ _
 have Yc:U<(T*4294967296+u+1)*4294967296^n:=by rw[←hU2,Nat.add_mul,Nat.one_mul];exact Nat.lt_div_mul_add hP
 have Su:F*4294967296^(n+1)≤V:=by rw[←hF];exact Nat.div_mul_le_self _ _
 have Sv:U<(T+1)*4294967296^(n+1):=by rw[←hT,Nat.add_mul,Nat.one_mul];exact Nat.lt_div_mul_add St
 have Sw:V<(F+1)*4294967296^(n+1):=by rw[←hF,Nat.add_mul,Nat.one_mul];exact Nat.lt_div_mul_add St
 have hTF:T<4294967296*(F+1):=by
  rw[←hT,Nat.div_lt_iff_lt_mul St]
  have:4294967296*V<4294967296*((F+1)*4294967296^(n+1)):=Nat.mul_lt_mul_of_pos_left Sw (by decide)
  rw[Nat.mul_assoc]
  omega
 have g1:(ep 4294967296 N A)[o+(n+2)]? =some (U/4294967296^(n+2)%4294967296):=by rw[nA (by omega),EH,Ow]
 have g2:(ep 4294967296 N A)[o+(n+1)]? =some (U/4294967296^(n+1)%4294967296):=by rw[nA (by omega),EH,Ow]
 have g3:(ep 4294967296 N A)[o+n]? =some u:=by rw[nA (by omega),EH,Ow,hu]
 have g4:v[n+1]? =some F:=by rw[jZ hV (by omega),show val 4294967296 v=V from Ox,hF,Nat.mod_eq_of_lt aep]
 have g5:v[n]? =some S:=by rw[jZ hV (by omega),show val 4294967296 v=V from Ox,hS]
 have hun:U/4294967296^(n+2)<4294967296:=by rw[G2,←Nat.div_div_eq_div_mul,hT,Nat.div_lt_iff_lt_mul (by decide)];exact aeq
 have IW:U/4294967296^(n+2)%4294967296*4294967296+U/4294967296^(n+1)%4294967296=T:=by
  rw[Nat.mod_eq_of_lt hun,G2,←Nat.div_div_eq_div_mul,hT,Nat.mul_comm,Nat.div_add_mod]
 obtain⟨t1,ht1⟩:∃t,U/4294967296^(n+2)%4294967296=t:=⟨_,Y⟩
 obtain⟨t2,ht2⟩:∃t,U/4294967296^(n+1)%4294967296=t:=⟨_,Y⟩
 have l1:t1<4294967296:=by rw[←ht1];exact Nat.mod_lt _ (by decide)
 have l2:t2<4294967296:=by rw[←ht2];exact Nat.mod_lt _ (by decide)
 rw[ht1]at g1 IW
 rw[ht2]at g2 IW
 clear ht1 ht2 hU2 hV2
 have c1:((n+2:Nat):Int)-1=((n+1:Nat):Int):=by omega
 have c2:((n+2:Nat):Int)-2=(n:Int):=by omega
 unfold ij
 simp only[Option.bind_some,hn,c1,c2]
 rw[gj (by omega),gj (by omega),Af (by omega),Af (by omega),Af (by omega)]
 simp only[Option.bind_some]
 rw[g1,g2,bN g4,bN g5]
 simp only[Option.bind_some,two32]
 rw[Nat.mod_eq_of_lt (a:=t1) (by omega),Nat.mod_eq_of_lt (a:=t2) (by omega),Nat.mod_eq_of_lt (a:=t1*4294967296) (by omega),JR l2,IW,Nat.mod_eq_of_lt (a:=T) (by omega),Nat.mod_eq_of_lt (a:=F) (by omega),Nat.mod_eq_of_lt (a:=S) (by omega),Ey (by omega) (by omega),Ag (by omega)]
 simp only[Option.bind_some]
 have aev:=UP (V:=V) (U:=U) St (show 0<F by omega) Su Sv
 have hle:∀g,g*(F*4294967296+S)≤T*4294967296+u→g≤U/V+1:=λg h=>UR (B:=4294967296) Ya Yb hq (by omega) (by omega) h
 have aew:∀g r,g*F+r=T→r*4294967296+u<g*S→U/V<g:=λg r i1 ht=>(Nat.div_lt_iff_lt_mul (by omega)).2 (P2 X9 Yc i1 ht)
 have hg0:T/F≤4294967297:=by
  have:T/F<4294967298:=by
   rw[Nat.div_lt_iff_lt_mul (by omega)]
   omega
  omega
 generalize U/V=q at*
 clear X9 Ya Yb Yc Su Sv Sw hTF X7 NM zX US G2 hP St hF hS hT hu Ow Ox hU
 have hdm:=Nat.div_add_mod T F
 have hml:=Nat.mod_lt T (show 0<F by omega)
 have aey:T/F*F+T%F=T:=by rw[Nat.mul_comm];exact hdm
 clear hdm
 refine lO (λx=>x.1*F+x.2=T∧q≤x.1∧x.2<4294967296∧x.1≤4294967297) (λe=>q≤e∧e≤q+1) (λx=>x.1) ?_ ⟨aey,aev,by show T%F<_;omega,hg0⟩ ?_
 ·rintro⟨g,r⟩ ⟨i1,i2,i3,i4⟩
  simp only at i1 i2 i3 i4
  have down:q<g→(∃s',(bif decide ((r+F)%18446744073709551616/4294967296≠0)then some (.inr (oC 18446744073709551616 g 1))else some (.inl (oC 18446744073709551616 g 1,(r+F)%18446744073709551616)):Option ((Nat×Nat)⊕Nat))=some (.inl s')∧(s'.1*F+s'.2=T∧q≤s'.1∧s'.2<4294967296∧s'.1≤4294967297)∧s'.1<g)∨
    (∃e,(bif decide ((r+F)%18446744073709551616/4294967296≠0)then some (.inr (oC 18446744073709551616 g 1))else some (.inl (oC 18446744073709551616 g 1,(r+F)%18446744073709551616)):Option ((Nat×Nat)⊕Nat))=some (.inr e)∧q≤e∧e≤q+1):=by
   intro hlt
   have e1:(g-1)*F+(r+F)=T:=by
    obtain⟨k,rfl⟩:∃k,g=k+1:=⟨g-1,by omega⟩
    rw[Nat.add_sub_cancel];rw[Nat.add_mul]at i1;omega
   rw[rF (by omega) (by omega),Nat.mod_eq_of_lt (a:=r+F) (by omega)]
   by_cases hb:r+F<4294967296
   ·left
    refine⟨(g-1,r+F),by simp[Nat.div_eq_of_lt hb],⟨e1,by simp only;omega,hb,by simp only;omega⟩,by simp only;omega⟩
   ·right
    have hne:(r+F)/4294967296≠0:=by omega
    refine⟨g-1,by simp[hne],by omega,?_⟩
    refine hle _ ?_
    have m1:(g-1)*S≤4294967296*4294967295:=Nat.mul_le_mul (by omega) (by omega)
    rw[Nat.mul_add,←Nat.mul_assoc]
    have m2:((g-1)*F+(r+F))*4294967296=T*4294967296:=by rw[e1]
    rw[Nat.add_mul]at m2
    omega
  simp only[cm,bH]
  by_cases hg:g<4294967296
  ·rw[show decide (g/4294967296≠0)=false by simp;omega]
   have hgS:g*S≤4294967295*4294967295:=Nat.mul_le_mul (by omega) (by omega)
   simp only[fM]
   rw[g3]
   simp only[bH]
   rw[Nat.mod_eq_of_lt (a:=g*S) (by omega),Nat.mod_eq_of_lt (a:=r*4294967296) (by omega),Nat.mod_eq_of_lt (a:=u) (by omega),JR X8,Nat.mod_eq_of_lt (a:=r*4294967296+u) (by omega)]
   by_cases ht:r*4294967296+u<g*S
   ·rw[show decide (r*4294967296+u<g*S)=true by simpa using ht]
    simp only[bH,eY]
    exact down (aew _ _ i1 ht)
   ·rw[show decide (r*4294967296+u<g*S)=false by simpa using ht]
    right
    refine⟨g,by simp,i2,?_⟩
    refine hle _ ?_
    rw[Nat.mul_add,←Nat.mul_assoc,←i1,Nat.add_mul]
    omega
  ·rw[show decide (g/4294967296≠0)=true by simp;omega]
   simp only[bH,eY]
   exact down (by omega)
 ·rintro e ⟨h2,h3⟩
  exact⟨(e,ep 4294967296 N A),by rw[qF Y,Option.bind_some],Y,h2,h3⟩
end
section
open Go.Fw
theorem uN{N A o n f:Nat}{v:List Nat}(hv:EF v)(hn:v.length=n)(hN:N≤100000000001)(ho:o+n<N)(hf:f≤4294967296)
  (hU:A/4294967296^o<4294967296^(n+1)):
  cY (ep 4294967296 N A) o (n+1) v f=some (decide (A/4294967296^o<vl v*f),ep 4294967296 N (A%4294967296^o+4294967296^o*((A/4294967296^o+4294967296^(n+1)-vl v*f)%4294967296^(n+1)))):=by
 obtain⟨hV,hlv⟩:=hv
 obtain⟨U,Ow⟩:∃U,A/4294967296^o=U:=⟨_,Y⟩
 obtain⟨V,Ox⟩:∃V,vl v=V:=⟨_,Y⟩
 have zX:V<4294967296^n:=by rw[←Ox,←hn];exact fC v hV
 have LF:4294967296^(n+1)=4294967296^n*4294967296:=Nat.pow_succ ..
 have hT:V*f<4294967296^(n+1):=by
  rw[LF]
  calc V*f≤V*4294967296:=Nat.mul_le_mul_left _ hf
   _<4294967296^n*4294967296:=Nat.mul_lt_mul_of_pos_right zX (by decide)
 rw[Ow]at hU⊢
 rw[Ox]
 obtain⟨X,hX⟩:∃X,U+4294967296^(n+1)-V*f=X:=⟨_,Y⟩
 rw[hX]
 unfold cY
 simp only[bH]
 have UT:∀i,yD 4294967296 U (V*f) i≤1:=λi=>IQ (by decide) _ _ _
 refine bJ (λi=>(1-yD 4294967296 U (V*f) i,(i:Int),sC 4294967296 V f 0 i,ep 4294967296 N (mix 4294967296 o i X U A))) (n+1) (1-yD 4294967296 U (V*f) (n+1),ep 4294967296 N (mix 4294967296 o (n+1) X U A)) ?_ (λi hi=>?_) ?_ ?_
 ·rw[BJ,ED,←Ow,G0];rfl
 ·
  obtain⟨t,ht⟩:∃t,V*f/4294967296^i%4294967296=t:=⟨_,Y⟩
  obtain⟨c,hc⟩:∃c,sC 4294967296 V f 0 i=c:=⟨_,Y⟩
  obtain⟨p,hp⟩:∃p,V/4294967296^i%4294967296*f=p:=⟨_,Y⟩
  have ah7:c<4294967296:=by
   rw[←hc,sC,sT,Nat.add_zero,Nat.div_lt_iff_lt_mul (Nat.pow_pos (by decide))]
   calc V%4294967296^i*f≤V%4294967296^i*4294967296:=Nat.mul_le_mul_left _ hf
    _<4294967296*4294967296^i:=by rw[Nat.mul_comm];exact Nat.mul_lt_mul_of_pos_left (Nat.mod_lt _ (Nat.pow_pos (by decide))) (by decide)
  have ah8:p≤4294967295*4294967296:=by
   rw[←hp];exact Nat.mul_le_mul (by have:=Nat.mod_lt (V/4294967296^i) (show 0<4294967296 by decide);omega) hf
  have IT:(p+c)%4294967296=t:=by rw[←hp,←hc,IU (B:=4294967296) (by decide),Nat.add_zero,ht]
  have hstep:(p+c)/4294967296=sC 4294967296 V f 0 (i+1):=by rw[←hp,←hc,EE (B:=4294967296) (by decide)]
  have ah9:t<4294967296:=by rw[←ht];exact Nat.mod_lt _ (by decide)
  obtain⟨u,hu⟩:∃u,U/4294967296^i%4294967296=u:=⟨_,Y⟩
  have X8:u<4294967296:=by rw[←hu];exact Nat.mod_lt _ (by decide)
  have hg:(ep 4294967296 N (mix 4294967296 o i X U A))[o+i]? =some u:=by rw[nA (by omega),xF (by decide),hu]
  have hl:=UT i
  obtain⟨l,hle⟩:∃l,yD 4294967296 U (V*f) i=l:=⟨_,Y⟩
  have hxd:(u+(4294967296-1-t)+l)%4294967296=X/4294967296^i%4294967296:=by rw[←hu,←ht,←hle,NL (B:=4294967296) (by decide) hi (by omega),hX]
  have hls:(u+(4294967296-1-t)+l)/4294967296=yD 4294967296 U (V*f) (i+1):=by rw[←hu,←ht,←hle,BK (B:=4294967296) (by decide)]
  rw[hle]at hl
  have hput:=EG (B:=4294967296) (by decide) o i X U A (N:=N) (by omega)
  rw[hle,hc,←hls]
  simp only[show decide ((i:Int)<((n+1:Nat):Int))=true by simp;omega,eY,bH,cm]
  rw[Af (by omega)]
  simp only[bH,hg]
  have way:∀k:Nat→Option ((Nat×Int×Nat×List Nat)⊕(Nat×List Nat)),(bif decide ((i:Int)<(v.length:Int))then(cQ v (i:Int)).bind λgV=>k (gV%18446744073709551616*f%18446744073709551616)else k 0)=k p:=by
   intro k
   by_cases hin:i<v.length
   ·rw[show decide ((i:Int)<(v.length:Int))=true by simp;omega,eY]
    have Dp:v[i]? =some (V/4294967296^i%4294967296):=by rw[←Ox];exact jZ hV hin
    rw[bN Dp,bH,Nat.mod_eq_of_lt (a:=V/4294967296^i%4294967296) (b:=18446744073709551616) (by have:=Nat.mod_lt (V/4294967296^i) (show 0<4294967296 by decide);omega),hp,Nat.mod_eq_of_lt (a:=p) (by omega)]
   ·rw[show decide ((i:Int)<(v.length:Int))=false by simp;omega,fM]
    have:V/4294967296^i=0:=Nat.div_eq_of_lt (Nat.lt_of_lt_of_le zX (Nat.pow_le_pow_right (by decide) (by omega)))
    rw[←hp,this];simp
  refine(way (λy=>(bV y c).bind _)).trans ?_
  rw[gS _ _ (by omega)]
  simp only[bH]
  rw[IT,hstep,Nat.mod_eq_of_lt (a:=u) (by omega),Nat.mod_eq_of_lt (a:=t) (by omega)]
  rw[jD (by rw[bG];omega),bH,b8 (by omega),X6]
  by_cases SP:u<t+(1-l)
  ·have e1:oC 18446744073709551616 (oC 18446744073709551616 u t) (1-l)=18446744073709551616+u-t-(1-l):=by
    by_cases h1:u<t
    ·rw[xA h1 (by omega),rF (by omega) (by omega)]
    ·rw[rF (a:=u) (b:=t) (by omega) (by omega),xA (by omega) (by omega)];omega
   rw[e1]
   have e2:(18446744073709551616+u-t-(1-l))%4294967296=X/4294967296^i%4294967296:=by rw[←hxd];omega
   have e3:(18446744073709551616+u-t-(1-l))/9223372036854775808=1-(u+(4294967296-1-t)+l)/4294967296:=by omega
   rw[e2,e3,hput]
  ·have e1:oC 18446744073709551616 (oC 18446744073709551616 u t) (1-l)=u-t-(1-l):=by
    rw[rF (a:=u) (b:=t) (by omega) (by omega),rF (by omega) (by omega)]
   rw[e1]
   have e2:(u-t-(1-l))%4294967296=X/4294967296^i%4294967296:=by rw[←hxd];omega
   have e3:(u-t-(1-l))/9223372036854775808=1-(u+(4294967296-1-t)+l)/4294967296:=by omega
   rw[e2,e3,hput]
 ·simp
 ·simp only[bH]
  rw[qF (by rw[bG,bG]),bH,GZ hU,P4 (by decide) hU hT]
  congr 2
  by_cases h:U<V*f<;>simp[h]
end
section
open Go.Fw
theorem Yd{B V:Nat}(hB:0<B)(hV:0<V)(A k:Nat):A%(V*B^(k+1))/B^k<B*V:=by
 rw[Nat.div_lt_iff_lt_mul (Nat.pow_pos hB)]
 have:V*B^(k+1)=B*V*B^k:=by rw[Nat.pow_succ,Nat.mul_comm (B^k),←Nat.mul_assoc,Nat.mul_comm V]
 rw[←this]
 exact Nat.mod_lt _ (Nat.mul_pos hV (Nat.pow_pos hB))
theorem UU{B V:Nat}(A k:Nat):A%(V*B^(k+1))%B^k+B^k*(A%(V*B^(k+1))/B^k%V)=A%(V*B^k):=by
 rw[←Nat.mod_mul,Nat.mul_comm (B^k),Nat.mod_mod_of_dvd]
 rw[Nat.pow_succ,←Nat.mul_assoc];exact Nat.dvd_mul_right _ _
theorem UW{B V:Nat}(A k:Nat):A%(V*B^(k+1))/B^k/V=A/V/B^k%B:=by
 rw[Nat.div_div_eq_div_mul,Nat.mul_comm (B^k),Nat.pow_succ,←Nat.mul_assoc,Nat.mod_mul_right_div_self,Nat.div_div_eq_div_mul]
theorem EI{B:Nat}(hB:0<B){N k:Nat}(h:k<N)(Q:Nat):(ep B N (Q/B^(k+1)*B^(k+1))).set k (Q/B^k%B)=ep B N (Q/B^k*B^k):=by
 have hP:0<B^k:=Nat.pow_pos hB
 refine uu hB h (Nat.mod_lt _ hB) ?_ ?_ ?_
 ·rw[Nat.mul_mod_left,Nat.pow_succ,Nat.mul_comm (B^k),←Nat.mul_assoc,Nat.mul_mod_left]
 ·rw[Nat.mul_div_cancel _ hP]
 ·rw[Nat.mul_div_cancel _ (Nat.pow_pos hB),Nat.pow_succ,←Nat.div_div_eq_div_mul,Nat.mul_div_cancel _ hP,Nat.div_div_eq_div_mul]
theorem JU{α:Type}{l:List α}{o n:Nat}(h:o<l.length)(h':o+n≤l.length):S5 l (o:Int) ((o+n:Nat):Int)=some (o,n):=by
 unfold S5
 rw[if_pos (by omega)]
 congr 2
 omega
theorem P5{U V g M:Nat}(hV:0<V)(h1:U/V≤g)(h2:g≤U/V+1)(hM:U<M)(hVM:V≤M):
  (V*g≤U∧g=U/V∧(U+M-V*g)%M=U%V)∨(U<V*g∧g=U/V+1∧U+M-V*g<M∧(U+M-V*g+V)%M=U%V):=by
 have hd:=Nat.div_add_mod U V
 have hm:=Nat.mod_lt U hV
 revert h1 h2 hd hm
 generalize U/V=q
 generalize U%V=r
 intro h1 h2 hd hm
 rcases Nat.lt_or_ge q g with h|h
 ·obtain rfl:g=q+1:=by omega
  have e:V*(q+1)=V*q+V:=Nat.mul_succ ..
  right
  refine⟨by omega,Y,by omega,?_⟩
  rw[show U+M-V*(q+1)+V=r+M by omega,Nat.add_mod_right,Nat.mod_eq_of_lt (by omega)]
 ·obtain rfl:g=q:=by omega
  left
  refine⟨by omega,Y,?_⟩
  rw[show U+M-V*g=r+M by omega,Nat.add_mod_right,Nat.mod_eq_of_lt (by omega)]
theorem P6{R D e i:Nat}(hD:0<D)(he:4294967296=D*e):(R*D/4294967296^(i+1)%4294967296*4294967296+R*D/4294967296^i%4294967296)/D%4294967296=R/4294967296^i%4294967296:=by
 have h1:R*D/4294967296^(i+1)%4294967296*4294967296+R*D/4294967296^i%4294967296=R*D/4294967296^i%(4294967296*4294967296):=by
  rw[Nat.mod_mul,Nat.div_div_eq_div_mul,show 4294967296^i*4294967296=4294967296^(i+1)from(Nat.pow_succ ..).symm,Nat.add_comm,Nat.mul_comm 4294967296]
 have h2:(4294967296*4294967296:Nat)=D*(e*4294967296):=by
  rw[←Nat.mul_assoc,←he]
 rw[h1,h2,Nat.mod_mul_right_div_self,Nat.mod_mul_left_mod,Nat.div_div_eq_div_mul,Nat.mul_comm (4294967296^i) D,←Nat.div_div_eq_div_mul,Nat.mul_div_cancel _ hD]
theorem UX{B:Nat}(hB:0<B){N i R:Nat}(h:i<N):(ep B N (R%B^i)).set i (R/B^i%B)=ep B N (R%B^(i+1)):=by
 refine uu hB h (Nat.mod_lt _ hB) ?_ ?_ ?_
 ·rw[Nat.mod_mod,Nat.mod_mod_of_dvd _ (Nat.pow_dvd_pow _ (Nat.le_succ i))]
 ·rw[Nat.pow_succ,Nat.mod_mul_right_div_self,Nat.mod_mod]
 ·rw[Nat.div_eq_of_lt (Nat.mod_lt _ (Nat.pow_pos hB)),Nat.div_eq_of_lt]
  exact Nat.lt_of_lt_of_le (Nat.mod_lt _ (Nat.pow_pos hB)) (Nat.pow_le_pow_right hB (Nat.le_succ i))
theorem IX(a b:List Nat)(ha:EF a)(hb:EF b){n:Nat}(hn:b.length=n+2)(hl:b.length≤a.length)(IW:b[n+1]? ≠some 0):
  iM a b=some (ep 4294967296 (a.length-b.length+1) (vl a/vl b),ep 4294967296 b.length (vl a%vl b)):=by
 obtain⟨hA,hla⟩:=ha
 obtain⟨hB,hlb⟩:=hb
 have hP:∀k,0<4294967296^k:=λk=>Nat.pow_pos (by decide)
 obtain⟨Va,hVa⟩:∃V,vl a=V:=⟨_,Y⟩
 obtain⟨Vb,hVb⟩:∃V,vl b=V:=⟨_,Y⟩
 have UY:Vb<4294967296^(n+2):=by rw[←hVb,←hn];exact fC b hB
 have halt:Va<4294967296^a.length:=by rw[←hVa];exact fC a hA
 have G2:4294967296^(n+2)=4294967296^(n+1)*4294967296:=Nat.pow_succ ..
 obtain⟨x,hx⟩:∃x,Vb/4294967296^(n+1)=x:=⟨_,Y⟩
 have Ye:x<4294967296:=by rw[←hx,Nat.div_lt_iff_lt_mul (hP _)];rw[G2,Nat.mul_comm]at UY;exact UY
 have YZ:b[n+1]? =some x:=by rw[jZ hB (by omega),show val 4294967296 b=Vb from hVb,hx,Nat.mod_eq_of_lt Ye]
 have hx0:x≠0:=λe=>IW (by rw[YZ,e])
 obtain⟨s,Le,zC,YL,hs4⟩:=X4 x Ye hx0
 have TV:0<2^s:=Nat.two_pow_pos s
 have Yf:2^s<4294967296:=by
  have:2^s<2^32:=Nat.pow_lt_pow_right (by decide) zC
  rw[two32]at this;exact this
 obtain⟨D,hD⟩:∃D,2^s=D:=⟨_,Y⟩
 rw[hD]at YL hs4 TV Yf
 obtain⟨V,hV⟩:∃V,Vb*D=V:=⟨_,Y⟩
 obtain⟨A,Y1⟩:∃A,Va*D=A:=⟨_,Y⟩
 have zX:V<4294967296^(n+2):=by
  have h1:Vb<(x+1)*4294967296^(n+1):=by rw[←hx,Nat.add_mul,Nat.one_mul];exact Nat.lt_div_mul_add (hP _)
  have h2:(x+1)*D≤4294967296:=by
   obtain⟨e,he⟩:∃e,4294967296=D*e:=⟨2^(32-s),by rw[←hD,←Nat.pow_add,show s+(32-s)=32 by omega,two32]⟩
   have h3:x<e:=by
    apply Nat.lt_of_mul_lt_mul_left (a:=D)
    rw[←he,Nat.mul_comm];exact hs4
   calc (x+1)*D≤e*D:=Nat.mul_le_mul_right _ h3
    _=4294967296:=by rw[Nat.mul_comm,←he]
  rw[←hV,G2]
  calc Vb*D<(x+1)*4294967296^(n+1)*D:=Nat.mul_lt_mul_of_pos_right h1 TV
   _=4294967296^(n+1)*((x+1)*D):=by rw[Nat.mul_comm (x+1),Nat.mul_assoc]
   _≤4294967296^(n+1)*4294967296:=Nat.mul_le_mul_left _ h2
 have NN:2147483648*4294967296^(n+1)≤V:=by
  have h1:x*4294967296^(n+1)≤Vb:=by rw[←hx];exact Nat.div_mul_le_self _ _
  rw[←hV]
  calc 2147483648*4294967296^(n+1)≤x*D*4294967296^(n+1):=Nat.mul_le_mul_right _ YL
   _=x*4294967296^(n+1)*D:=by rw[Nat.mul_assoc,Nat.mul_comm D,←Nat.mul_assoc]
   _≤Vb*D:=Nat.mul_le_mul_right _ h1
 have UQ:0<V:=Nat.lt_of_lt_of_le (Nat.mul_pos (by decide) (hP _)) NN
 have hb0:0<Vb:=by
  rcases Nat.eq_zero_or_pos Vb with h|h
  ·rw[←hV,h,Nat.zero_mul]at UQ;omega
  ·exact h
 have hAV:A/V=Va/Vb:=by rw[←Y1,←hV,Nat.mul_div_mul_right _ _ TV]
 have aeA:A%V=Va%Vb*D:=by rw[←Y1,←hV,Nat.mul_mod_mul_right]
 obtain⟨K,hK⟩:∃K,a.length=K+(n+2):=⟨a.length-(n+2),by omega⟩
 have Yg:A<V*4294967296^(K+1):=by
  have h1:4294967296^(n+1)≤Vb:=by
   have:1*4294967296^(n+1)≤x*4294967296^(n+1):=Nat.mul_le_mul_right _ (by omega)
   have h2:x*4294967296^(n+1)≤Vb:=by rw[←hx];exact Nat.div_mul_le_self _ _
   omega
  rw[←Y1,←hV]
  calc Va*D<4294967296^a.length*D:=Nat.mul_lt_mul_of_pos_right halt TV
   _=4294967296^(n+1)*4294967296^(K+1)*D:=by rw[hK,←Nat.pow_add];congr 2;omega
   _≤Vb*4294967296^(K+1)*D:=Nat.mul_le_mul_right _ (Nat.mul_le_mul_right _ h1)
   _=Vb*D*4294967296^(K+1):=by rw[Nat.mul_assoc,Nat.mul_comm _ D,←Nat.mul_assoc]
 obtain⟨v,Y2⟩:∃v,ep 4294967296 (n+2) V=v:=⟨_,Y⟩
 have hvl:v.length=n+2:=by rw[←Y2,bG]
 have hvW:EF v:=⟨λy hy=>by rw[←Y2]at hy;exact nL (by decide) _ _ _ hy,by omega⟩
 have Yh:vl v=V:=by rw[←Y2];show val _ _=_;rw[lP,Nat.mod_eq_of_lt zX]
 have Yi:List.take b.length (ep 4294967296 (b.length+1) (Vb*2^s))=v:=by
  rw[hD,hV,hn,iq,List.take_append_of_le_length (by rw[bG];omega),List.take_of_length_le (by rw[bG];omega),Y2]
 unfold iM
 simp only[bH]
 rw[show((b.length:Nat):Int)-1=((n+1:Nat):Int) by omega,gj (by omega),bN YZ,bH,Le,bH]
 rw[show((s:Int)%18446744073709551616).toNat=s by rw[Int.emod_eq_of_lt (by omega) (by omega)];simp]
 rw[CG,shiftLeft_eq a s ⟨hA,hla⟩ zC,bH,shiftLeft_eq b s ⟨hB,hlb⟩ zC,bH,om (by rw[bG];omega),bH]
 obtain⟨Q,hQ⟩:∃Q,A/V=Q:=⟨_,Y⟩
 have aeC:Q<4294967296^(K+1):=by rw[←hQ,Nat.div_lt_iff_lt_mul UQ,Nat.mul_comm];exact Yg
 rw[hVa,hVb,←hAV,hQ,Yi,hD,Y1,hn]
 rw[show a.length-(n+2)+1=K+1 by omega]
 rw[cC (x:=(a.length:Int)-((n+2:Nat):Int)) (by omega) (by omega),cC (x:=(a.length:Int)-((n+2:Nat):Int)+1) (by omega) (by omega),show(a.length:Int)-((n+2:Nat):Int)+1=((K+1:Nat):Int) by omega,tN (by decide) (by omega),bH,show(a.length:Int)-((n+2:Nat):Int)=(K:Int) by omega]
 refine bJ (λj=>((K:Int)-(j:Int),ep 4294967296 (K+1) (Q/4294967296^(K+1-j)*4294967296^(K+1-j)),ep 4294967296 (a.length+1) (A%(V*4294967296^(K+1-j))))) (K+1) (ep 4294967296 (K+1) Q,ep 4294967296 (a.length+1) (A%V)) ?_ (λj hj=>?_) ?_ ?_
 ·rw[show K+1-0=K+1 by omega,Nat.mod_eq_of_lt Yg,Nat.div_eq_of_lt aeC,Nat.zero_mul,qG];simp
 ·
  obtain⟨k,hk⟩:∃k,K=k+j:=⟨K-j,by omega⟩
  rw[show K+1-j=k+1 by omega,show K+1-(j+1)=k by omega,show(K:Int)-(j:Int)=(k:Int) by omega,show(K:Int)-((j+1:Nat):Int)=(k:Int)-1 by omega]
  have hU:=Yd (B:=4294967296) (by decide) UQ A k
  have G3:=UU (B:=4294967296) (V:=V) A k
  have UZ:=UW (B:=4294967296) (V:=V) A k
  obtain⟨N,hN⟩:∃N,a.length+1=N:=⟨_,Y⟩
  obtain⟨A1,hA1⟩:∃A1,A%(V*4294967296^(k+1))=A1:=⟨_,Y⟩
  rw[hN]
  rw[hA1]at hU G3 UZ⊢
  rw[hQ]at UZ
  obtain⟨⟨g,lg⟩,hge,hgl,Y3,Y4⟩:=G1 (N:=N) (A:=A1) (o:=k) (n:=n) (v:=v) hvW hvl (by omega) (by omega) (by rw[Yh];exact hU) (by rw[Yh];exact NN)
  simp only at hgl Y3 Y4
  rw[Yh]at Y3 Y4
  subst hgl
  have hsub:=uN (N:=N) (A:=A1) (o:=k) (n:=n+2) (v:=v) (f:=g) hvW hvl (by omega) (by omega) ?_ ?_
  ·rw[Yh]at hsub
   obtain⟨U,Ow⟩:∃U,A1/4294967296^k=U:=⟨_,Y⟩
   rw[Ow]at hU G3 UZ Y3 Y4 hsub
   have P7:4294967296^(n+2+1)=4294967296^(n+2)*4294967296:=Nat.pow_succ ..
   have hUM:U<4294967296^(n+2+1):=by
    have:4294967296*V<4294967296*4294967296^(n+2):=Nat.mul_lt_mul_of_pos_left zX (by decide)
    rw[P7];omega
   have NO:=P5 (M:=4294967296^(n+2+1)) UQ Y3 Y4 hUM (by rw[P7];omega)
   have hql:U/V<4294967296:=by rw[UZ];exact Nat.mod_lt _ (by decide)
   rw[show decide ((0:Int)≤(k:Int))=true by simp,eY]
   rw[lN (by omega),b8 (by omega),show k+(n+2)+1=k+(n+3) by omega,JU (by rw[bG];omega) (by rw[bG];omega),bH,hge,bH,qF Y,bH,JU (by rw[bG];omega) (by rw[bG];omega),bH]
   show(Option.bind (cY _ k (n+2+1) v g) _)=_
   rw[hsub,bH,qF (by rw[bG,bG]),bH]
   simp only[cm]
   rcases NO with⟨hc1,Ff,Yj⟩|⟨hc1,Ff,Yj,hc4⟩
   ·rw[show decide (U<V*g)=false by simp;omega,fM,Yj,G3,Ff,Nat.mod_eq_of_lt hql,UZ,gk (by rw[bG];omega),bH,jD (by rw[bG];omega),bH,EI (by decide) (by omega),cC (by omega) (by omega)]
   ·rw[show decide (U<V*g)=true by simp;omega,eY,rF (by omega) (by omega),show g-1=U/V by omega,Nat.mod_eq_of_lt hql,UZ]
    rw[Nat.mod_eq_of_lt Yj]
    obtain⟨aa,hY⟩:∃aa,U+4294967296^(n+2+1)-V*g=aa:=⟨_,Y⟩
    rw[hY]at Yj hc4⊢
    obtain⟨A2,hA2⟩:∃A2,A1%4294967296^k+4294967296^k*aa=A2:=⟨_,Y⟩
    rw[hA2]
    have hw2:A2/4294967296^k=aa:=by rw[←hA2,Nat.add_mul_div_left _ _ (hP k),Nat.div_eq_of_lt (Nat.mod_lt _ (hP k)),Nat.zero_add]
    have Zd:A2%4294967296^k=A1%4294967296^k:=by rw[←hA2,Nat.add_mul_mod_self_left,Nat.mod_mod]
    have hcr:∀i,Ai 4294967296 aa V i≤1:=λi=>BG (by decide) _ _ _
    refine bJ (λi=>((i:Int),Ai 4294967296 aa V i,ep 4294967296 N (mix 4294967296 k i (aa+V) aa A2))) (n+2) (Ai 4294967296 aa V (n+2),ep 4294967296 N (mix 4294967296 k (n+2) (aa+V) aa A2)) ?_ (λi hi=>?_) ?_ ?_
    ·rw[BI,←hw2,G0];rfl
    ·have Dp:v[i]? =some (V/4294967296^i%4294967296):=by rw[←Yh];exact jZ hvW.1 (by omega)
     have hgu:(ep 4294967296 N (mix 4294967296 k i (aa+V) aa A2))[k+i]? =some (aa/4294967296^i%4294967296):=by rw[nA (by omega),xF (by decide)]
     have Le:=BH (B:=4294967296) (by decide) aa V i
     have zC:=Aj (B:=4294967296) (by decide) aa V i
     have hput:=EG (B:=4294967296) (by decide) k i (aa+V) aa A2 (N:=N) (by omega)
     have hci:=hcr i
     have hv1:=Nat.mod_lt (V/4294967296^i) (show 0<4294967296 by decide)
     have VP:=Nat.mod_lt (aa/4294967296^i) (show 0<4294967296 by decide)
     simp only[show decide ((i:Int)<(v.length:Int))=true by simp;omega,eY]
     rw[bN Dp,bH,lN (by omega),gk (by rw[bG];omega),bH,hgu,bH,Nat.mod_eq_of_lt (a:=aa/4294967296^i%4294967296) (b:=18446744073709551616) (by omega),Nat.mod_eq_of_lt (a:=V/4294967296^i%4294967296) (b:=18446744073709551616) (by omega),Nat.mod_eq_of_lt (b:=18446744073709551616) (by omega),gS _ _ (by omega),bH,bH,jD (by rw[bG];omega),bH,b8 (by omega)]
     rw[Le,zC,hput]
    ·simp[hvl]
    ·have hgu:(ep 4294967296 N (mix 4294967296 k (n+2) (aa+V) aa A2))[k+(n+2)]? =some (aa/4294967296^(n+2)%4294967296):=by rw[nA (by omega),xF (by decide)]
     have zC:=Aj (B:=4294967296) (by decide) aa V (n+2)
     have hput:=EG (B:=4294967296) (by decide) k (n+2) (aa+V) aa A2 (N:=N) (by omega)
     have hci:=hcr (n+2)
     have VP:=Nat.mod_lt (aa/4294967296^(n+2)) (show 0<4294967296 by decide)
     rw[Nat.div_eq_of_lt zX,Nat.zero_mod,Nat.add_zero]at zC
     simp only[]
     rw[gk (by rw[bG];omega),bH,hgu,bH,Nat.mod_eq_of_lt (a:=aa/4294967296^(n+2)%4294967296) (b:=18446744073709551616) (by omega),gS _ _ (by omega),bH,bH,jD (by rw[bG];omega),bH,zC,hput,GZ Yj,Zd,hc4,G3,gk (by rw[bG];omega),bH,jD (by rw[bG];omega),bH,EI (by decide) (by omega),cC (by omega) (by omega)]
  ·
   have hql:A1/4294967296^k/V<4294967296:=by rw[UZ];exact Nat.mod_lt _ (by decide)
   omega
  ·have P7:4294967296^(n+2+1)=4294967296^(n+2)*4294967296:=Nat.pow_succ ..
   have:4294967296*V<4294967296*4294967296^(n+2):=Nat.mul_lt_mul_of_pos_left zX (by decide)
   rw[P7];omega
 ·rw[show K+1-(K+1)=0 by omega,Nat.pow_zero,Nat.mul_one,Nat.mul_one,Nat.div_one,show decide (0≤(K:Int)-((K+1:Nat):Int))=false by simp;omega,fM]
 ·
  obtain⟨R,hR⟩:∃R,Va%Vb=R:=⟨_,Y⟩
  rw[aeA,hR]
  have aeH:R<4294967296^(n+2):=by rw[←hR];exact Nat.lt_trans (Nat.mod_lt _ hb0) UY
  rw[tN (by decide) (by omega),bH]
  refine bJ (λi=>((i:Int),ep 4294967296 (n+2) (R%4294967296^i))) (n+2) (ep 4294967296 (n+2) R) ?_ (λi hi=>?_) ?_ Y
  ·rw[Nat.pow_zero,Nat.mod_one,qG];rfl
  ·obtain⟨e,he⟩:∃e,4294967296=D*e:=⟨2^(32-s),by rw[←hD,←Nat.pow_add,show s+(32-s)=32 by omega,two32]⟩
   have NP:=P6 (R:=R) (i:=i) TV he
   obtain⟨u,hu⟩:∃u,R*D/4294967296^i%4294967296=u:=⟨_,Y⟩
   obtain⟨w,hw⟩:∃w,R*D/4294967296^(i+1)%4294967296=w:=⟨_,Y⟩
   have Zi:u<4294967296:=by rw[←hu];exact Nat.mod_lt _ (by decide)
   have hw1:w<4294967296:=by rw[←hw];exact Nat.mod_lt _ (by decide)
   rw[hu,hw]at NP
   simp only[show decide ((i:Int)<((n+2:Nat):Int))=true by simp;omega,eY]
   rw[gk (by rw[bG];omega),bH,nA (by omega),bH,hu,b8 (by omega),gk (by rw[bG];omega),bH,nA (by omega),bH,hw,Nat.mod_eq_of_lt (a:=u) (by omega),Nat.mod_eq_of_lt (a:=w) (by omega),two32,Nat.mod_eq_of_lt (a:=w*4294967296) (by omega),Nat.or_comm,JR Zi,Nat.mod_eq_of_lt (a:=w*4294967296+u) (by omega),show min s 64=s by omega,hD,NP,gk (by rw[bG];omega),bH,jD (by rw[bG];omega),bH]
   rw[UX (by decide) hi]
  ·rw[Nat.mod_eq_of_lt aeH];simp
end
section
open Go.Fw
def sv(n:Bool)(v:Nat):Int:=bif n then-(v:Int)else v
def zi(z:Zr):Int:=sv z.neg (vl z.w)
def zn(i:Int):Zr:=⟨decide (i<0),can 4294967296 i.natAbs⟩
def Wl(z:Zr):Prop:=(∀x∈z.w,x<4294967296)∧z.w.length≤10000000000
def Fit(L:Nat)(i:Int):Prop:=i.natAbs<4294967296^L
theorem NQ(n:Bool)(v:Nat):(sv n v).natAbs=v:=by cases n<;>simp[sv]
theorem tQ(z:Zr):(zi z).natAbs=vl z.w:=NQ _ _
theorem U0(n:Bool)(v:Nat):decide (sv n v<0)=(n&&v != 0):=by
 cases n
 ·have:¬((v:Int)<0):=by omega
  simp[sv,this]
 ·rcases v with _|v
  ·simp[sv]
  ·simp[sv]
theorem oU(n:Bool)(v:Nat):zc n v=zn (sv n v):=by rw[zc,zn,U0,NQ]
theorem P8(i:Int):sv (decide (i<0)) i.natAbs=i:=by
 by_cases h:i<0
 ·rw[show decide (i<0)=true by simp[h]];simp[sv];omega
 ·rw[show decide (i<0)=false by simp[h]];simp[sv];omega
theorem eG(i:Int):zi (zn i)=i:=by
 show sv (decide (i<0)) (vl (can 4294967296 i.natAbs))=i
 rw[show vl (can 4294967296 i.natAbs)=i.natAbs from jN (by decide) _,P8]
theorem BL(n:Bool)(v:Nat):sv (!n) v=-sv n v:=by cases n<;>simp[sv]
theorem jG(v:Nat):sv false v=v:=rfl
theorem Fit.mono{L M:Nat}{i:Int}(h:Fit L i)(hl:L≤M):Fit M i:=Nat.lt_of_lt_of_le h (Nat.pow_le_pow_right (by decide) hl)
theorem Fit.neg{L:Nat}{i:Int}(h:Fit L i):Fit L (-i):=by unfold Fit at*;rw[Int.natAbs_neg];exact h
theorem Fit.add{L:Nat}{i j:Int}(h:Fit L i)(h':Fit L j):Fit (L+1) (i+j):=by
 unfold Fit at*
 have:=Int.natAbs_add_le i j
 rw[Nat.pow_succ];omega
theorem Fit.sub{L:Nat}{i j:Int}(h:Fit L i)(h':Fit L j):Fit (L+1) (i-j):=by
 rw[Int.sub_eq_add_neg];exact h.add h'.neg
theorem Fit.mul{L M:Nat}{i j:Int}(h:Fit L i)(h':Fit M j):Fit (L+M) (i*j):=by
 unfold Fit at*
 rw[Int.natAbs_mul,Nat.pow_add]
 exact Nat.mul_lt_mul'' h h'
theorem Fit.i64{i:Int}(h: -9223372036854775808≤i)(h':i≤9223372036854775807):Fit 2 i:=by
 unfold Fit;rw[show(4294967296:Nat)^2=18446744073709551616 by decide];omega
theorem Fit.le{L:Nat}{i j:Int}(h:Fit L i)(h':j.natAbs≤i.natAbs):Fit L j:=Nat.lt_of_le_of_lt h' h
theorem fg{L:Nat}{i:Int}(h:Fit L i)(hL:L≤10000000000):Wl (zn i):=
 ⟨λ_ hx=>fo (by decide) hx,Nat.le_trans ((bT (by decide)).2 h) hL⟩
theorem Wl.fit{z:Zr}(h:Wl z):Fit z.w.length (zi z):=by
 unfold Fit;rw[tQ];exact fC z.w h.1
theorem Wl.lt{z:Zr}(h:Wl z):vl z.w<4294967296^z.w.length:=fC z.w h.1
theorem Wl.cl{z:Zr}(h:Wl z):(can 4294967296 (vl z.w)).length≤10000000000:=
 Nat.le_trans ((bT (by decide)).2 (Wl.lt h)) h.2
theorem Wl.trim{z:Zr}(h:Wl z):bt z.w=some (can 4294967296 (vl z.w)):=by
 rw[Ak _ (by have:=h.2;omega),jF (by decide) h.1]
theorem gN{v:Nat}(h:(can 4294967296 v).length≤10000000001):EF (can 4294967296 v):=⟨λ_ hx=>fo (by decide) hx,by omega⟩
theorem eF(v:Nat):vl (can 4294967296 v)=v:=jN (by decide) v
theorem ga{v:Nat}:((can 4294967296 v).length:Int)≤2↔v<18446744073709551616:=by
 have:=bT (B:=4294967296) (by decide) (v:=v) (n:=2)
 rw[show(4294967296:Nat)^2=18446744073709551616 by decide]at this
 omega
theorem lQ{v:Nat}:((can 4294967296 v).length:Int)≤1↔v<4294967296:=by
 have:=bT (B:=4294967296) (by decide) (v:=v) (n:=1)
 rw[show(4294967296:Nat)^1=4294967296 by decide]at this
 omega
theorem oV{v:Nat}:(can 4294967296 v).length=0↔v=0:=by
 constructor
 ·intro h;exact xC (by decide) (List.length_eq_zero_iff.1 h)
 ·intro h;rw[h,oT];rfl
theorem xG(l:List Nat)(h:l.length≤1000000000000):ec l=some l:=by
 unfold ec;rw[PL (by decide) (by simp;omega)];simp
end
section
open Go.Fw
theorem G4(a b:Nat):decide (vW a b<0)=decide (a<b):=by
 rcases Nat.lt_trichotomy a b with h|h|h
 ·rw[pM h];simp[h]
 ·rw[h,uw];simp
 ·rw[rJ h];simp;omega
theorem zw(a b:Nat)(ha:(can 4294967296 a).length≤10000000000)(hb:(can 4294967296 b).length≤10000000000)(h0:b≠0):
  ∃q r,fP (can 4294967296 a) (can 4294967296 b)=some (q,r)∧EF q∧vl q=a/b∧EF r∧vl r=a%b∧q.length≤10000000001∧r.length≤10000000001:=by
 unfold fP
 rw[j0 a b (by omega) (by omega)]
 simp only[bH]
 by_cases hlt:a<b
 ·rw[pM hlt]
  simp only[show decide ((-1:Int)<0)=true by decide,eY]
  rw[xG _ (by omega)]
  refine⟨_,_,Y,⟨by simp,by simp⟩,?_,gN (by omega),?_,by simp,by omega⟩
  ·rw[Nat.div_eq_of_lt hlt];rfl
  ·rw[eF,Nat.mod_eq_of_lt hlt]
 ·rw[G4,show decide (a<b)=false by simp[hlt]]
  simp only[fM]
  by_cases h2:a<18446744073709551616
  ·rw[show decide (((can 4294967296 a).length:Int)≤2)=true by rw[decide_eq_true_eq];exact ga.2 h2]
   have Fj:b<18446744073709551616:=by omega
   simp only[eY]
   have l1:=low_eq (can 4294967296 a) (λ_ hx=>fo (by decide) hx) (by have:=ga.2 h2;omega)
   have l2:=low_eq (can 4294967296 b) (λ_ hx=>fo (by decide) hx) (by have:=ga.2 Fj;omega)
   rw[eF]at l1 l2
   rw[l1,bH,l2,bH,Ey h0 h2,bH,qJ _ _ (Nat.lt_of_le_of_lt (Nat.div_le_self _ _) h2),bH,Ag h0,bH,qJ _ _ (Nat.lt_of_le_of_lt (Nat.mod_le _ _) h2),bH]
   have hq:a/b<18446744073709551616:=Nat.lt_of_le_of_lt (Nat.div_le_self _ _) h2
   have hr:a%b<18446744073709551616:=Nat.lt_of_le_of_lt (Nat.mod_le _ _) h2
   have c1:=ga.2 hq
   have c2:=ga.2 hr
   exact⟨_,_,Y,gN (by omega),eF _,gN (by omega),eF _,by show(can _ _).length≤_;omega,by show(can _ _).length≤_;omega⟩
  ·rw[show decide (((can 4294967296 a).length:Int)≤2)=false by rw[decide_eq_false_iff_not];exact λh=>h2 (ga.1 h)]
   simp only[fM]
   have uV:(can 4294967296 b).length≠0:=λh=>h0 (oV.1 h)
   by_cases h1:b<4294967296
   ·have h1':=lQ.2 h1
    rw[show decide (((can 4294967296 b).length:Int)=1)=true by simp;omega,eY]
    have hg:(can 4294967296 b)[0]? =some b:=by rw[ur (by decide) (by omega)];simp;exact h1
    rw[xG _ (by omega),bH,uo hg,bH,Nat.mod_eq_of_lt (b:=18446744073709551616) (by omega),GY _ _ (gN (by omega)) (by omega) (by omega),bH,eF]
    simp only[]
    rw[qF (by rw[bG]),bH]
    have hm:a%b<b:=Nat.mod_lt _ (by omega)
    rw[Nat.mod_eq_of_lt (a:=a%b) (by omega)]
    refine⟨_,_,Y,⟨λx hx=>nL (by decide) _ _ _ hx,by rw[bG];omega⟩,?_,⟨?_,by simp⟩,?_,by rw[bG];omega,by simp⟩
    ·show val _ _=_
     rw[lP,Nat.mod_eq_of_lt (Nat.lt_of_le_of_lt (Nat.div_le_self _ _) (cc (by decide) a))]
    ·intro x hx;simp at hx;omega
    ·simp[vl,val]
   ·have h1':¬(((can 4294967296 b).length:Int)≤1):=λh=>h1 (lQ.1 h)
    rw[show decide (((can 4294967296 b).length:Int)=1)=false by simp;omega,fM]
    obtain⟨n,hn⟩:∃n,(can 4294967296 b).length=n+2:=⟨(can 4294967296 b).length-2,by omega⟩
    have hl:(can 4294967296 b).length≤(can 4294967296 a).length:=(bT (by decide)).2 (Nat.lt_of_le_of_lt (by omega) (cc (by decide) a))
    obtain⟨l,x,hx,he⟩:=GW (B:=4294967296) (by decide) h0
    have IW:(can 4294967296 b)[n+1]? ≠some 0:=by
     have:l.length=n+1:=by rw[he]at hn;simp at hn;omega
     rw[he,←this];simp;exact hx
    rw[IX _ _ (gN (by omega)) (gN (by omega)) hn hl IW,bH,eF,eF]
    have hbp:0<b:=by omega
    have e1:a<4294967296^(can 4294967296 a).length:=cc (by decide) a
    have e2:b<4294967296^(can 4294967296 b).length:=cc (by decide) b
    have e3:4294967296^(n+1)≤b:=qg (by decide) (by omega)
    refine⟨_,_,Y,⟨λx hx=>nL (by decide) _ _ _ hx,by rw[bG];omega⟩,?_,⟨λx hx=>nL (by decide) _ _ _ hx,by rw[bG];omega⟩,?_,by rw[bG];omega,by rw[bG];omega⟩
    ·show val _ _=_
     rw[lP,Nat.mod_eq_of_lt]
     rw[Nat.div_lt_iff_lt_mul hbp]
     have:4294967296^((can 4294967296 a).length-(can 4294967296 b).length+1)*4294967296^(n+1)=4294967296^(can 4294967296 a).length:=by rw[←Nat.pow_add];congr 1;omega
     calc a<4294967296^((can 4294967296 a).length-(can 4294967296 b).length+1)*4294967296^(n+1):=by rw[this];exact e1
      _≤_:=Nat.mul_le_mul_left _ e3
    ·show val _ _=_
     rw[lP,Nat.mod_eq_of_lt (Nat.lt_trans (Nat.mod_lt _ hbp) e2)]
end
section
open Go.Fw
theorem mD{x:Int}(h1: -9223372036854775808≤x)(h2:x≤9223372036854775807):bZ x=some (zn x):=by
 unfold bZ
 simp only[bH,cm]
 by_cases hx:x<0
 ·have e:(x%18446744073709551616).toNat=18446744073709551616-x.natAbs:=by omega
  rw[show decide (x<0)=true by simp[hx],eY,e,xA (by omega) (by omega),show 18446744073709551616+0-(18446744073709551616-x.natAbs)=x.natAbs by omega,qJ _ _ (by omega),bH,oU,show sv true x.natAbs=x by simp[sv];omega]
 ·have e:(x%18446744073709551616).toNat=x.natAbs:=by omega
  rw[show decide (x<0)=false by simp[hx],fM,e,qJ _ _ (by omega),bH,oU,show sv false x.natAbs=x by simp[sv];omega]
def dD(i:Int):Prop:=-9223372036854775808≤i∧i≤9223372036854775807
instance(i:Int):Decidable (dD i):=by unfold dD;infer_instance
def tR(i:Int):Int×Bool:=if dD i then(i,true)else(0,false)
theorem oW{z:Zr}(h:Wl z):di z=some (tR (zi z)):=by
 obtain⟨n,w⟩:=z
 unfold di
 have ht:=h.trim
 have aeI:vl w<18446744073709551616→dB (can 4294967296 (vl w))=some (vl w):=λh2=>by
  rw[low_eq _ (λ_ hx=>fo (by decide) hx) (by have:=ga.2 h2;omega),eF]
 show(bt w).bind _=some (tR (sv n (vl w)))
 rw[show bt w=some (can 4294967296 (vl w))from ht]
 simp only[bH]
 generalize vl w=v at*
 by_cases h2:v<18446744073709551616
 ·have:=ga.2 h2
  rw[show decide ((2:Int)<((can 4294967296 v).length:Int))=false by simp;omega,fM,aeI h2,bH]
  cases n
  ·rw[fM,jG]
   by_cases h3:v<9223372036854775808
   ·rw[show decide (9223372036854775808≤v)=false by simp;omega,fM,gj (by omega),tR,if_pos (by unfold dD;omega)]
   ·rw[show decide (9223372036854775808≤v)=true by simp;omega,eY,tR,if_neg (by unfold dD;omega)]
  ·rw[eY,show sv true v=-(v:Int)from rfl]
   by_cases h3:9223372036854775808<v
   ·rw[show decide (9223372036854775808<v)=true by simp;omega,eY,tR,if_neg (by unfold dD;omega)]
   ·rw[show decide (9223372036854775808<v)=false by simp;omega,fM,tR,if_pos (by unfold dD;omega)]
    by_cases h0:v=0
    ·subst h0;rfl
    ·rw[xA (by omega) (by omega)]
     rw[show IntKind.i64.wrap ((18446744073709551616+0-v:Nat):Int)=-(v:Int) by
      rw[IntKind.wrap];simp[IntKind.signed,IntKind.bits];omega]
 ·have:¬(((can 4294967296 v).length:Int)≤2):=λh=>h2 (ga.1 h)
  rw[show decide ((2:Int)<((can 4294967296 v).length:Int))=true by simp;omega,eY,tR,if_neg (by unfold dD;cases n<;>simp[sv]<;>omega)]
theorem sign_eq{z:Zr}(h:Wl z):cS z=some (zi z).sign:=by
 obtain⟨n,w⟩:=z
 unfold cS
 show(bt w).bind _=some (sv n (vl w)).sign
 rw[show bt w=some (can 4294967296 (vl w))from h.trim]
 simp only[bH]
 generalize vl w=v
 by_cases h0:v=0
 ·subst h0;cases n<;>rfl
 ·have:(can 4294967296 v).length≠0:=λh=>h0 (oV.1 h)
  rw[show decide (((can 4294967296 v).length:Int)=0)=false by simp;intro e;rw[e]at this;exact this Y,fM]
  cases n
  ·rw[fM,jG,Int.sign_eq_one_of_pos (by omega)]
  ·rw[eY,show sv true v=-(v:Int)from Y,Int.sign_eq_neg_one_of_neg (by omega)]
def ko(i j:Int):Int:=if i<j then-1 else if i=j then 0 else 1
theorem gZ{i j:Int}(h:i<j):ko i j=-1:=by simp[ko,h]
theorem g9{i j:Int}(h:j<i):ko i j=1:=by
 have h1:¬i<j:=by omega
 have h2:¬i=j:=by omega
 simp[ko,h1,h2]
theorem ot(i:Int):ko i i=0:=by simp[ko]
theorem BM(v w:Nat):vW v w=ko (v:Int) (w:Int):=by
 rcases Nat.lt_trichotomy v w with h|h|h
 ·rw[pM h,gZ (by omega)]
 ·rw[h,uw,ot]
 ·rw[rJ h,g9 (by omega)]
theorem G5(i j:Int):ko (-i) (-j)=ko j i:=by
 rcases Int.lt_trichotomy i j with h|h|h
 ·rw[g9 h,g9 (by omega)]
 ·rw[h,ot,ot]
 ·rw[gZ h,gZ (by omega)]
theorem U1{x y:Zr}(hx:Wl x)(hy:Wl y):mX x y=some (ko (zi x) (zi y)):=by
 obtain⟨n,w⟩:=x
 obtain⟨m,u⟩:=y
 unfold mX
 show(cS ⟨n,w⟩).bind _=_
 rw[sign_eq hx,bH]
 show(cS ⟨m,u⟩).bind _=_
 rw[sign_eq hy,bH,show bt w=some (can 4294967296 (vl w))from hx.trim,show bt u=some (can 4294967296 (vl u))from hy.trim]
 simp only[bH]
 rw[j0 _ _ (Nat.le_trans hx.cl (by decide)) (Nat.le_trans hy.cl (by decide)),j0 _ _ (Nat.le_trans hy.cl (by decide)) (Nat.le_trans hx.cl (by decide))]
 simp only[bH]
 rw[show zi ⟨n,w⟩=sv n (vl w)from Y,show zi ⟨m,u⟩=sv m (vl u)from rfl]
 generalize vl w=a
 generalize vl u=b
 rw[BM,BM]
 obtain⟨i,hi⟩:∃i,sv n a=i:=⟨_,Y⟩
 obtain⟨j,hj⟩:∃j,sv m b=j:=⟨_,Y⟩
 have OA:(i<0→i=-(a:Int))∧(0≤i→i=a):=by rw[←hi];cases n<;>simp[sv]<;>omega
 have hjb:(j<0→j=-(b:Int))∧(0≤j→j=b):=by rw[←hj];cases m<;>simp[sv]<;>omega
 rw[hi,hj]
 rcases Int.lt_trichotomy i 0 with h1|h1|h1<;>rcases Int.lt_trichotomy j 0 with h2|h2|h2
 ·rw[Int.sign_eq_neg_one_of_neg h1,Int.sign_eq_neg_one_of_neg h2,OA.1 h1,hjb.1 h2,G5];rfl
 ·rw[Int.sign_eq_neg_one_of_neg h1,show Int.sign j=0 by rw[h2];rfl,show ko i j=-1 from gZ (by omega)];rfl
 ·rw[Int.sign_eq_neg_one_of_neg h1,Int.sign_eq_one_of_pos h2,show ko i j=-1 from gZ (by omega)];rfl
 ·rw[show Int.sign i=0 by rw[h1];rfl,Int.sign_eq_neg_one_of_neg h2,show ko i j=1 from g9 (by omega)];rfl
 ·rw[show Int.sign i=0 by rw[h1];rfl,show Int.sign j=0 by rw[h2];rfl,←OA.2 (by omega),←hjb.2 (by omega)];rfl
 ·rw[show Int.sign i=0 by rw[h1];rfl,Int.sign_eq_one_of_pos h2,show ko i j=-1 from gZ (by omega)];rfl
 ·rw[Int.sign_eq_one_of_pos h1,Int.sign_eq_neg_one_of_neg h2,show ko i j=1 from g9 (by omega)];rfl
 ·rw[Int.sign_eq_one_of_pos h1,show Int.sign j=0 by rw[h2];rfl,show ko i j=1 from g9 (by omega)];rfl
 ·rw[Int.sign_eq_one_of_pos h1,Int.sign_eq_one_of_pos h2,←OA.2 (by omega),←hjb.2 (by omega)];rfl
theorem neg_eq{x:Zr}(hx:Wl x):fE x=some (zn (-zi x)):=by
 obtain⟨n,w⟩:=x
 unfold fE
 have hc:(can 4294967296 (vl w)).length≤10000000000:=hx.cl
 simp only[bH]
 rw[show bt w=some (can 4294967296 (vl w))from hx.trim,bH,xG _ (by omega),bH,jV _ _ (gN (by omega)),bH,eF,oU,BL]
 rfl
end
section
open Go.Fw
theorem xH(n m:Bool)(a b:Nat)(ha:(can 4294967296 a).length≤10000000000)(hb:(can 4294967296 b).length≤10000000000):
  c7 n (can 4294967296 a) m (can 4294967296 b)=some (zn (sv n a+sv m b)):=by
 have la:=cc (B:=4294967296) (by decide) a
 have lb:=cc (B:=4294967296) (by decide) b
 unfold c7
 simp only[bH]
 by_cases hnm:n=m
 ·subst hnm
  rw[show(n==n)=true by simp,eY,zq _ _ (gN (by omega)) (gN (by omega)),bH,eF,eF,jV _ _ ⟨λx hx=>nL (by decide) _ _ _ hx,by rw[bG];omega⟩,bH]
  have hv:vl (ep 4294967296 (max (can 4294967296 a).length (can 4294967296 b).length+1) (a+b))=a+b:=by
   show val _ _=_
   rw[lP,Nat.mod_eq_of_lt]
   have h1:a<4294967296^(max (can 4294967296 a).length (can 4294967296 b).length):=Nat.lt_of_lt_of_le la (Nat.pow_le_pow_right (by decide) (by omega))
   have h2:b<4294967296^(max (can 4294967296 a).length (can 4294967296 b).length):=Nat.lt_of_lt_of_le lb (Nat.pow_le_pow_right (by decide) (by omega))
   rw[Nat.pow_succ];omega
  rw[hv,oU,show sv n (a+b)=sv n a+sv n b by cases n<;>simp[sv];omega]
 ·rw[show(n==m)=false by simp[hnm],fM,j0 _ _ (by omega) (by omega),bH,G4]
  have hm:m= !n:=by cases n<;>cases m<;>simp_all
  subst hm
  have hv:∀c d,d≤c→(can 4294967296 c).length≤10000000000→cX (can 4294967296 c) (can 4294967296 d)=some (ep 4294967296 (can 4294967296 c).length (c-d))∧vl (ep 4294967296 (can 4294967296 c).length (c-d))=c-d:=by
   intro c d hdc tZ
   have lc:=cc (B:=4294967296) (by decide) c
   have Sx:(can 4294967296 d).length≤(can 4294967296 c).length:=(bT (by decide)).2 (by omega)
   constructor
   ·rw[zu _ _ (gN (by omega)) (gN (by omega)) Sx (by rw[eF,eF];exact hdc),eF,eF]
   ·show val _ _=_
    rw[lP,Nat.mod_eq_of_lt (by omega)]
  by_cases hlt:a<b
  ·obtain⟨h1,h2⟩:=hv b a (by omega) hb
   rw[show decide (a<b)=true by simp[hlt],eY,h1,bH,jV _ _ ⟨λx hx=>nL (by decide) _ _ _ hx,by rw[bG];omega⟩,bH,h2,oU,show sv (!n) (b-a)=sv n a+sv (!n) b by cases n<;>simp[sv]<;>omega]
  ·obtain⟨h1,h2⟩:=hv a b (by omega) ha
   rw[show decide (a<b)=false by simp[hlt],fM,h1,bH,jV _ _ ⟨λx hx=>nL (by decide) _ _ _ hx,by rw[bG];omega⟩,bH,h2,oU,show sv n (a-b)=sv n a+sv (!n) b by cases n<;>simp[sv]<;>omega]
theorem JV(v:BitVec 64):IntKind.i64.wrap (v.toNat:Int)=v.toInt:=by
 rw[BitVec.toInt_eq_toNat_cond]
 have:=v.isLt
 rw[show(2:Nat)^64=18446744073709551616 by decide]at this⊢
 split
 ·rw[gj (by omega)]
 ·rw[IntKind.wrap];simp[IntKind.signed,IntKind.bits];omega
theorem JW(v:BitVec 64):BitVec.ofInt 64 (IntKind.i64.wrap (v.toNat:Int))=v:=by rw[JV,BitVec.ofInt_toInt]
theorem yE{x:Int}(h:dD x):(BitVec.ofInt 64 x).msb=decide (x<0):=by
 rw[BitVec.msb_eq_toInt,BitVec.toInt_ofInt]
 unfold dD at h
 have:x.bmod (2^64)=x:=by
  rw[Int.bmod_def]
  simp only[show((2^64:Nat):Int)=18446744073709551616 by decide]
  split<;>omega
 rw[this]
theorem Db(v:BitVec 64):decide ((0:Int)≤IntKind.i64.wrap (v.toNat:Int))= !v.msb:=by
 rw[JV,BitVec.msb_eq_toInt]
 by_cases h:v.toInt<0
 ·simp[h]
 ·simp[h];omega
theorem qK(x:Int):dD (IntKind.i64.wrap x):=by
 unfold dD
 rw[IntKind.wrap];simp[IntKind.signed,IntKind.bits];split<;>omega
theorem xI{α:Type}(b:Bool)(x:α):(bif b then x else x)=x:=by cases b<;>rfl
theorem iO{i:Int}(h:dD i):tR i=(i,true):=if_pos h
theorem oX{i:Int}(h:¬dD i):tR i=(0,false):=if_neg h
theorem add_eq{x y:Zr}(hx:Wl x)(hy:Wl y):mU x y=some (zn (zi x+zi y)):=by
 obtain⟨n,w⟩:=x
 obtain⟨m,u⟩:=y
 unfold mU
 simp only[oW hx,oW hy,bH,cm]
 have hK:((bt w).bind λxP=>(bt u).bind λrN=>(c7 n xP m rN).bind λx=>some x)=some (zn (zi ⟨n,w⟩+zi ⟨m,u⟩)):=by
  rw[show bt w=some (can 4294967296 (vl w))from hx.trim,show bt u=some (can 4294967296 (vl u))from hy.trim,bH,bH,xH _ _ _ _ hx.cl hy.cl,bH];rfl
 have hK':((bt w).bind λxP=>(bt u).bind λrN=>(c7 n xP m rN).bind λx=>some ⟨x.neg,x.w⟩)=some (zn (zi ⟨n,w⟩+zi ⟨m,u⟩)):=hK
 rw[hK']
 generalize zi ⟨n,w⟩=i
 generalize zi ⟨m,u⟩=j
 by_cases h1:dD i
 ·by_cases h2:dD j
  ·rw[iO h1,iO h2,eY,bH,eY,JW,JW,Db,BitVec.msb_and,BitVec.msb_xor,BitVec.msb_xor,yE h1,yE h2,yE (qK _),mD (qK _).1 (qK _).2,bH]
   by_cases hr:dD (i+j)
   ·rw[cC hr.1 hr.2]
    exact xI _ _
   ·have:(!((decide (i<0)^^decide (IntKind.i64.wrap (i+j)<0))&&(decide (j<0)^^decide (IntKind.i64.wrap (i+j)<0))))=false:=by
     unfold dD at*
     by_cases hs:i<0
     ·have e:IntKind.i64.wrap (i+j)=i+j+18446744073709551616:=by rw[IntKind.wrap];simp[IntKind.signed,IntKind.bits];omega
      rw[e,show decide (i<0)=true by simp[hs],show decide (j<0)=true by simp;omega,show decide (i+j+18446744073709551616<0)=false by simp;omega];rfl
     ·have e:IntKind.i64.wrap (i+j)=i+j-18446744073709551616:=by rw[IntKind.wrap];simp[IntKind.signed,IntKind.bits];omega
      rw[e,show decide (i<0)=false by simp[hs],show decide (j<0)=false by simp;omega,show decide (i+j-18446744073709551616<0)=true by simp;omega];rfl
    rw[this,fM]
  ·rw[iO h1,oX h2,eY,bH,fM]
 ·rw[oX h1,fM,bH,fM]
theorem sub_eq{x y:Zr}(hx:Wl x)(hy:Wl y):mW x y=some (zn (zi x-zi y)):=by
 obtain⟨n,w⟩:=x
 obtain⟨m,u⟩:=y
 unfold mW
 simp only[oW hx,oW hy,bH,cm]
 have hK':((bt w).bind λxP=>(bt u).bind λrN=>(c7 n xP (!m) rN).bind λx=>some ⟨x.neg,x.w⟩)=some (zn (zi ⟨n,w⟩-zi ⟨m,u⟩)):=by
  rw[show bt w=some (can 4294967296 (vl w))from hx.trim,show bt u=some (can 4294967296 (vl u))from hy.trim,bH,bH,xH _ _ _ _ hx.cl hy.cl,bH,BL,←Int.sub_eq_add_neg];rfl
 rw[hK']
 generalize zi ⟨n,w⟩=i
 generalize zi ⟨m,u⟩=j
 by_cases h1:dD i
 ·by_cases h2:dD j
  ·rw[iO h1,iO h2,eY,bH,eY,JW,JW,Db,BitVec.msb_and,BitVec.msb_xor,BitVec.msb_xor,yE h1,yE h2,yE (qK _),mD (qK _).1 (qK _).2,bH]
   by_cases hr:dD (i-j)
   ·rw[cC hr.1 hr.2]
    exact xI _ _
   ·have:(!((decide (i<0)^^decide (j<0))&&(decide (i<0)^^decide (IntKind.i64.wrap (i-j)<0))))=false:=by
     unfold dD at*
     by_cases hs:i<0
     ·have e:IntKind.i64.wrap (i-j)=i-j+18446744073709551616:=by rw[IntKind.wrap];simp[IntKind.signed,IntKind.bits];omega
      rw[e,show decide (i<0)=true by simp[hs],show decide (j<0)=false by simp;omega,show decide (i-j+18446744073709551616<0)=false by simp;omega];rfl
     ·have e:IntKind.i64.wrap (i-j)=i-j-18446744073709551616:=by rw[IntKind.wrap];simp[IntKind.signed,IntKind.bits];omega
      rw[e,show decide (i<0)=false by simp[hs],show decide (j<0)=true by simp;omega,show decide (i-j-18446744073709551616<0)=true by simp;omega];rfl
    rw[this,fM]
  ·rw[iO h1,oX h2,eY,bH,fM]
 ·rw[oX h1,fM,bH,fM]
theorem IY(n m:Bool)(a b:Nat):sv (!(n==m)) (a*b)=sv n a*sv m b:=by
 cases n<;>cases m<;>simp[sv,Int.neg_mul,Int.mul_neg]
theorem mul_eq{x y:Zr}(hx:Wl x)(hy:Wl y):dg x y=some (zn (zi x*zi y)):=by
 obtain⟨n,w⟩:=x
 obtain⟨m,u⟩:=y
 unfold dg
 have Y5:(can 4294967296 (vl w)).length≤10000000000:=hx.cl
 have Yk:(can 4294967296 (vl u)).length≤10000000000:=hy.cl
 simp only[]
 rw[show bt w=some (can 4294967296 (vl w))from hx.trim,show bt u=some (can 4294967296 (vl u))from hy.trim,bH,bH,show zi ⟨n,w⟩=sv n (vl w)from Y,show zi ⟨m,u⟩=sv m (vl u)from rfl]
 simp only[bH,cm]
 generalize vl w=a at*
 generalize vl u=b at*
 have la:=cc (B:=4294967296) (by decide) a
 have lb:=cc (B:=4294967296) (by decide) b
 have hK:((fO (can 4294967296 a) (can 4294967296 b)).bind λpU=>(ct (!(n==m)) pU).bind λx=>some ⟨x.neg,x.w⟩)=some (zn (sv n a*sv m b)):=by
  rw[GX _ _ (gN (by omega)) (gN (by omega)),bH,eF,eF,jV _ _ ⟨λx hx=>nL (by decide) _ _ _ hx,by rw[bG];omega⟩,bH,oU]
  have hv:vl (ep 4294967296 ((can 4294967296 a).length+(can 4294967296 b).length) (a*b))=a*b:=by
   show val _ _=_
   rw[lP,Nat.mod_eq_of_lt]
   rw[Nat.pow_add];exact Nat.mul_lt_mul'' la lb
  rw[hv,IY]
 rw[hK]
 by_cases h1:a<4294967296
 ·by_cases h2:b<4294967296
  ·have l1:=low_eq (can 4294967296 a) (λ_ hx=>fo (by decide) hx) (by have:=lQ.2 h1;omega)
   have l2:=low_eq (can 4294967296 b) (λ_ hx=>fo (by decide) hx) (by have:=lQ.2 h2;omega)
   rw[eF]at l1 l2
   have hlt:a*b<18446744073709551616:=Nat.mul_lt_mul'' h1 h2
   rw[show decide (((can 4294967296 a).length:Int)≤1)=true by rw[decide_eq_true_eq];exact lQ.2 h1,eY,bH,show decide (((can 4294967296 b).length:Int)≤1)=true by rw[decide_eq_true_eq];exact lQ.2 h2,eY,l1,l2,bH,bH,Nat.mod_eq_of_lt hlt,qJ _ _ hlt,bH,oU,IY]
  ·rw[show decide (((can 4294967296 a).length:Int)≤1)=true by rw[decide_eq_true_eq];exact lQ.2 h1,eY,bH,show decide (((can 4294967296 b).length:Int)≤1)=false by rw[decide_eq_false_iff_not];exact λh=>h2 (lQ.1 h),fM]
 ·rw[show decide (((can 4294967296 a).length:Int)≤1)=false by rw[decide_eq_false_iff_not];exact λh=>h1 (lQ.1 h),fM,bH,fM]
end
section
open Go.Fw
theorem NR(n m:Bool){a b:Nat}(hb:0<b):
  sv n a/sv m b=(if n=true∧0<a%b then sv (!(n==m)) (a/b+1)else sv (!(n==m)) (a/b))∧
  sv n a%sv m b=(if n=true∧0<a%b then((b-a%b:Nat):Int)else((a%b:Nat):Int)):=by
 have hd:=Nat.div_add_mod a b
 have hm:=Nat.mod_lt a hb
 revert hd hm
 generalize a/b=q
 generalize a%b=r
 intro hd hm
 have hd':(b:Int)*q+r=a:=by exact_mod_cast hd
 have pos:∀n,sv n a/(b:Int)=(if n=true∧0<r then sv n (q+1)else sv n q)∧sv n a%(b:Int)=(if n=true∧0<r then((b-r:Nat):Int)else(r:Int)):=by
  intro n
  apply(Int.ediv_emod_unique (by omega)).2
  cases n
  ·simp[sv];omega
  ·by_cases hr:0<r
   ·simp only[hr,and_self,if_true,sv,cond_true]
    have:(b:Int)* -((q+1:Nat):Int)=-((b:Int)*q)-b:=by
     rw[Int.mul_neg,Int.natCast_add,Int.mul_add];simp;omega
    rw[this];omega
   ·have:r=0:=by omega
    subst this
    simp[sv,Int.mul_neg];omega
 cases m
 ·have:=pos n
  rw[jG,show(!(n==false))=n by cases n<;>rfl]
  exact this
 ·have:=pos n
  rw[show sv true b=-(b:Int)from rfl,Int.ediv_neg,Int.emod_neg,this.1,this.2,show(!(n==true))= !n by cases n<;>rfl,BL,BL]
  refine⟨?_,Y⟩
  split<;>rfl
theorem U3{a b:Nat}(hba:b≤a)(tZ:(can 4294967296 a).length≤10000000000):cX (can 4294967296 a) (can 4294967296 b)=some (ep 4294967296 (can 4294967296 a).length (a-b))∧vl (ep 4294967296 (can 4294967296 a).length (a-b))=a-b:=by
 have lc:=cc (B:=4294967296) (by decide) a
 have Sx:(can 4294967296 b).length≤(can 4294967296 a).length:=(bT (by decide)).2 (by omega)
 constructor
 ·rw[zu _ _ (gN (by omega)) (gN (by omega)) Sx (by rw[eF,eF];exact hba),eF,eF]
 ·show val _ _=_
  rw[lP,Nat.mod_eq_of_lt (by omega)]
def G7(i j:Int):Zr×Zr×Int:=if j=0 then(⟨false,[]⟩,⟨false,[]⟩,7)else(zn (i/j),zn (i%j),0)
theorem divMod_eq{x y:Zr}(hx:Wl x)(hy:Wl y):eR x y=some (G7 (zi x) (zi y)):=by
 obtain⟨n,w⟩:=x
 obtain⟨m,u⟩:=y
 unfold eR
 have Y5:(can 4294967296 (vl w)).length≤10000000000:=hx.cl
 have Yk:(can 4294967296 (vl u)).length≤10000000000:=hy.cl
 simp only[]
 rw[show bt w=some (can 4294967296 (vl w))from hx.trim,show bt u=some (can 4294967296 (vl u))from hy.trim,bH,bH,show zi ⟨n,w⟩=sv n (vl w)from Y,show zi ⟨m,u⟩=sv m (vl u)from rfl]
 simp only[bH,cm]
 generalize vl w=a at*
 generalize vl u=b at*
 by_cases h0:b=0
 ·subst h0
  rw[show sv m 0=0 by cases m<;>rfl];rfl
 ·have uV:(can 4294967296 b).length≠0:=λh=>h0 (oV.1 h)
  rw[show decide (((can 4294967296 b).length:Int)=0)=false by simp;intro e;rw[e]at uV;exact uV Y,fM]
  obtain⟨q,r,Xn,Yl,Y6,Po,Xy,hq3,hr3⟩:=zw a b Y5 Yk h0
  have hm:a%b<b:=Nat.mod_lt _ (by omega)
  obtain⟨e1,e2⟩:=NR n m (a:=a) (show 0<b by omega)
  have hj:sv m b≠0:=by cases m<;>simp[sv]<;>omega
  rw[Xn,bH]
  simp only[]
  rw[Ak r (by have:=Po.2;omega),jF (by decide) Po.1,show val 4294967296 r=a%b from Xy,bH,G7,if_neg hj,e1,e2]
  have hrl:(can 4294967296 (a%b)).length≤(can 4294967296 b).length:=(bT (by decide)).2 (Nat.lt_trans hm (cc (by decide) b))
  have hK:∀c:Bool,(decide (n=true∧0<a%b)=c)→(bif c then(eC q [1]).bind λpU=>(cX (can 4294967296 b) (can 4294967296 (a%b))).bind λr7=>(ct (!(n==m)) pU).bind λx=>(ct false r7).bind λx_1=>some ((⟨x.neg,x.w⟩:Zr),(⟨x_1.neg,x_1.w⟩:Zr),(0:Int))
    else(ct (!(n==m)) q).bind λx=>(ct false (can 4294967296 (a%b))).bind λx_1=>some ((⟨x.neg,x.w⟩:Zr),(⟨x_1.neg,x_1.w⟩:Zr),(0:Int)))=
    some (zn (if n=true∧0<a%b then sv (!(n==m)) (a/b+1)else sv (!(n==m)) (a/b)),zn (if n=true∧0<a%b then((b-a%b:Nat):Int)else((a%b:Nat):Int)),0):=by
   intro c hc
   cases c
   ·have NS:=of_decide_eq_false hc
    rw[fM,if_neg NS,if_neg NS,jV _ _ Yl,bH,jV _ _ (gN (by omega)),bH,eF,Y6,oU,oU,jG]
   ·have NS:=of_decide_eq_true hc
    obtain⟨s1,s2⟩:=U3 (a:=b) (b:=a%b) (by omega) Yk
    have w1:EF [1]:=⟨by simp,by simp⟩
    rw[eY,if_pos NS,if_pos NS,zq _ _ Yl w1,bH,s1,bH,jV _ _ ⟨λx hx=>nL (by decide) _ _ _ hx,by rw[bG];simp;omega⟩,bH,jV _ _ ⟨λx hx=>nL (by decide) _ _ _ hx,by rw[bG];omega⟩,bH,s2,oU,oU,jG]
    have:vl (ep 4294967296 (max q.length [1].length+1) (vl q+vl [1]))=a/b+1:=by
     show val _ _=_
     rw[lP,show vl [1]=1 by decide,Y6,Nat.mod_eq_of_lt]
     have h1:vl q<4294967296^q.length:=fC q Yl.1
     rw[Y6]at h1
     have h2:4294967296^q.length≤4294967296^(max q.length [1].length):=Nat.pow_le_pow_right (by decide) (by omega)
     have h3:0<4294967296^(max q.length [1].length):=Nat.pow_pos (by decide)
     rw[Nat.pow_succ];omega
    rw[this]
  have hz:(0<(can 4294967296 (a%b)).length)↔0<a%b:=by
   have:=oV (v:=a%b);omega
  cases n
  ·rw[fM,bH]
   exact hK false (by simp)
  ·rw[eY,bH]
   refine hK _ ?_
   simp only[true_and]
   by_cases h:0<a%b
   ·simp[h,hz.2 h]
   ·have h':¬0<(can 4294967296 (a%b)).length:=λe=>h (hz.1 e)
    have h'':¬((0:Int)<((can 4294967296 (a%b)).length:Int)):=by omega
    simp only[h,h'',decide_false]
theorem U4{x y:Zr}(hx:Wl x)(hy:Wl y):kD x y=some (zn (Int.gcd (zi x) (zi y):Int)):=by
 obtain⟨n,w⟩:=x
 obtain⟨m,u⟩:=y
 unfold kD
 have Y5:(can 4294967296 (vl w)).length≤10000000000:=hx.cl
 have Yk:(can 4294967296 (vl u)).length≤10000000000:=hy.cl
 simp only[]
 rw[show bt w=some (can 4294967296 (vl w))from hx.trim,show bt u=some (can 4294967296 (vl u))from hy.trim,bH,bH,Int.gcd,tQ,tQ]
 show _=some (zn ((Nat.gcd (vl w) (vl u):Nat):Int))
 generalize vl w=a at*
 generalize vl u=b at*
 refine fR (λs=>∃c d,s=(can 4294967296 c,can 4294967296 d)∧Nat.gcd c d=Nat.gcd a b∧(can 4294967296 c).length≤10000000000∧(can 4294967296 d).length≤10000000000)
  (λs=>∃c d,s=(can 4294967296 c,can 4294967296 d)∧Nat.gcd c d=Nat.gcd a b∧(can 4294967296 c).length≤10000000000∧(d=0∨(c<18446744073709551616∧d<18446744073709551616))) (λs=>vl s.2) ?_ ⟨a,b,Y,Y,Y5,Yk⟩ ?_
 ·rintro _ ⟨c,d,rfl,hg,hc,hd⟩
  simp only[bH,cm]
  by_cases h0:d=0
  ·right
   subst h0
   exact⟨_,Y,c,0,Y,hg,hc,.inl Y⟩
  ·have uV:(can 4294967296 d).length≠0:=λh=>h0 (oV.1 h)
   rw[show decide ((0:Int)<((can 4294967296 d).length:Int))=true by simp;omega,eY]
   by_cases h2:c<18446744073709551616∧d<18446744073709551616
   ·right
    have c1:=ga.2 h2.1
    have c2:=ga.2 h2.2
    rw[show decide ((2:Int)<((can 4294967296 c).length:Int))=false by simp;omega,fM,show decide ((2:Int)<((can 4294967296 d).length:Int))=false by simp;omega]
    exact⟨_,Y,c,d,Y,hg,hc,.inr h2⟩
   ·left
    have hm:c%d<d:=Nat.mod_lt _ (by omega)
    obtain⟨q,r,Xn,Yl,Y6,Po,Xy,-,-⟩:=zw c d hc hd h0
    have wz:((bif decide ((2:Int)<((can 4294967296 c).length:Int))then some true else some (decide ((2:Int)<((can 4294967296 d).length:Int)))):Option Bool)=some true:=by
     by_cases Ff:c<18446744073709551616
     ·have hd2:¬d<18446744073709551616:=λh=>h2 ⟨Ff,h⟩
      have:¬(((can 4294967296 d).length:Int)≤2):=λh=>hd2 (ga.1 h)
      rw[show decide ((2:Int)<((can 4294967296 d).length:Int))=true by simp;omega]
      exact xI _ _
     ·have:¬(((can 4294967296 c).length:Int)≤2):=λh=>Ff (ga.1 h)
      rw[show decide ((2:Int)<((can 4294967296 c).length:Int))=true by simp;omega,eY]
    rw[wz,bH,bH,eY,Xn,bH]
    simp only[]
    rw[Ak r (by have:=Po.2;omega),jF (by decide) Po.1,show val 4294967296 r=c%d from Xy,bH]
    refine⟨_,Y,⟨d,c%d,Y,?_,hd,?_⟩,?_⟩
    ·rw[←hg,Nat.gcd_comm d,←Nat.gcd_rec,Nat.gcd_comm]
    ·exact Nat.le_trans ((bT (by decide)).2 (Nat.lt_trans hm (cc (by decide) d))) hd
    ·simp only[eF];exact hm
 ·rintro _ ⟨c,d,rfl,hg,hc,NO⟩
  simp only[bH]
  by_cases h0:d=0
  ·subst h0
   rw[show decide (((can 4294967296 0).length:Int)=0)=true by simp[oT],eY,xG _ (by omega),bH,jV _ _ (gN (by omega)),bH,eF,oU,jG,←hg,Nat.gcd_zero_right]
  ·have h2:=NO.resolve_left h0
   have uV:(can 4294967296 d).length≠0:=λh=>h0 (oV.1 h)
   have c1:=ga.2 h2.1
   have c2:=ga.2 h2.2
   rw[show decide (((can 4294967296 d).length:Int)=0)=false by simp;intro e;rw[e]at uV;exact uV Y,fM,low_eq _ (λ_ hx=>fo (by decide) hx) (by omega),bH,low_eq _ (λ_ hx=>fo (by decide) hx) (by omega),bH,eF,eF]
   refine fR (λs=>Nat.gcd s.1 s.2=Nat.gcd a b∧s.1<18446744073709551616∧s.2<18446744073709551616) (λe=>e=Nat.gcd a b∧e<18446744073709551616) (λs=>s.2) ?_ ⟨hg,h2.1,h2.2⟩ ?_
   ·rintro⟨s,t⟩ ⟨i1,i2,i3⟩
    simp only at i1 i2 i3⊢
    by_cases ht:0<t
    ·left
     rw[show decide (0<t)=true by simp[ht],eY,Ag (by omega),bH]
     refine⟨_,Y,⟨?_,i3,?_⟩,Nat.mod_lt _ ht⟩
     ·rw[←i1,Nat.gcd_comm t,←Nat.gcd_rec,Nat.gcd_comm]
     ·exact Nat.lt_trans (Nat.mod_lt _ ht) i3
    ·right
     rw[show decide (0<t)=false by simp[ht],fM]
     refine⟨_,Y,?_,i2⟩
     rw[←i1,show t=0 by omega,Nat.gcd_zero_right]
   ·rintro e ⟨rfl,he⟩
    rw[qJ _ _ he,bH,oU,jG]
end
section
open Go.Fw
def zl(l:List Nat):List Int:=l.map (λ(n:Nat)=>(n:Int))
theorem dO(l:List Nat):(zl l).length=l.length:=by simp[zl]
theorem vZ{l:List Nat}{i x:Nat}(h:l[i]? =some x):(zl l)[i]? =some (x:Int):=by simp[zl,h]
theorem EJ(l k:List Nat):zl (l++k)=zl l++zl k:=by simp[zl]
theorem IZ(x:Nat):zl [x]=[(x:Int)]:=rfl
theorem P9(l:List Nat)(n:Nat):(zl l).take n=zl (l.take n):=by simp[zl,List.map_take]
theorem NT(l:List Nat)(i x:Nat):(zl l).set i (x:Int)=zl (l.set i x):=by simp[zl,List.map_set]
def EK(l:List Nat):Prop:=(∀x∈l,x<65536)∧l.length≤100000000000
abbrev gu(l:List Nat):Nat:=val 65536 l
theorem jH(l:List Nat)(hl:l.length≤1000000000000):cU (zl l)=some (zl (jE l)):=by
 unfold cU
 simp only[bH]
 refine fR (λy=>∃n:Nat,y=(n:Int)∧n≤l.length∧jE (l.take n)=jE l) (λy=>∃n:Nat,y=(n:Int)∧n≤l.length∧l.take n=jE l) (λy=>y.toNat) ?_ ⟨l.length,by rw[dO],Nat.le_refl _,by rw[List.take_length]⟩ ?_
 ·rintro _ ⟨n,rfl,hn,ht⟩
  simp only[cm]
  rcases n with _|n
  ·right
   refine⟨_,Y,0,Y,by omega,?_⟩
   rw[←ht];rfl
  ·have hi:∃x,l[n]? =some x:=⟨l[n],by simp⟩
   obtain⟨x,hx⟩:=hi
   have htk:l.take (n+1)=l.take n++[x]:=by
    rw[List.take_add_one,hx];rfl
   rw[show decide ((0:Int)<((n+1:Nat):Int))=true by rw[decide_eq_true_eq];omega,eY,BD (by omega),bN (vZ hx),bH]
   by_cases h0:x=0
   ·left
    subst h0
    rw[show decide (((0:Nat):Int)=0)=true by simp,bH,eY]
    refine⟨_,Y,⟨n,Y,by omega,?_⟩,by omega⟩
    rw[←ht,htk,oS]
   ·right
    rw[show decide (((x:Nat):Int)=0)=false by simp;omega,bH,fM]
    refine⟨_,Y,n+1,Y,hn,?_⟩
    rw[←ht,htk,rI _ h0]
 ·rintro _ ⟨n,rfl,hn,ht⟩
  rw[om (by rw[dO];exact hn),bH,P9,ht]
theorem zx{l:List Nat}(h:∀x∈l,x<65536)(i:Nat):dN (zl l) (i:Int)=some ((gu l/65536^i%65536:Nat):Int):=by
 unfold dN
 simp only[bH]
 rw[dO]
 by_cases hi:i<l.length
 ·rw[show decide ((i:Int)<(l.length:Int))=true by simp[hi],eY,bN (vZ (jZ h hi)),bH]
 ·rw[show decide ((i:Int)<(l.length:Int))=false by simp;omega,fM]
  have:gu l/65536^i=0:=Nat.div_eq_of_lt (Nat.lt_of_lt_of_le (fC l h) (Nat.pow_le_pow_right (by decide) (by omega)))
  rw[this];rfl
theorem I0(V k:Nat):ep 65536 (2*k) V++[V/4294967296^k%4294967296%65536,V/4294967296^k%4294967296/65536]=ep 65536 (2*(k+1)) V:=by
 have e:65536^(2*k)=4294967296^k:=by rw[Nat.pow_mul]
 rw[show 2*(k+1)=2*k+1+1 by omega,iq,iq,Nat.pow_succ,e,←Nat.div_div_eq_div_mul,List.append_assoc]
 generalize V/4294967296^k=x
 rw[show x%4294967296%65536=x%65536 by omega,show x%4294967296/65536=x/65536%65536 by omega]
 rfl
theorem KW(w:List Nat)(hw:EF w):bW w=some (zl (can 65536 (vl w))):=by
 obtain⟨hl,hn⟩:=hw
 unfold bW
 refine bJ (λi=>((i:Int),zl (ep 65536 (2*i) (vl w)))) w.length (zl (ep 65536 (2*w.length) (vl w))) ?_ (λk hk=>?_) ?_ ?_
 ·rfl
 ·have hg:=jZ hl hk
  have hlt:=Nat.mod_lt (val 4294967296 w/4294967296^k) (show 0<4294967296 by decide)
  have hv:=I0 (vl w) k
  simp only[bH]
  rw[show decide ((k:Int)<(w.length:Int))=true by simp[hk],eY,bN hg,bH,bH,gj (by omega),gj (by omega),PL (by decide) (by rw[dO,bG];simp;omega),bH,b8 (by omega)]
  rw[←hv,EJ]
  rw[show val 4294967296 w/4294967296^k%4294967296/65536%4294967296=val 4294967296 w/4294967296^k%4294967296/65536 by omega]
  rfl
 ·simp
 ·rw[jH _ (by rw[bG];omega),bH,ny (by decide)]
  rw[Nat.pow_mul];exact fC w hl
theorem He(k:Nat):65536^(2*k)=4294967296^k:=by rw[Nat.pow_mul]
theorem I1(v:Nat):can 4294967296 v=ep 4294967296 (((can 65536 v).length+1)/2) v:=by
 have h1:=cc (B:=65536) (by decide) v
 obtain⟨n,hn⟩:∃n,(can 65536 v).length=n:=⟨_,Y⟩
 rw[hn]at h1⊢
 have h2:v<4294967296^((n+1)/2):=by
  rw[←He];exact Nat.lt_of_lt_of_le h1 (Nat.pow_le_pow_right (by decide) (by omega))
 rw[JK (by decide) v]
 congr 1
 have h3:=(bT (B:=4294967296) (by decide)).2 h2
 refine Nat.le_antisymm h3 ?_
 rcases n with _|n
 ·simp
 ·have h4:65536^n≤v:=qg (by decide) (by omega)
  obtain⟨m,hm⟩:∃m,(n+1+1)/2=m+1:=⟨n/2,by omega⟩
  rw[hm]
  rcases Nat.lt_or_ge m (can 4294967296 v).length with h|h
  ·exact h
  ·have h5:=(bT (B:=4294967296) (by decide)).1 h
   rw[←He]at h5
   have:65536^(2*m)≤65536^n:=Nat.pow_le_pow_right (by decide) (by omega)
   omega
theorem of_eq(n:Bool)(l:List Nat)(hl:EK l):cV n (zl l)=some (zc n (gu l)):=by
 obtain⟨h,hn⟩:=hl
 unfold cV
 rw[jH _ (by omega),bH,jF (by decide) h]
 have hc:(can 65536 (val 65536 l)).length≤l.length:=(bT (by decide)).2 (fC l h)
 show _=some (zc n (val 65536 l))
 generalize val 65536 l=v at*
 have tZ:∀x∈can 65536 v,x<65536:=λ_ hx=>fo (by decide) hx
 have Vs:=λi=>zx tZ i
 refine bJ (λi=>(((2*i:Nat):Int),ep 4294967296 i v)) (((can 65536 v).length+1)/2) (can 4294967296 v) ?_ (λk hk=>?_) ?_ ?_
 ·rfl
 ·have a1:=Vs (2*k)
  have a2:=Vs (2*k+1)
  rw[show gu (can 65536 v)=v from jN (by decide) v]at a1 a2
  rw[He]at a1
  rw[Nat.pow_succ,He,←Nat.div_div_eq_div_mul]at a2
  simp only[bH]
  rw[dO,show decide (((2*k:Nat):Int)<((can 65536 v).length:Int))=true by simp;omega,eY,a1,bH,b8 (by omega),a2,bH]
  rw[iq]
  have e:((((v/4294967296^k%65536:Nat):Int)%4294967296).toNat+(((v/4294967296^k/65536%65536:Nat):Int)%4294967296).toNat*65536%4294967296)%4294967296=v/4294967296^k%4294967296:=by
   generalize v/4294967296^k=x
   omega
  rw[e,vU (by decide) (by rw[bG];omega),bH,show((2*k:Nat):Int)+2=((2*(k+1):Nat):Int) by omega,gj (by omega)]
 ·simp only[bH]
  rw[dO,show decide (((2*(((can 65536 v).length+1)/2):Nat):Int)<((can 65536 v).length:Int))=false by simp;omega,fM,←I1]
 ·simp only[cm]
  rw[zc]
  have hz:=oV (v:=v)
  cases n
  ·rw[fM,bH];rfl
  ·rw[eY,bH,bH,bH]
   congr 2
   by_cases h0:v=0
   ·rw[h0];rfl
   ·have:¬(can 4294967296 v).length=0:=λe=>h0 (hz.1 e)
    rw[show decide ((0:Int)<((can 4294967296 v).length:Int))=true by rw[decide_eq_true_eq];omega,show(true&&v != 0)=true by simp[h0]]
theorem nM(n:Bool)(v:Nat)(hl:(can 65536 v).length≤100000000000):cV n (zl (can 65536 v))=some (zn (sv n v)):=by
 rw[of_eq n _ ⟨λ_ hx=>fo (by decide) hx,hl⟩,show gu (can 65536 v)=v from jN (by decide) v,oU]
theorem KX{w:List Nat}(hw:∀x∈w,x<4294967296):(can 65536 (vl w)).length≤2*w.length:=by
 apply(bT (by decide)).2
 rw[He];exact fC w hw
theorem fj{x:Zr}(h:Wl x):bW x.w=some (zl (can 65536 (zi x).natAbs)):=by
 rw[tQ];exact KW _ ⟨h.1,by have:=h.2;omega⟩
theorem Wl.KY{x:Zr}(h:Wl x):(can 65536 (zi x).natAbs).length≤20000000000:=by
 rw[tQ];have:=KX h.1;have:=h.2;omega
theorem Hf{x:Zr}(h:Wl x):gQ x=some (zn (zi x)):=by
 obtain⟨n,w⟩:=x
 have h1:=fj h
 have h2:=h.KY
 unfold gQ
 simp only[]
 rw[show bW w=_ from h1,bH,nM _ _ (by omega),bH,tQ]
 rfl
theorem from_eq{x:Int}(h:dD x):gI x=some (zn x):=by
 unfold dD at h
 have key:∀(v:Nat) (n:Bool),v<18446744073709551616→((gQ ⟨n,[v%4294967296%4294967296,v/4294967296%18446744073709551616%4294967296]⟩).bind λx=>some (⟨x.neg,x.w⟩:Zr))=some (zn (sv n v)):=by
  intro v n hv
  rw[Hf ⟨by simp;omega,by simp⟩,bH]
  show some (zn (sv n (vl _)))=_
  congr 3
  simp only[vl,val]
  omega
 unfold gI
 simp only[bH,cm]
 by_cases hx:x<0
 ·have e:(x%18446744073709551616).toNat=18446744073709551616-x.natAbs:=by omega
  rw[show decide (x<0)=true by simp[hx],eY,e,xA (by omega) (by omega),show 18446744073709551616+0-(18446744073709551616-x.natAbs)=x.natAbs by omega,key _ _ (by omega),show sv true x.natAbs=x by simp[sv];omega]
 ·have e:(x%18446744073709551616).toNat=x.natAbs:=by omega
  rw[show decide (x<0)=false by simp[hx],fM,e,key _ _ (by omega),show sv false x.natAbs=x by simp[sv];omega]
end
section
open Go.Fw
theorem p9(k:Nat):10^(9*(k+1))=10^(9*k)*1000000000:=by
 rw[show 9*(k+1)=9*k+9 by omega,Nat.pow_add]
end
section
open Go.Fw
def body(s:On):On:=if s.head?=some 45 then s.tail else s
def dv(s:On):Nat:=s.foldl (λa c=>a*10+(c.toNat-48)) 0
def z0:Zr:=⟨false,[]⟩
end
section
open Go.Fw
theorem zeta'(z:Zr):(⟨z.neg,z.w⟩:Zr)=z:=by cases z;rfl
theorem ou{i:Int}(h:dD i):Fit 2 i:=Fit.i64 h.1 h.2
theorem NU{i:Int}(h:dD i):Wl (zn i):=fg (ou h) (by decide)
end
section
open Go.Fw
theorem Qa(l:List Zr)(hl:l.length≤100):∃b,lI l=some b∧(b=false→∀z∈l,z.w.length≤12):=by
 unfold lI
 simp only[bH]
 refine lO (λy=>∃i:Nat,y=(i:Int)∧i≤l.length∧∀z∈l.take i,z.w.length≤12) (λe=>(∃c,e=.inl c∧∀z∈l,z.w.length≤12)∨e=.inr true) (λy=>l.length-y.toNat) ?_ ⟨0,Y,by omega,by simp⟩ ?_
 ·rintro _ ⟨i,rfl,hi,ht⟩
  by_cases hlt:i<l.length
  ·have g:l[i]? =some l[i]:=by simp
   rw[show decide ((i:Int)<(l.length:Int))=true by simp[hlt],eY,bN g,bH]
   by_cases fz:l[i].w.length≤12
   ·left
    rw[show decide ((12:Int)<(l[i].w.length:Int))=false by rw[decide_eq_false_iff_not];omega,fM,b8 (by omega)]
    refine⟨_,Y,⟨i+1,Y,hlt,?_⟩,by omega⟩
    rw[List.take_add_one,g]
    intro z hz
    rcases List.mem_append.1 hz with h|h
    ·exact ht z h
    ·simp at h;rw[h];exact fz
   ·right
    rw[show decide ((12:Int)<(l[i].w.length:Int))=true by rw[decide_eq_true_eq];omega,eY]
    exact⟨_,Y,.inr Y⟩
  ·right
   rw[show decide ((i:Int)<(l.length:Int))=false by simp;omega,fM]
   rw[List.take_of_length_le (by omega)]at ht
   exact⟨_,Y,.inl ⟨_,Y,ht⟩⟩
 ·rintro e (⟨c,rfl,he⟩|rfl)
  ·exact⟨false,Y,λ_=>he⟩
  ·exact⟨true,rfl,λh=>by cases h⟩
theorem NV(i j:Int):(i-j).sign=ko i j:=by
 rcases Int.lt_trichotomy i j with h|h|h
 ·rw[gZ h,Int.sign_eq_neg_one_of_neg (by omega)]
 ·rw[h,ot,Int.sub_self];rfl
 ·rw[g9 h,Int.sign_eq_one_of_pos (by omega)]
theorem KZ(i j:Int):IntKind.i64.wrap (0-ko j i)=ko i j:=by
 rcases Int.lt_trichotomy i j with h|h|h
 ·rw[gZ h,g9 h];rfl
 ·rw[h,ot];rfl
 ·rw[g9 h,gZ h];rfl
abbrev OkZ(z:Zr):Prop:=True∧(z.w.length≤9223372036854775807∧∀x∈z.w,x<4294967296)
end
section
open Go.Fw
def qd(q:Qr):Int:=if zi q.den=0 then 1 else zi q.den
def qv(q:Qr):Rat:=Rat.divInt (zi q.num) (qd q)
def qn(r:Rat):Qr:=⟨zn r.num,if r.den=1 then⟨false,[]⟩else zn (r.den:Int)⟩
def FQ(L:Nat)(r:Rat):Prop:=Fit L r.num∧Fit L (r.den:Int)
structure hG (L:Nat) (q:Qr) (r:Rat):Prop where
 n:∀x∈q.num.w,x<4294967296
 d:∀x∈q.den.w,x<4294967296
 ln:q.num.w.length≤L
 ld:q.den.w.length≤L
 l1:1≤L
 v:qv q=r
theorem Ym(q:Qr):qd q≠0:=by
 unfold qd
 by_cases h:zi q.den=0
 ·rw[if_pos h];decide
 ·rw[if_neg h];exact h
theorem Yn(r:Rat):qv (qn r)=r:=by
 unfold qv qd qn
 by_cases h:r.den=1
 ·rw[if_pos h]
  show Rat.divInt (zi (zn r.num)) (if zi ⟨false,[]⟩=0 then 1 else zi ⟨false,[]⟩)=r
  rw[if_pos (show zi ⟨false,[]⟩=0 from rfl),eG]
  have:=Rat.num_divInt_den r
  rw[h]at this;exact this
 ·rw[if_neg h]
  show Rat.divInt (zi (zn r.num)) (if zi (zn (r.den:Int))=0 then 1 else zi (zn (r.den:Int)))=r
  have:=r.den_nz
  rw[eG,eG,if_neg (by omega),Rat.num_divInt_den]
theorem JX{w:List Nat}{n:Bool}{L:Nat}(h:∀x∈w,x<4294967296)(hl:w.length≤L):Fit L (zi ⟨n,w⟩):=by
 unfold Fit
 rw[tQ]
 exact Nat.lt_of_lt_of_le (fC w h) (Nat.pow_le_pow_right (by decide) hl)
theorem xJ{L:Nat}(h:1≤L):Fit L 1:=by
 unfold Fit
 exact Nat.lt_of_lt_of_le (show(1:Int).natAbs<4294967296^1 by decide) (Nat.pow_le_pow_right (by decide) h)
theorem FQ.rep{L:Nat}{r:Rat}(h:FQ L r)(h1:1≤L):hG L (qn r) r:=by
 refine⟨λx hx=>fo (by decide) hx,?_,(bT (by decide)).2 h.1,?_,h1,Yn r⟩
 ·unfold qn
  by_cases e:r.den=1
  ·rw[if_pos e];simp
  ·rw[if_neg e];exact λx hx=>fo (by decide) hx
 ·unfold qn
  by_cases e:r.den=1
  ·rw[if_pos e];simp
  ·rw[if_neg e];exact(bT (by decide)).2 h.2
theorem hG.wn{L:Nat}{q:Qr}{r:Rat}(h:hG L q r)(hL:L≤10000000000):Wl q.num:=⟨h.n,Nat.le_trans h.ln hL⟩
theorem hG.wd{L:Nat}{q:Qr}{r:Rat}(h:hG L q r)(hL:L≤10000000000):Wl q.den:=⟨h.d,Nat.le_trans h.ld hL⟩
theorem hG.fn{L:Nat}{q:Qr}{r:Rat}(h:hG L q r):Fit L (zi q.num):=JX (n:=q.num.neg) h.n h.ln
theorem hG.fd{L:Nat}{q:Qr}{r:Rat}(h:hG L q r):Fit L (zi q.den):=JX (n:=q.den.neg) h.d h.ld
theorem hG.fqd{L:Nat}{q:Qr}{r:Rat}(h:hG L q r):Fit L (qd q):=by
 unfold qd
 by_cases e:zi q.den=0
 ·rw[if_pos e];exact xJ h.l1
 ·rw[if_neg e];exact h.fd
theorem hG.mono{L M:Nat}{q:Qr}{r:Rat}(h:hG L q r)(hl:L≤M):hG M q r:=⟨h.n,h.d,Nat.le_trans h.ln hl,Nat.le_trans h.ld hl,Nat.le_trans h.l1 hl,h.v⟩
theorem FQ.mono{L M:Nat}{r:Rat}(h:FQ L r)(hl:L≤M):FQ M r:=⟨h.1.mono hl,h.2.mono hl⟩
theorem ux{L:Nat}{a d:Int}(h0:d≠0)(ha:Fit L a)(hd:Fit L d):FQ L (Rat.divInt a d):=by
 generalize hr:Rat.divInt a d=r
 obtain⟨n',d',z',c⟩:=r
 obtain⟨m,hm,h1,h2⟩:=Rat.divInt_num_den h0 hr
 have hm':0<m.natAbs:=Int.natAbs_pos.2 hm
 refine⟨ha.le ?_,hd.le ?_⟩
 ·rw[h1,Int.natAbs_mul];exact Nat.le_mul_of_pos_right _ hm'
 ·rw[h2,Int.natAbs_mul];exact Nat.le_mul_of_pos_right _ hm'
theorem hG.fq{L:Nat}{q:Qr}{r:Rat}(h:hG L q r):FQ L r:=by rw[←h.v];exact ux (Ym q) h.fn h.fqd
theorem uy(r:Rat):r=Rat.divInt r.num (r.den:Int):=(Rat.num_divInt_den r).symm
theorem qh(r:Rat):(r.den:Int)≠0:=by have:=r.den_nz;omega
theorem FQ.add{L M:Nat}{x y:Rat}(hx:FQ L x)(hy:FQ M y):FQ (L+M+1) (x+y):=by
 have e:x+y=Rat.divInt (x.num*y.den+y.num*x.den) (x.den*y.den):=by
  conv=>lhs;rw[uy x,uy y,Rat.divInt_add_divInt _ _ (qh x) (qh y)]
 rw[e]
 refine ux (Int.mul_ne_zero (qh x) (qh y)) ?_ ?_
 ·exact(hx.1.mul hy.2).add (by rw[Nat.add_comm L M];exact hy.1.mul hx.2)
 ·exact(hx.2.mul hy.2).mono (by omega)
theorem FQ.sub{L M:Nat}{x y:Rat}(hx:FQ L x)(hy:FQ M y):FQ (L+M+1) (x-y):=by
 have e:x-y=Rat.divInt (x.num*y.den-y.num*x.den) (x.den*y.den):=by
  conv=>lhs;rw[uy x,uy y,Rat.divInt_sub_divInt _ _ (qh x) (qh y)]
 rw[e]
 refine ux (Int.mul_ne_zero (qh x) (qh y)) ?_ ?_
 ·exact(hx.1.mul hy.2).sub (by rw[Nat.add_comm L M];exact hy.1.mul hx.2)
 ·exact(hx.2.mul hy.2).mono (by omega)
theorem FQ.mul{L M:Nat}{x y:Rat}(hx:FQ L x)(hy:FQ M y):FQ (L+M) (x*y):=by
 have e:x*y=Rat.divInt (x.num*y.num) (x.den*y.den):=by
  conv=>lhs;rw[uy x,uy y,Rat.divInt_mul_divInt]
 rw[e]
 exact ux (Int.mul_ne_zero (qh x) (qh y)) (hx.1.mul hy.1) (hx.2.mul hy.2)
theorem FQ.neg{L:Nat}{x:Rat}(hx:FQ L x):FQ L (-x):=⟨hx.1.neg,hx.2⟩
theorem FQ.int{L:Nat}{i:Int}(h:Fit L i)(h1:1≤L):FQ L (i:Rat):=⟨h,xJ h1⟩
def lS(x y:Rat):Int:=if x<y then-1 else if x=y then 0 else 1
theorem Dc(x:Rat):lS x x=0:=by unfold lS;rw[if_neg Rat.lt_irrefl,if_pos rfl]
theorem Qb{x y:Rat}(h:y<x):lS x y=1:=by
 unfold lS
 rw[if_neg (λh'=>by grind),if_neg (λh'=>by grind)]
theorem K0{a b c d:Int}(hb:0<b)(hd:0<d):Rat.divInt a b<Rat.divInt c d↔a*d<c*b:=by
 have hb':(0:Rat)<(b:Rat):=Rat.intCast_pos.2 hb
 have hd':(0:Rat)<(d:Rat):=Rat.intCast_pos.2 hd
 rw[Rat.divInt_eq_div,Rat.divInt_eq_div,Rat.div_lt_iff hb',Rat.div_def,Rat.mul_assoc,Rat.mul_comm (d:Rat)⁻¹,←Rat.mul_assoc,←Rat.div_def,Rat.lt_div_iff hd',←Rat.intCast_mul,←Rat.intCast_mul,Rat.intCast_lt_intCast]
theorem Hg{a b c d:Int}(hb:0<b)(hd:0<d):lS (Rat.divInt a b) (Rat.divInt c d)=ko (a*d) (c*b):=by
 unfold lS ko
 have e1:=K0 (a:=a) (c:=c) hb hd
 have e2:=Rat.divInt_eq_divInt_iff (n₁:=a) (d₁:=b) (n₂:=c) (d₂:=d) (by omega) (by omega)
 by_cases h1:a*d<c*b
 ·rw[if_pos (e1.2 h1),if_pos h1]
 ·rw[if_neg (λh=>h1 (e1.1 h)),if_neg h1]
  by_cases h2:a*d=c*b
  ·rw[if_pos (e2.2 h2),if_pos h2]
  ·rw[if_neg (λh=>h2 (e2.1 h)),if_neg h2]
theorem pN{a b:Int}(hb:0<b):a.sign=lS (Rat.divInt a b) 0:=by
 have:(0:Rat)=Rat.divInt 0 1:=rfl
 rw[this,Hg hb (by decide),Int.mul_one,Int.zero_mul,←NV,Int.sub_zero]
theorem yF{a d:Int}(hd:0<d):qn (Rat.divInt a d)=⟨zn (a/(Int.gcd a d:Int)),if d/(Int.gcd a d:Int)=1 then⟨false,[]⟩else zn (d/(Int.gcd a d:Int))⟩:=by
 have h1:(Rat.divInt a d).num=a/(Int.gcd a d:Int):=by rw[Rat.num_divInt,Int.sign_eq_one_of_pos hd,Int.one_mul,Int.gcd_comm]
 have h2:((Rat.divInt a d).den:Int)=d/(Int.gcd a d:Int):=by
  rw[Rat.den_divInt,if_neg (by omega),Int.gcd_comm]
  have:(d.natAbs:Int)=d:=by omega
  rw[Int.natCast_ediv,this]
 unfold qn
 rw[h1,h2]
 by_cases e:(Rat.divInt a d).den=1
 ·rw[if_pos e,if_pos (by omega)]
 ·rw[if_neg e,if_neg (by omega)]
theorem Qc(k:Int):((bif(tR k).2 then some (decide ((tR k).1=1))else some false):Option Bool)=some (decide (k=1)):=by
 by_cases h:dD k
 ·rw[iO h];rfl
 ·rw[oX h]
  have:¬k=1:=by rintro rfl;exact h (by decide)
  rw[decide_eq_false this];rfl
theorem BN{n d:Zr}(hn:Wl n)(hd:Wl d)(h:0<zi d):((kD n d).bind λg=>(eR n g).bind λa=>(eR d g).bind λb=>(di b.1).bind λc=>
  (bif c.2 then some (decide (c.1=1))else some false).bind λe=>bif e then some (⟨a.1,⟨false,[]⟩⟩:Qr)else some ⟨a.1,b.1⟩)=some (qn (Rat.divInt (zi n) (zi d))):=by
 have g0:(Int.gcd (zi n) (zi d):Int)≠0:=by
  have:0<Int.gcd (zi n) (zi d):=Int.gcd_pos_of_ne_zero_right _ (by omega)
  omega
 have wg:Wl (zn (Int.gcd (zi n) (zi d):Int)):=fg ((Wl.fit hd).le (by
  have:=Nat.le_of_dvd (Int.natAbs_pos.2 (show zi d≠0 by omega)) (Int.gcd_dvd_natAbs_right (zi n) (zi d))
  simpa using this)) hd.2
 have wq:Wl (zn (zi d/(Int.gcd (zi n) (zi d):Int))):=fg ((Wl.fit hd).le (Int.natAbs_ediv_le_natAbs _ _)) hd.2
 rw[U4 hn hd,bH,divMod_eq hn wg,bH,divMod_eq hd wg,bH,eG,G7,if_neg g0,G7,if_neg g0]
 simp only[]
 rw[oW wq,bH,eG,Qc,bH,yF h]
 by_cases e:zi d/(Int.gcd (zi n) (zi d):Int)=1
 ·rw[decide_eq_true e,eY,if_pos e]
 ·rw[decide_eq_false e,fM,if_neg e]
theorem reduce_eq{x y:Zr}(hx:Wl x)(hy:Wl y)(h0:zi y≠0):fF x y=some (qn (Rat.divInt (zi x) (zi y))):=by
 unfold fF
 simp only[cm,bH,zeta',sign_eq hy]
 by_cases h:zi y<0
 ·rw[show decide ((zi y).sign<0)=true by rw[Int.sign_eq_neg_one_of_neg h];rfl,eY,neg_eq hx,bH,neg_eq hy,bH]
  have hp:=BN (fg (Wl.fit hx).neg hx.2) (fg (Wl.fit hy).neg hy.2) (by rw[eG];omega)
  rw[eG,eG,Rat.neg_divInt_neg]at hp
  exact hp
 ·rw[show decide ((zi y).sign<0)=false by rw[Int.sign_eq_one_of_pos (by omega)];rfl,fM]
  exact BN hx hy (by omega)
end
section
open Go.Fw
theorem nT(q:Qr):(⟨⟨q.num.neg,q.num.w⟩,⟨q.den.neg,q.den.w⟩⟩:Qr)=q:=by cases q;rfl
theorem nU(q:Qr):(⟨q.num,q.den⟩:Qr)=q:=by cases q;rfl
theorem parts_eq{L:Nat}{q:Qr}{r:Rat}(h:hG L q r)(hL:L≤10000000000):∃n d:Zr,dj q=some (n,d)∧Wl n∧Wl d∧0<zi d∧Rat.divInt (zi n) (zi d)=r∧Fit L (zi n)∧Fit L (zi d):=by
 have wn:=h.wn hL
 have wd:=h.wd hL
 have hv:=h.v
 unfold dj
 simp only[zeta',bH,sign_eq wd,mD (x:=1) (by decide) (by decide),neg_eq wn,neg_eq wd]
 unfold qv qd at hv
 rcases Int.lt_trichotomy (zi q.den) 0 with h1|h1|h1
 ·refine⟨_,_,?_,fg h.fn.neg hL,fg h.fd.neg hL,by rw[eG];omega,?_,by rw[eG];exact h.fn.neg,by rw[eG];exact h.fd.neg⟩
  ·rw[Int.sign_eq_neg_one_of_neg h1];rfl
  ·rw[eG,eG,Rat.neg_divInt_neg,←hv,if_neg (by omega)]
 ·refine⟨_,_,?_,wn,fg (xJ h.l1) hL,by rw[eG];decide,?_,h.fn,by rw[eG];exact xJ h.l1⟩
  ·rw[h1];rfl
  ·rw[eG,←hv,if_pos h1]
 ·refine⟨_,_,?_,wn,wd,h1,?_,h.fn,h.fd⟩
  ·rw[Int.sign_eq_one_of_pos h1];rfl
  ·rw[←hv,if_neg (by omega)]
def Sm(a:Int):Prop:=-2147483648<a∧a<2147483648
theorem Sm.ok{a:Int}(h:Sm a):dD a:=by unfold Sm at h;unfold dD;omega
theorem oY{L:Nat}{q:Qr}{r:Rat}(h:hG L q r)(hL:L≤10000000000):∃a b c,ei q=some (a,b,c)∧(c=true→Sm a∧0<b∧Sm b∧Rat.divInt a b=r):=by
 have wn:=h.wn hL
 have wd:=h.wd hL
 have hv:=h.v
 unfold ei
 simp only[zeta',bH,cm,oW wn,oW wd]
 unfold qv qd at hv
 generalize zi q.num=n at*
 generalize zi q.den=d at*
 by_cases hs:Sm n∧Sm d
 ·obtain⟨h1,h2⟩:=hs
  rw[iO h1.ok,iO h2.ok]
  unfold Sm at h1 h2
  simp only[]
  rw[decide_eq_false (show ¬n≤-2147483648 by omega),decide_eq_false (show ¬2147483648≤n by omega),decide_eq_false (show ¬d≤-2147483648 by omega),decide_eq_false (show ¬2147483648≤d by omega)]
  simp only[Bool.not_true,fM,bH]
  by_cases h0:d=0
  ·rw[decide_eq_true h0,eY]
   refine⟨_,_,_,Y,λ_=>⟨h1,by decide,⟨by decide,by decide⟩,?_⟩⟩
   rw[←hv,if_pos h0]
  ·rw[decide_eq_false h0,fM]
   rw[if_neg h0]at hv
   by_cases hneg:d<0
   ·rw[decide_eq_true hneg,eY,cC (by omega) (by omega),cC (by omega) (by omega)]
    refine⟨_,_,_,Y,λ_=>⟨⟨by omega,by omega⟩,by omega,⟨by omega,by omega⟩,?_⟩⟩
    rw[Int.zero_sub,Int.zero_sub,Rat.neg_divInt_neg,hv]
   ·rw[decide_eq_false hneg,fM]
    exact⟨_,_,_,Y,λ_=>⟨h1,by omega,h2,hv⟩⟩
 ·refine⟨0,0,false,?_,λe=>by cases e⟩
  by_cases o1:dD n
  ·by_cases o2:dD d
   ·rw[iO o1,iO o2]
    simp only[Bool.not_true,fM,bH]
    unfold Sm at hs
    by_cases c1:n≤-2147483648
    ·rw[decide_eq_true c1];simp only[bH,eY]
    ·rw[decide_eq_false c1];simp only[bH,fM]
     by_cases c2:2147483648≤n
     ·rw[decide_eq_true c2];simp only[bH,eY]
     ·rw[decide_eq_false c2];simp only[bH,fM]
      by_cases c3:d≤-2147483648
      ·rw[decide_eq_true c3];simp only[bH,eY]
      ·rw[decide_eq_false c3];simp only[bH,fM]
       rw[decide_eq_true (show 2147483648≤d by omega)];simp only[eY]
   ·rw[iO o1,oX o2];simp only[Bool.not_true,Bool.not_false,fM,bH,eY]
  ·rw[oX o1];simp only[Bool.not_false,bH,eY]
theorem Hh{a g:Int}(hg:0<g)(h:g∣a):Int.tdiv a g=a/g:=by
 obtain⟨k,rfl⟩:=h
 rw[Int.mul_tdiv_cancel_left _ (by omega),Int.mul_ediv_cancel_left _ (by omega)]
theorem xK{n d:Int}(hd:0<d)(hd':d≤9223372036854775807)(hn: -9223372036854775807≤n)(hn':n≤9223372036854775807):gG n d=some (qn (Rat.divInt n d)):=by
 unfold gG
 simp only[bH,cm]
 refine fR (λs=>Int.gcd s.1 s.2=Int.gcd n d∧s.1.natAbs≤9223372036854775807∧s.2.natAbs≤9223372036854775807) (λe=>e.natAbs=Int.gcd n d∧e.natAbs≤9223372036854775807) (λs=>s.2.natAbs) ?_ ⟨Y,by simp only[];omega,by simp only[];omega⟩ ?_
 ·rintro⟨a,b⟩ ⟨i1,i2,i3⟩
  simp only at i1 i2 i3⊢
  by_cases hb:b=0
  ·right
   subst hb
   refine⟨a,by simp,?_,i2⟩
   rw[←i1];simp[Int.gcd]
  ·left
   rw[decide_eq_true hb,eY,Ce,if_neg hb,bH]
   have hm:(Int.tmod a b).natAbs=a.natAbs%b.natAbs:=Int.natAbs_tmod a b
   have hlt:=Nat.mod_lt a.natAbs (Int.natAbs_pos.2 hb)
   refine⟨_,Y,⟨?_,i3,by simp only[];omega⟩,by simp only[];omega⟩
   simp only[]
   rw[←i1,Int.gcd,Int.gcd,hm,Nat.gcd_comm b.natAbs,←Nat.gcd_rec,Nat.gcd_comm]
 ·rintro e ⟨he,hle⟩
  obtain⟨g,hg⟩:∃g:Int,(Int.gcd n d:Int)=g:=⟨_,Y⟩
  have Y0:0<g:=by have:=Int.gcd_pos_of_ne_zero_right n (show d≠0 by omega);omega
  have hgn:g∣n:=hg▸Int.gcd_dvd_left ..
  have hgd:g∣d:=hg▸Int.gcd_dvd_right ..
  have hK:∀m:Int,m=g→(bif decide (m=d)then(rX n m).bind λgV=>(bZ gV).bind λx=>some (⟨⟨x.neg,x.w⟩,⟨false,[]⟩⟩:Qr)else(rX n m).bind λir=>(bZ ir).bind λx=>(rX d m).bind λmS=>(bZ mS).bind λy=>some ⟨⟨x.neg,x.w⟩,⟨y.neg,y.w⟩⟩)=some (qn (Rat.divInt n d)):=by
   rintro m rfl
   have b1:(n/m).natAbs≤n.natAbs:=Int.natAbs_ediv_le_natAbs _ _
   have b2:(d/m).natAbs≤d.natAbs:=Int.natAbs_ediv_le_natAbs _ _
   have q1:rX n m=some (n/m):=by
    rw[rX,if_neg (by omega),Hh Y0 hgn,cC (by omega) (by omega)]
   have q2:rX d m=some (d/m):=by
    rw[rX,if_neg (by omega),Hh Y0 hgd,cC (by omega) (by omega)]
   rw[yF hd,hg,q1,q2]
   simp only[bH,mD (x:=n/m) (by omega) (by omega),mD (x:=d/m) (by omega) (by omega),zeta']
   by_cases e1:m=d
   ·rw[decide_eq_true e1,eY,if_pos (by rw[e1];exact Int.ediv_self (by omega))]
   ·rw[decide_eq_false e1,fM,if_neg]
    intro e2
    have:=Int.ediv_mul_cancel hgd
    rw[e2]at this;omega
  by_cases hneg:e<0
  ·rw[decide_eq_true hneg,eY,cC (by omega) (by omega)]
   exact hK _ (by omega)
  ·rw[decide_eq_false hneg,fM]
   exact hK _ (by omega)
theorem kM{a b:Int}(ha:Sm a)(hb:Sm b): -4611686018427387904<a*b∧a*b<4611686018427387904:=by
 unfold Sm at ha hb
 have h1:(a*b).natAbs=a.natAbs*b.natAbs:=Int.natAbs_mul a b
 have h2:a.natAbs*b.natAbs≤2147483647*2147483647:=Nat.mul_le_mul (by omega) (by omega)
 omega
theorem uz{a b:Int}(ha:0<a)(hb:0<b):0<a*b:=Int.mul_pos ha hb
section ops
variable {L M:Nat}{a b:Qr}{x y:Rat}
theorem hG.add(ha:hG L a x)(hb:hG M b y)(h:L+M≤4000000000):mw a b=some (qn (x+y))∧hG (L+M+1) (qn (x+y)) (x+y):=by
 refine⟨?_,(ha.fq.add hb.fq).rep (by omega)⟩
 obtain⟨n1,d1,c1,e1,k1⟩:=oY ha (by omega)
 obtain⟨n2,d2,c2,e2,k2⟩:=oY hb (by omega)
 obtain⟨p1,q1,f1,w1,w2,g1,v1,t1,t2⟩:=parts_eq ha (by omega)
 obtain⟨p2,q2,f2,w3,w4,g2,v2,t3,t4⟩:=parts_eq hb (by omega)
 have Hi:jr a b=some (qn (x+y)):=by
  unfold jr gW
  have u1:=fg (t1.mul t4) (by omega)
  have u2:=fg (t3.mul t2) (by omega)
  have u3:=fg (t2.mul t4) (by omega)
  have u4:=fg ((t1.mul t4).add ((t3.mul t2).mono (by omega))) (by omega)
  simp only[zeta',nT,nU,f1,f2,bH,mul_eq w1 w4,mul_eq w3 w2,add_eq u1 u2,mul_eq w2 w4,eG]
  rw[reduce_eq u4 u3 (by rw[eG];have:=uz g1 g2;omega),bH,eG,eG,←v1,←v2,Rat.divInt_add_divInt _ _ (by omega) (by omega)]
 unfold mw
 simp only[zeta',nT,nU,e1,e2,bH,cm,Hi]
 cases c1
 ·rw[fM,bH,fM]
 ·cases c2
  ·rw[eY,bH,fM]
  ·obtain⟨s1,s2,s3,s4⟩:=k1 Y
   obtain⟨s5,s6,s7,s8⟩:=k2 Y
   have m1:=kM s1 s7
   have m2:=kM s5 s3
   have m3:=kM s3 s7
   have m4:=uz s2 s6
   rw[eY,bH,eY,cC (x:=n1*d2) (by omega) (by omega),cC (x:=n2*d1) (by omega) (by omega),cC (x:=d1*d2) (by omega) (by omega),cC (by omega) (by omega),xK m4 (by omega) (by omega) (by omega),bH,←s4,←s8,Rat.divInt_add_divInt _ _ (by omega) (by omega)]
theorem hG.sub(ha:hG L a x)(hb:hG M b y)(h:L+M≤4000000000):my a b=some (qn (x-y))∧hG (L+M+1) (qn (x-y)) (x-y):=by
 refine⟨?_,(ha.fq.sub hb.fq).rep (by omega)⟩
 obtain⟨n1,d1,c1,e1,k1⟩:=oY ha (by omega)
 obtain⟨n2,d2,c2,e2,k2⟩:=oY hb (by omega)
 obtain⟨p1,q1,f1,w1,w2,g1,v1,t1,t2⟩:=parts_eq ha (by omega)
 obtain⟨p2,q2,f2,w3,w4,g2,v2,t3,t4⟩:=parts_eq hb (by omega)
 have Hi:jt a b=some (qn (x-y)):=by
  unfold jt gX
  have u1:=fg (t1.mul t4) (by omega)
  have u2:=fg (t3.mul t2) (by omega)
  have u3:=fg (t2.mul t4) (by omega)
  have u4:=fg ((t1.mul t4).sub ((t3.mul t2).mono (by omega))) (by omega)
  simp only[zeta',nT,nU,f1,f2,bH,mul_eq w1 w4,mul_eq w3 w2,sub_eq u1 u2,mul_eq w2 w4,eG]
  rw[reduce_eq u4 u3 (by rw[eG];have:=uz g1 g2;omega),bH,eG,eG,←v1,←v2,Rat.divInt_sub_divInt _ _ (by omega) (by omega)]
 unfold my
 simp only[zeta',nT,nU,e1,e2,bH,cm,Hi]
 cases c1
 ·rw[fM,bH,fM]
 ·cases c2
  ·rw[eY,bH,fM]
  ·obtain⟨s1,s2,s3,s4⟩:=k1 Y
   obtain⟨s5,s6,s7,s8⟩:=k2 Y
   have m1:=kM s1 s7
   have m2:=kM s5 s3
   have m3:=kM s3 s7
   have m4:=uz s2 s6
   rw[eY,bH,eY,cC (x:=n1*d2) (by omega) (by omega),cC (x:=n2*d1) (by omega) (by omega),cC (x:=d1*d2) (by omega) (by omega),cC (by omega) (by omega),xK m4 (by omega) (by omega) (by omega),bH,←s4,←s8,Rat.divInt_sub_divInt _ _ (by omega) (by omega)]
theorem hG.mul(ha:hG L a x)(hb:hG M b y)(h:L+M≤4000000000):kg a b=some (qn (x*y))∧hG (L+M) (qn (x*y)) (x*y):=by
 have l1:=ha.l1
 refine⟨?_,(ha.fq.mul hb.fq).rep (by omega)⟩
 obtain⟨n1,d1,c1,e1,k1⟩:=oY ha (by omega)
 obtain⟨n2,d2,c2,e2,k2⟩:=oY hb (by omega)
 obtain⟨p1,q1,f1,w1,w2,g1,v1,t1,t2⟩:=parts_eq ha (by omega)
 obtain⟨p2,q2,f2,w3,w4,g2,v2,t3,t4⟩:=parts_eq hb (by omega)
 have Hi:ju a b=some (qn (x*y)):=by
  unfold ju gY
  have u1:=fg (t1.mul t3) (by omega)
  have u3:=fg (t2.mul t4) (by omega)
  simp only[zeta',nT,nU,f1,f2,bH,mul_eq w1 w3,mul_eq w2 w4]
  rw[reduce_eq u1 u3 (by rw[eG];have:=uz g1 g2;omega),bH,eG,eG,←v1,←v2,Rat.divInt_mul_divInt]
 unfold kg
 simp only[zeta',nT,nU,e1,e2,bH,cm,Hi]
 cases c1
 ·rw[fM,bH,fM]
 ·cases c2
  ·rw[eY,bH,fM]
  ·obtain⟨s1,s2,s3,s4⟩:=k1 Y
   obtain⟨s5,s6,s7,s8⟩:=k2 Y
   have m1:=kM s1 s5
   have m3:=kM s3 s7
   have m4:=uz s2 s6
   rw[eY,bH,eY,cC (by omega) (by omega),cC (x:=d1*d2) (by omega) (by omega),xK m4 (by omega) (by omega) (by omega),bH,←s4,←s8,Rat.divInt_mul_divInt]
theorem hG.sign(ha:hG L a x)(h:L≤10000000000):jv a=some (lS x 0):=by
 unfold jv
 have wn:=ha.wn h
 have wd:=ha.wd h
 have hv:=ha.v
 simp only[zeta',bH,sign_eq wn,sign_eq wd]
 unfold qv qd at hv
 rcases Int.lt_trichotomy (zi a.den) 0 with h1|h1|h1
 ·rw[Int.sign_eq_neg_one_of_neg h1]
  rw[if_neg (by omega),←Rat.neg_divInt_neg]at hv
  rw[←hv,←pN (by omega),Int.sign_neg]
  show some (IntKind.i64.wrap (0-(zi a.num).sign))=_
  have:(zi a.num).sign=-1∨(zi a.num).sign=0∨(zi a.num).sign=1:=by
   rcases Int.lt_trichotomy (zi a.num) 0 with e|e|e
   ·left;exact Int.sign_eq_neg_one_of_neg e
   ·right;left;rw[e];rfl
   ·right;right;exact Int.sign_eq_one_of_pos e
  rw[cC (by omega) (by omega),Int.zero_sub]
 ·rw[if_pos h1]at hv
  rw[←hv,←pN (by omega),h1];rfl
 ·rw[if_neg (by omega)]at hv
  rw[Int.sign_eq_one_of_pos h1,←hv,←pN h1];rfl
theorem yG{x:Rat}:lS x 0=0↔x=0:=by
 unfold lS
 by_cases h:x<0
 ·rw[if_pos h]
  refine⟨λe=>absurd e (by decide),λe=>?_⟩
  rw[e]at h;exact absurd h Rat.lt_irrefl
 ·rw[if_neg h]
  by_cases h2:x=0
  ·rw[if_pos h2];simp[h2]
  ·rw[if_neg h2];simp[h2]
theorem hG.canon(ha:hG L a x)(h:L≤10000000000):eE a=some (qn x)∧hG L (qn x) x:=by
 refine⟨?_,ha.fq.rep ha.l1⟩
 obtain⟨n1,d1,c1,e1,k1⟩:=oY ha (by omega)
 obtain⟨p1,q1,f1,w1,w2,g1,v1,t1,t2⟩:=parts_eq ha (by omega)
 unfold eE
 simp only[zeta',nT,nU,e1,bH,f1]
 cases c1
 ·rw[fM,reduce_eq w1 w2 (by omega),bH,v1]
 ·obtain⟨s1,s2,s3,s4⟩:=k1 Y
  unfold Sm at s1 s3
  rw[eY,xK s2 (by omega) (by omega) (by omega),bH,s4]
end ops
end
section
open Go.Fw
theorem Dd{p q u v:Int}(hq:0<q)(hv:0<v)(h:p.sign≠u.sign∨p.sign=0):pG (IntKind.i64.wrap (p.sign-u.sign))=some (ko (p*v) (u*q)):=by
 have pv:0<p→0<p*v:=λh=>Int.mul_pos h hv
 have pv':p<0→p*v<0:=λh=>Int.mul_neg_of_neg_of_pos h hv
 have uq:0<u→0<u*q:=λh=>Int.mul_pos h hq
 have uq':u<0→u*q<0:=λh=>Int.mul_neg_of_neg_of_pos h hq
 rcases Int.lt_trichotomy p 0 with e1|e1|e1<;>rcases Int.lt_trichotomy u 0 with e2|e2|e2
 ·rw[Int.sign_eq_neg_one_of_neg e1,Int.sign_eq_neg_one_of_neg e2]at h;simp at h
 ·have:=pv' e1
  rw[Int.sign_eq_neg_one_of_neg e1,e2,Int.zero_mul,gZ this];rfl
 ·have:=pv' e1
  have:=uq e2
  rw[Int.sign_eq_neg_one_of_neg e1,Int.sign_eq_one_of_pos e2,gZ (by omega)];rfl
 ·have:=uq' e2
  rw[Int.sign_eq_neg_one_of_neg e2,e1,Int.zero_mul,g9 this];rfl
 ·rw[e1,e2,Int.zero_mul,Int.zero_mul];rfl
 ·have:=uq e2
  rw[Int.sign_eq_one_of_pos e2,e1,Int.zero_mul,gZ this];rfl
 ·have:=pv e1
  have:=uq' e2
  rw[Int.sign_eq_one_of_pos e1,Int.sign_eq_neg_one_of_neg e2,g9 (by omega)];rfl
 ·have:=pv e1
  rw[Int.sign_eq_one_of_pos e1,e2,Int.zero_mul,g9 this];rfl
 ·rw[Int.sign_eq_one_of_pos e1,Int.sign_eq_one_of_pos e2]at h;simp at h
theorem NW{x y:Rat}:lS x y=0↔x=y:=by
 unfold lS
 by_cases h:x<y
 ·rw[if_pos h]
  refine⟨λe=>absurd e (by decide),λe=>?_⟩
  rw[e]at h;exact absurd h Rat.lt_irrefl
 ·rw[if_neg h]
  by_cases h2:x=y
  ·rw[if_pos h2];simp[h2]
  ·rw[if_neg h2];simp[h2]
theorem Hj{x y:Rat}:lS x y<0↔x<y:=by
 unfold lS
 by_cases h:x<y
 ·rw[if_pos h];simp[h]
 ·rw[if_neg h]
  by_cases h2:x=y
  ·rw[if_pos h2];simp[h2,Rat.lt_irrefl]
  ·rw[if_neg h2];simp[h]
theorem NX{x y:Rat}:0<lS x y↔y<x:=by
 unfold lS
 by_cases h:x<y
 ·rw[if_pos h]
  have:¬y<x:=by grind
  simp[this]
 ·rw[if_neg h]
  by_cases h2:x=y
  ·rw[if_pos h2];simp[h2,Rat.lt_irrefl]
  ·rw[if_neg h2]
   have:y<x:=by grind
   simp[this]
theorem NY(i:Int):qn (i:Rat)=⟨zn i,⟨false,[]⟩⟩:=by
 unfold qn
 rw[Rat.den_intCast,if_pos Y,Rat.num_intCast]
section ops
variable {L M:Nat}{a b:Qr}{x y:Rat}
theorem hG.neg(ha:hG L a x)(h:L≤10000000000):jw a=some (qn (-x))∧hG L (qn (-x)) (-x):=by
 refine⟨?_,ha.fq.neg.rep ha.l1⟩
 unfold jw
 have r:=(ha.canon h).2
 simp only[zeta',nT,nU,(ha.canon h).1,bH,neg_eq (r.wn h)]
 show some (⟨zn (-zi (zn x.num)),_⟩:Qr)=some (qn (-x))
 rw[eG];rfl
theorem hG.cmp(ha:hG L a x)(hb:hG M b y)(h:L+M≤4000000000):mz a b=some (lS x y):=by
 obtain⟨p1,q1,f1,w1,w2,g1,v1,t1,t2⟩:=parts_eq ha (by omega)
 obtain⟨p2,q2,f2,w3,w4,g2,v2,t3,t4⟩:=parts_eq hb (by omega)
 unfold mz
 have u1:=fg (t1.mul t4) (by omega)
 have u2:=fg (t3.mul t2) (by omega)
 simp only[zeta',nT,nU,f1,f2,bH,cm,sign_eq w1,sign_eq w3,mul_eq w1 w4,mul_eq w3 w2,U1 u1 u2,eG]
 rw[←v1,←v2,Hg g1 g2]
 by_cases e1:(zi p1).sign=(zi p2).sign
 ·rw[show decide ((zi p1).sign≠(zi p2).sign)=false by simp[e1],fM,bH]
  by_cases e2:(zi p1).sign=0
  ·rw[decide_eq_true e2,eY,Dd g1 g2 (.inr e2),bH]
  ·rw[decide_eq_false e2,fM]
 ·rw[show decide ((zi p1).sign≠(zi p2).sign)=true by simp[e1],eY,bH,eY,Dd g1 g2 (.inl e1),bH]
theorem oc{n:Int}(hn:dD n):cZ n=some (qn (n:Rat))∧hG 2 (qn (n:Rat)) (n:Rat):=by
 refine⟨?_,(FQ.int (ou hn) (by decide)).rep (by decide)⟩
 unfold cZ
 simp only[zeta',bH,mD hn.1 hn.2]
 rw[NY]
theorem Hl{n d:Int}(h0:d≠0)(hn:Fit L n)(hd:Fit L d)(h:1≤L):hG L ⟨zn n,zn d⟩ (Rat.divInt n d):=by
 refine⟨λx hx=>fo (by decide) hx,λx hx=>fo (by decide) hx,(bT (by decide)).2 hn,(bT (by decide)).2 hd,h,?_⟩
 unfold qv qd
 simp only[eG]
 rw[if_neg h0]
end ops
end
section
open Go.Fw
def vq(n:Nat)(h:Nat→Rat):List Qr:=(List.range n).map λi=>qn (h i)
structure dI (L:Nat) (v:List Qr) (f:Nat→Rat):Prop where
 e:∀i (h:i<v.length),hG L v[i] (f i)
 z:∀i,v.length≤i→f i=0
 l1:1≤L
theorem gB(n:Nat)(h:Nat→Rat):(vq n h).length=n:=by simp[vq]
theorem Qd{n i:Nat}{h:Nat→Rat}(hi:i<(vq n h).length):(vq n h)[i]=qn (h i):=by simp[vq]
theorem Am(n:Nat)(h:Nat→Rat):vq (n+1) h=vq n h++[qn (h n)]:=by simp[vq,List.range_succ]
theorem xL{n:Nat}{h k:Nat→Rat}(e:∀i,i<n→h i=k i):vq n h=vq n k:=by
 unfold vq
 apply List.map_congr_left
 intro i hi
 rw[e i (List.mem_range.1 hi)]
theorem tW{L n:Nat}{h:Nat→Rat}(hf:∀i,i<n→FQ L (h i))(hz:∀i,n≤i→h i=0)(h1:1≤L):dI L (vq n h) h:=by
 refine⟨λi hi=>?_,λi hi=>hz i (by rwa[gB]at hi),h1⟩
 rw[Qd hi]
 exact(hf i (by rwa[gB]at hi)).rep h1
def qz:Qr:=⟨⟨false,[]⟩,⟨false,[]⟩⟩
theorem BO{L:Nat}(h:1≤L):hG L qz 0:=⟨by simp[qz],by simp[qz],by simp[qz],by simp[qz],h,by decide⟩
theorem Qe{L:Nat}(h:1≤L):FQ L 0:=(BO h).fq
def VL(v:List Qr)(i:Nat):Qr:=v.getD i qz
theorem dI.at{L:Nat}{v:List Qr}{f:Nat→Rat}(h:dI L v f)(i:Nat):hG L (VL v i) (f i):=by
 unfold VL
 by_cases hi:i<v.length
 ·rw[List.getD_eq_getElem?_getD,List.getElem?_eq_getElem hi];exact h.e i hi
 ·rw[List.getD_eq_getElem?_getD,List.getElem?_eq_none (by omega),h.z i (by omega)];exact BO h.l1
theorem dI.fq{L:Nat}{v:List Qr}{f:Nat→Rat}(h:dI L v f)(i:Nat):FQ L (f i):=(h.at i).fq
theorem dI.nil{L:Nat}(h:1≤L):dI L [] (λ_=>0):=⟨λi hi=>by simp at hi,λ_ _=>Y,h⟩
theorem dI.get{L:Nat}{v:List Qr}{f:Nat→Rat}(h:dI L v f){i:Nat}(hi:i<v.length):∃q,v[i]? =some q∧hG L q (f i):=⟨v[i],by simp,h.e i hi⟩
theorem dI.congr{L:Nat}{v:List Qr}{f g:Nat→Rat}(h:dI L v f)(e:∀i,f i=g i):dI L v g:=by
 have:f=g:=funext e
 rw[←this];exact h
def CH(v:List Qr)(i:Nat):Rat:=qv (VL v i)
theorem JY{L:Nat}{v:List Qr}(h:∀q∈v,hG L q (qv q))(h1:1≤L):dI L v (CH v):=by
 refine⟨λi hi=>?_,λi hi=>?_,h1⟩
 ·have e:VL v i=v[i]:=by unfold VL;rw[List.getD_eq_getElem?_getD,List.getElem?_eq_getElem hi];rfl
  unfold CH
  rw[e];exact h _ (List.getElem_mem hi)
 ·unfold CH VL
  rw[List.getD_eq_getElem?_getD,List.getElem?_eq_none hi];decide
def eN(h:Nat→Rat):Nat→Rat
 |0=>0
 |n+1=>eN h n+h n
theorem BP{h k:Nat→Rat}:∀{n:Nat},(∀i,i<n→h i=k i)→eN h n=eN k n
 |0,_=>rfl
 |n+1,e=>by rw[eN,eN,BP (λi hi=>e i (by omega)),e n (by omega)]
theorem De:∀n,eN (λ_=>0) n=0
 |0=>rfl
 |n+1=>by rw[eN,De n];grind
theorem NZ{h:Nat→Rat}{n m:Nat}(hnm:n≤m)(hz:∀i,n≤i→i<m→h i=0):eN h m=eN h n:=by
 induction m with
 |zero=>rw[show n=0 by omega]
 |succ m ih=>
  rcases Nat.lt_or_ge m n with q|q
  ·rw[show n=m+1 by omega]
  ·rw[eN,ih q (λi h1 h2=>hz i h1 (by omega)),hz m q (by omega)];grind
theorem JZ{L:Nat}{h:Nat→Rat}:∀{n:Nat},(∀i,i<n→FQ L (h i))→FQ (n*(L+1)+1) (eN h n)
 |0,_=>Qe (by omega)
 |n+1,e=>by
  rw[eN]
  exact((JZ (λi hi=>e i (by omega))).add (e n (by omega))).mono (by rw[Nat.add_mul];omega)
end
section
open Go.Fw
theorem Qf{α β:Type}(a:List α)(b:List β):min (a.length:Int) (b.length:Int)=((min a.length b.length:Nat):Int):=by omega
theorem dI.gd{L:Nat}{v:List Qr}{f:Nat→Rat}(h:dI L v f)(k:Nat):hG L (v.getD k (⟨⟨false,[]⟩,⟨false,[]⟩⟩:Qr)) (f k):=h.at k
theorem N0{n k:Nat}{h:Nat→Rat}(hk:k<n):(vq k h++List.replicate (n-k) qz).set k (qn (h k))=vq (k+1) h++List.replicate (n-(k+1)) qz:=by
 rw[show n-k=(n-(k+1))+1 by omega,List.replicate_succ,List.set_append_right _ _ (by rw[gB];exact Nat.le_refl _),gB,Nat.sub_self,Am,List.append_assoc];rfl
theorem An{n k:Nat}{h:Nat→Rat}(hk:k≤n):(vq k h++List.replicate (n-k) qz).length=n:=by rw[List.length_append,gB,List.length_replicate];omega
section ops
variable {K L M:Nat}{c:Qr}{a b:List Qr}{k:Rat}{f g:Nat→Rat}
theorem EM(hc:hG K c k)(ha:dI L a f)(h:K+L≤4000000000)(la:a.length≤1000000):fG c a=some (vq a.length λi=>k*f i)∧dI (K+L) (vq a.length λi=>k*f i) (λi=>k*f i):=by
 have Vo:=ha.l1
 refine⟨?_,tW (λi _=>hc.fq.mul (ha.fq i)) (λi hi=>?_) (by omega)⟩
 ·unfold fG
  obtain⟨⟨_,_⟩,⟨_,_⟩⟩:=c
  refine az Y<|az (tN (by omega) (by omega))<|az Y ?_
  refine bJ (λj=>((j:Int),vq j (λi=>k*f i)++List.replicate (a.length-j) qz)) a.length (vq a.length λi=>k*f i) Y (λj hj=>?_) ?_ Y
  ·obtain⟨q,hq,rq⟩:=ha.get hj
   have e3:=(hc.mul rq h).1
   obtain⟨q3,h3⟩:∃q,qn (k*f j)=q:=⟨_,Y⟩
   have h4:=N0 (h:=λi=>k*f i) hj
   rw[h3]at e3 h4
   obtain⟨⟨_,_⟩,⟨_,_⟩⟩:=q
   obtain⟨⟨_,_⟩,⟨_,_⟩⟩:=q3
   refine az Y<|cj (decide_eq_true (by omega))<|az (bN hq)<|az e3<|az (gk (by rw[An (by omega)];exact hj))<|az (jD (by rw[An (by omega)];exact hj))<|az Y ?_
   rw[b8 (by omega),h4]
  ·refine az Y<|cn (decide_eq_false (by omega)) ?_
   simp
 ·rw[ha.z i hi];grind
end ops
end
section
open Go.Fw
def oe(f g:Nat→Rat):Nat→Int
 |0=>0
 |n+1=>if oe f g n≠0 then oe f g n else lS (f n) (g n)
theorem K1{f g:Nat→Rat}{i n:Nat}(h0:oe f g i=0)(hi:i<n)(hc:lS (f i) (g i)≠0):oe f g n=lS (f i) (g i):=by
 induction n with
 |zero=>omega
 |succ n ih=>
  rw[oe]
  rcases Nat.lt_or_ge i n with q|q
  ·rw[ih q,if_pos hc]
  ·obtain rfl:i=n:=by omega
   rw[h0];simp
theorem oZ{f g:Nat→Rat}:∀{n:Nat},oe f g n=0↔∀i,i<n→f i=g i
 |0=>by simp[oe]
 |n+1=>by
  rw[oe]
  by_cases h:oe f g n=0
  ·rw[if_neg (by simpa using h),NW]
   have:=oZ.1 h
   refine⟨λe i hi=>?_,λe=>e n (by omega)⟩
   rcases Nat.lt_or_ge i n with q|q
   ·exact this i q
   ·obtain rfl:i=n:=by omega
    exact e
  ·rw[if_pos h]
   refine⟨λe=>absurd e h,λe=>absurd (oZ.2 (λi hi=>e i (by omega))) h⟩
section ops
variable {K L M:Nat}{c:Qr}{a b:List Qr}{k:Rat}{f g:Nat→Rat}
theorem aeM{x y z:Rat}{p q r:Qr}(hp:hG K p x)(hq:hG L q y)(hr:hG M r z)(hz:r=qn z)(h:K+L+M≤4000000000):m5 p q r=some (qn (z+x*y)):=by
 have e1:=hp.mul hq (by omega)
 have e2:=(hr.add e1.2 (by omega)).1
 have s1:=hp.sign (by omega)
 have s2:=hq.sign (by omega)
 replace e1:=e1.1
 obtain⟨⟨_,_⟩,⟨_,_⟩⟩:=p
 obtain⟨⟨_,_⟩,⟨_,_⟩⟩:=q
 obtain⟨⟨_,_⟩,⟨_,_⟩⟩:=r
 generalize qn (x*y)=w at e1 e2
 obtain⟨⟨_,_⟩,⟨_,_⟩⟩:=w
 unfold m5
 refine az s1<|az Y ?_
 by_cases h1:x=0
 ·refine az (cn (decide_eq_false (by rw[h1,Dc];simp)) Y) ?_
  rw[show z+x*y=z by rw[h1];grind,←hz];rfl
 ·by_cases h2:y=0
  ·refine az (cj (decide_eq_true (λe=>h1 (yG.1 e))) (az s2 (az Y Y))) ?_
   refine cn (decide_eq_false (by rw[h2,Dc];simp)) ?_
   rw[show z+x*y=z by rw[h2];grind,←hz]
  ·refine az (cj (decide_eq_true (λe=>h1 (yG.1 e))) (az s2 (az Y Y))) ?_
   refine cj (decide_eq_true (λe=>h2 (yG.1 e))) ?_
   obtain⟨w3,h3⟩:∃w,qn (z+x*y)=w:=⟨_,Y⟩
   rw[h3]at e2⊢
   obtain⟨⟨_,_⟩,⟨_,_⟩⟩:=w3
   exact az e1<|az e2 Y
theorem J0{n i:Nat}(hi:i<n):(a.take n).getD i (⟨⟨false,[]⟩,⟨false,[]⟩⟩:Qr)=a.getD i (⟨⟨false,[]⟩,⟨false,[]⟩⟩:Qr):=by
 simp[List.getD,List.getElem?_take,hi]
theorem BW(q:Qr):(⟨⟨(q.num.neg,q.num.w,q.den.neg,q.den.w).1,(q.num.neg,q.num.w,q.den.neg,q.den.w).2.1⟩,⟨(q.num.neg,q.num.w,q.den.neg,q.den.w).2.2.1,(q.num.neg,q.num.w,q.den.neg,q.den.w).2.2.2⟩⟩:Qr)=q:=by cases q;rfl
theorem U5(ha:dI L a f)(hb:dI M b g)(h:(min a.length b.length+2)*(L+M+1)≤4000000000):iT a b=some (qn (eN (λi=>f i*g i) (min a.length b.length)))∧hG (min a.length b.length*(L+M+1)+1) (qn (eN (λi=>f i*g i) (min a.length b.length))) (eN (λi=>f i*g i) (min a.length b.length)):=by
 have hs:∀n,FQ (n*(L+M+1)+1) (eN (λi=>f i*g i) n):=λn=>JZ (λi _=>(ha.fq i).mul (hb.fq i))
 refine⟨?_,(hs _).rep (by omega)⟩
 unfold iT
 have hm:∀n:Nat,n≤min a.length b.length→n*(L+M+1)≤min a.length b.length*(L+M+1):=λn hn=>Nat.mul_le_mul_right _ hn
 rw[Nat.add_mul]at h
 refine az Y<|az Y<|az (congrArg some (Qf a b))<|az (om (by omega))<|az (om (by omega)) ?_
 rw[show max (a.take (min a.length b.length)).length (b.take (min a.length b.length)).length=min a.length b.length by simp only[List.length_take];omega]
 refine rG (λj=>((qn (eN (λi=>f i*g i) j)).num.neg,(qn (eN (λi=>f i*g i) j)).num.w,(qn (eN (λi=>f i*g i) j)).den.neg,(qn (eN (λi=>f i*g i) j)).den.w)) Y (λj hj=>?_) Y
 have hmj:=hm j (by omega)
 have e1:=aeM (ha.gd j) (hb.gd j) ((hs j).rep (by omega)) Y (by omega)
 simp only[eN]
 generalize hq0:qn (eN (λi=>f i*g i) j)=q0 at e1⊢
 generalize hq3:qn (eN (λi=>f i*g i) j+f j*g j)=q3 at e1⊢
 rw[←J0 (a:=a) hj,←J0 (a:=b) hj]at e1
 generalize (a.take (min a.length b.length)).getD j (⟨⟨false,[]⟩,⟨false,[]⟩⟩:Qr)=q1 at e1⊢
 generalize (b.take (min a.length b.length)).getD j (⟨⟨false,[]⟩,⟨false,[]⟩⟩:Qr)=q2 at e1⊢
 obtain⟨⟨_,_⟩,⟨_,_⟩⟩:=q0
 obtain⟨⟨_,_⟩,⟨_,_⟩⟩:=q1
 obtain⟨⟨_,_⟩,⟨_,_⟩⟩:=q2
 obtain⟨⟨_,_⟩,⟨_,_⟩⟩:=q3
 exact az Y<|az Y<|az e1 Y
theorem aeN(ha:dI L a f)(hb:dI M b g)(h:L+M≤4000000000):jS a b=some (oe f g (max a.length b.length)):=by
 unfold jS
 generalize max a.length b.length=n
 refine az (a:=if oe f g n≠0 then .inr (oe f g n)else .inl ()) ?_ ?_
 ·induction n with
  |zero=>rfl
  |succ n ih=>
   rw[nF]
   refine az ih ?_
   by_cases h0:oe f g n=0
   ·have hl:oe f g (n+1)=lS (f n) (g n):=by rw[oe,if_neg (by simpa using h0)]
    rw[hl,if_neg (show ¬oe f g n≠0 by simpa using h0)]
    have e1:=(ha.gd n).cmp (hb.gd n) h
    generalize a.getD n (⟨⟨false,[]⟩,⟨false,[]⟩⟩:Qr)=q1 at e1⊢
    generalize b.getD n (⟨⟨false,[]⟩,⟨false,[]⟩⟩:Qr)=q2 at e1⊢
    obtain⟨⟨_,_⟩,⟨_,_⟩⟩:=q1
    obtain⟨⟨_,_⟩,⟨_,_⟩⟩:=q2
    refine az Y<|az Y<|az e1<|az Y ?_
    by_cases h1:lS (f n) (g n)=0
    ·rw[if_neg (by simpa using h1)];exact cn (decide_eq_false (by simpa using h1)) Y
    ·rw[if_pos h1];exact cj (decide_eq_true h1) Y
   ·have hl:oe f g (n+1)=oe f g n:=by rw[oe,if_pos h0]
    rw[hl,if_pos h0]
 ·by_cases h0:oe f g n=0
  ·rw[if_neg (by simpa using h0),h0]
  ·rw[if_pos h0]
theorem VM(ha:dI L a f)(hb:dI M b g)(h:L+M≤4000000000):fH a b=some (decide (∀i,i<max a.length b.length→f i=g i)):=by
 unfold fH
 refine az (aeN ha hb h)<|az Y ?_
 congr 1
 rw[decide_eq_decide];exact oZ
theorem aeO(ha:dI L a f)(hb:dI M b g)(h:L+M≤4000000000)(e:∀i,f i=g i):fH a b=some true:=by
 rw[VM ha hb h,decide_eq_true (λi _=>e i)]
end ops
end
section
open Go.Fw
theorem rK{l:List Nat}(h:EK l):gu l<65536^l.length:=fC l h.1
theorem tm{a:Nat}:Int.tmod (a:Int) 65536=((a%65536:Nat):Int):=by
 rw[Int.tmod_eq_emod_of_nonneg (by omega)];omega
theorem td{a:Nat}:Int.tdiv (a:Int) 65536=((a/65536:Nat):Int):=by
 rw[Int.tdiv_eq_ediv_of_nonneg (by omega)];omega
theorem EN(l k:List Nat)(hl:EK l)(hk:EK k):iy (zl l) (zl k)=some (vW (gu l) (gu k)):=by
 unfold iy
 simp only[bH]
 rw[dO,dO,show max (l.length:Int) (k.length:Int)=((max l.length k.length:Nat):Int) by omega,cC (by have:=hl.2;have:=hk.2;omega) (by have:=hl.2;have:=hk.2;omega)]
 have h1:gu l<65536^(max l.length k.length):=Nat.lt_of_lt_of_le (rK hl) (Nat.pow_le_pow_right (by decide) (by omega))
 have h2:gu k<65536^(max l.length k.length):=Nat.lt_of_lt_of_le (rK hk) (Nat.pow_le_pow_right (by decide) (by omega))
 have hm:max l.length k.length≤100000000000:=by have:=hl.2;have:=hk.2;omega
 have a1:=zx hl.1
 have a2:=zx hk.1
 generalize gu l=V at*
 generalize gu k=W at*
 generalize max l.length k.length=n at*
 refine fR (λy=>∃m:Nat,y=(m:Int)-1∧m≤n∧V/65536^m=W/65536^m) (λe=>(∃c,e=.inl c∧V=W)∨e=.inr (vW V W)) (λy=>(y+1).toNat) ?_ ⟨n,Y,Nat.le_refl _,by rw[Nat.div_eq_of_lt h1,Nat.div_eq_of_lt h2]⟩ ?_
 ·rintro _ ⟨m,rfl,hmn,he⟩
  rcases m with _|m
  ·right
   refine⟨_,Y,.inl ⟨_,Y,?_⟩⟩
   simpa using he
  ·rw[show((m+1:Nat):Int)-1=(m:Int) by omega,show decide ((0:Int)≤(m:Int))=true by simp,eY,a1,bH,a2,bH]
   rcases Da he with⟨hd,hq⟩|⟨hd,hlt⟩|⟨hd,hlt⟩
   ·left
    rw[hd,show decide (((W/65536^m%65536:Nat):Int)<((W/65536^m%65536:Nat):Int))=false by simp,fM,bH,bH,show decide (((W/65536^m%65536:Nat):Int)<((W/65536^m%65536:Nat):Int))=false by simp,fM,cC (by omega) (by omega)]
    exact⟨_,Y,⟨m,Y,by omega,hq⟩,by omega⟩
   ·right
    rw[show decide (((V/65536^m%65536:Nat):Int)<((W/65536^m%65536:Nat):Int))=true by rw[decide_eq_true_eq];omega,eY]
    exact⟨_,Y,.inr (by rw[pM hlt])⟩
   ·right
    rw[show decide (((V/65536^m%65536:Nat):Int)<((W/65536^m%65536:Nat):Int))=false by rw[decide_eq_false_iff_not];omega,fM,bH,bH,show decide (((W/65536^m%65536:Nat):Int)<((V/65536^m%65536:Nat):Int))=true by rw[decide_eq_true_eq];omega,eY]
    exact⟨_,Y,.inr (by rw[rJ hlt])⟩
 ·rintro e (⟨c,rfl,rfl⟩|rfl)
  ·rw[uw]
  ·rfl
theorem EO(l k:List Nat)(hl:EK l)(hk:EK k):gJ (zl l) (zl k)=some (zl (can 65536 (gu l+gu k))):=by
 unfold gJ
 have h1:gu l<65536^(max l.length k.length):=Nat.lt_of_lt_of_le (rK hl) (Nat.pow_le_pow_right (by decide) (by omega))
 have h2:gu k<65536^(max l.length k.length):=Nat.lt_of_lt_of_le (rK hk) (Nat.pow_le_pow_right (by decide) (by omega))
 have hm:max l.length k.length≤100000000000:=by have:=hl.2;have:=hk.2;omega
 have a1:=zx hl.1
 have a2:=zx hk.1
 rw[dO,dO]
 generalize gu l=V at*
 generalize gu k=W at*
 refine fR (λs=>∃i:Nat,s=(((Ai 65536 V W i:Nat):Int),(i:Int),zl (ep 65536 i (V+W)))∧i≤max l.length k.length+1) (λe=>∃i,e=zl (ep 65536 i (V+W))∧V+W<65536^i∧i≤max l.length k.length+1) (λs=>max l.length k.length+1-s.2.1.toNat) ?_ ⟨0,by rw[BI];rfl,by omega⟩ ?_
 ·rintro _ ⟨i,rfl,hi⟩
  have hc:=BG (B:=65536) (by decide) V W i
  have Le:=BH (B:=65536) (by decide) V W i
  have zC:=Aj (B:=65536) (by decide) V W i
  have d1:=Nat.mod_lt (V/65536^i) (show 0<65536 by decide)
  have d2:=Nat.mod_lt (W/65536^i) (show 0<65536 by decide)
  simp only[bH,cm]
  have wz:∀(K:Bool→Option ((Int×Int×List Int)⊕List Int)),(((bif decide ((i:Int)<(l.length:Int))then some true else some (decide ((i:Int)<(k.length:Int)))):Option Bool).bind λc=>((bif c then some true else some (decide ((0:Int)<((Ai 65536 V W i:Nat):Int)))):Option Bool).bind K)=K (decide (i<max l.length k.length∨0<Ai 65536 V W i)):=by
   intro K
   by_cases q1:i<l.length
   ·have:i<max l.length k.length:=by omega
    simp[q1,this]
   ·by_cases q2:i<k.length
    ·have:i<max l.length k.length:=by omega
     simp[q1,q2,this]
    ·have:¬i<max l.length k.length:=by omega
     simp[q1,q2,this]
  rw[wz]
  by_cases Hy:i<max l.length k.length∨0<Ai 65536 V W i
  ·left
   have hi':i<max l.length k.length+1:=by
    rcases Nat.lt_or_ge i (max l.length k.length+1)with h|h
    ·exact h
    ·have hie:i=max l.length k.length+1:=by omega
     have hp:65536^i=65536^(max l.length k.length)*65536:=by rw[hie,Nat.pow_succ]
     have g3:=EA (B:=65536) (V:=V) (W:=W) (k:=i) (by omega) (by omega)
     rw[Nat.div_eq_of_lt (by omega)]at g3
     omega
   rw[show decide (i<max l.length k.length∨0<Ai 65536 V W i)=true by rw[decide_eq_true_eq];exact Hy,eY,a1,bH,a2,bH,lN (by omega),lN (by omega),tm,td,Le,zC,vU (by decide) (by rw[dO,bG];omega),bH,gj (by have:=BG (B:=65536) (by decide) V W (i+1);omega),b8 (by omega)]
   refine⟨_,Y,⟨i+1,?_,by omega⟩,by simp only[];omega⟩
   rw[iq,EJ,IZ]
  ·right
   rw[show decide (i<max l.length k.length∨0<Ai 65536 V W i)=false by rw[decide_eq_false_iff_not];exact Hy,fM]
   refine⟨_,Y,i,Y,?_,hi⟩
   have g1:V<65536^i:=Nat.lt_of_lt_of_le h1 (Nat.pow_le_pow_right (by decide) (by omega))
   have g2:W<65536^i:=Nat.lt_of_lt_of_le h2 (Nat.pow_le_pow_right (by decide) (by omega))
   have g3:=EA (B:=65536) g1 g2
   rcases Nat.lt_or_ge (V+W) (65536^i)with h|h
   ·exact h
   ·have:=Nat.div_pos h (Nat.pow_pos (by decide));omega
 ·rintro _ ⟨i,rfl,hlt,hi⟩
  rw[jH _ (by rw[bG];omega),bH,ny (by decide) hlt]
theorem Ao(l k:List Nat)(hl:EK l)(hk:EK k)(hle:gu k≤gu l):fI (zl l) (zl k)=some (zl (can 65536 (gu l-gu k))):=by
 unfold fI
 have h1:=rK hl
 have hm:=hl.2
 have a1:=zx hl.1
 have a2:=zx hk.1
 rw[dO]
 generalize gu l=V at*
 generalize gu k=W at*
 refine bJ (λi=>(((1-yD 65536 V W i:Nat):Int),(i:Int),zl (ep 65536 i (V-W)))) l.length (zl (ep 65536 l.length (V-W))) ?_ (λi hi=>?_) ?_ ?_
 ·rw[BJ];rfl
 ·have hc:=IQ (B:=65536) (by decide) V W i
  have Le:=BK (B:=65536) (by decide) V W i
  have zC:=EB (B:=65536) (by decide) hle i
  have d1:=Nat.mod_lt (V/65536^i) (show 0<65536 by decide)
  have d2:=Nat.mod_lt (W/65536^i) (show 0<65536 by decide)
  simp only[bH,cm]
  rw[show decide ((i:Int)<(l.length:Int))=true by simp[hi],eY,a1,bH,a2,bH]
  rw[←Le,iq,EJ,IZ,←zC]
  generalize V/65536^i%65536=a at*
  generalize W/65536^i%65536=b at*
  generalize yD 65536 V W i=c at*
  rw[cC (x:=(a:Int)-(b:Int)) (by omega) (by omega),cC (x:=(a:Int)-(b:Int)-((1-c:Nat):Int)) (by omega) (by omega)]
  by_cases hn:(a:Int)-(b:Int)-((1-c:Nat):Int)<0
  ·rw[show decide ((a:Int)-(b:Int)-((1-c:Nat):Int)<0)=true by rw[decide_eq_true_eq];exact hn,eY,cC (by omega) (by omega),vU (by decide) (by rw[dO,bG];omega),bH,b8 (by omega)]
   rw[show(a:Int)-(b:Int)-((1-c:Nat):Int)+65536=(((a+(65536-1-b)+c)%65536:Nat):Int) by omega,show(1-(a+(65536-1-b)+c)/65536)=1 by omega]
   rfl
  ·rw[show decide ((a:Int)-(b:Int)-((1-c:Nat):Int)<0)=false by rw[decide_eq_false_iff_not];exact hn,fM,vU (by decide) (by rw[dO,bG];omega),bH,b8 (by omega)]
   rw[show(a:Int)-(b:Int)-((1-c:Nat):Int)=(((a+(65536-1-b)+c)%65536:Nat):Int) by omega,show(1-(a+(65536-1-b)+c)/65536)=0 by omega]
   rfl
 ·simp
 ·rw[jH _ (by rw[bG];omega),bH,ny (by decide) (by omega)]
theorem uA(l:List Nat)(hl:∀x∈l,x<65536)(hn:l.length≤3):dY (zl l)=some ((gu l:Nat):Int):=by
 unfold dY
 simp only[bH]
 have hV:gu l<65536^l.length:=fC l hl
 have hp:65536^l.length≤65536^3:=Nat.pow_le_pow_right (by decide) hn
 rw[show(65536:Nat)^3=281474976710656 by decide]at hp
 rw[dO,cC (by omega) (by omega)]
 refine bJ (λj=>(((gu l/65536^(l.length-j):Nat):Int),(l.length:Int)-1-(j:Int))) l.length ((gu l:Nat):Int) ?_ (λj hj=>?_) ?_ Y
 ·rw[show l.length-0=l.length by omega,Nat.div_eq_of_lt hV];simp
 ·obtain⟨m,hm⟩:∃m,l.length=m+j+1:=⟨l.length-j-1,by omega⟩
  have hg:=jZ hl (i:=m) (by omega)
  have hst:=xD 65536 (gu l) m
  have Sx:gu l/65536^m≤gu l:=Nat.div_le_self _ _
  rw[show l.length-j=m+1 by omega,show l.length-(j+1)=m by omega,show(l.length:Int)-1-(j:Int)=(m:Int) by omega,show(l.length:Int)-1-((j+1:Nat):Int)=(m:Int)-1 by omega]
  have hd:=Nat.mod_lt (gu l/65536^m) (show 0<65536 by decide)
  simp only[]
  rw[show decide ((0:Int)≤(m:Int))=true by simp,eY,bN (vZ hg),bH]
  generalize gu l/65536^(m+1)=c at*
  generalize gu l/65536^m=d at*
  rw[cC (x:=(c:Int)*65536) (by omega) (by omega),cC (x:=(c:Int)*65536+((d%65536:Nat):Int)) (by omega) (by omega),cC (x:=(m:Int)-1) (by omega) (by omega),show(c:Int)*65536+((d%65536:Nat):Int)=(d:Int) by omega]
 ·simp only[]
  rw[show decide ((0:Int)≤(l.length:Int)-1-(l.length:Int))=false by rw[decide_eq_false_iff_not];omega,fM,Nat.sub_self,Nat.pow_zero,Nat.div_one]
theorem BQ(x:Nat)(hx:x<281474976710656):iJ (x:Int)=some (zl (can 65536 x)):=by
 unfold iJ
 simp only[bH]
 rw[tm,td,gj (by omega),tm,td,gj (by omega)]
 have:[((x%65536:Nat):Int),((x/65536%65536:Nat):Int),((x/65536/65536:Nat):Int)]=zl [x%65536,x/65536%65536,x/65536/65536]:=rfl
 rw[this,jH _ (by simp),bH,jF (B:=65536) (by decide) (by intro y hy;simp at hy;omega)]
 congr 3
 simp[val]
 omega
theorem yH(l:List Nat)(f:Nat)(hl:EK l)(hf:f<65536):dZ (zl l) (f:Int)=some (zl (can 65536 (gu l*f))):=by
 unfold dZ
 have h1:=rK hl
 have hm:=hl.2
 have a1:=zx hl.1
 rw[dO]
 generalize gu l=V at*
 have tZ:=λi=>NF (B:=65536) (V:=V) (f:=f) (e:=0) (by decide) hf (by decide) i
 refine fR (λs=>∃i:Nat,s=(((sC 65536 V f 0 i:Nat):Int),(i:Int),zl (ep 65536 i (V*f)))∧i≤l.length+1) (λe=>∃i,e=zl (ep 65536 i (V*f))∧V*f<65536^i∧i≤l.length+1) (λs=>l.length+1-s.2.1.toNat) ?_ ⟨0,by rw[ED];rfl,by omega⟩ ?_
 ·rintro _ ⟨i,rfl,hi⟩
  have hc:=tZ i
  have hc1:=tZ (i+1)
  have Le:=EE (B:=65536) (by decide) V f 0 i
  have zC:=IU (B:=65536) (by decide) V f 0 i
  have d1:=Nat.mod_lt (V/65536^i) (show 0<65536 by decide)
  have hp:V/65536^i%65536*f≤65535*65535:=Nat.mul_le_mul (by omega) (by omega)
  rw[Nat.add_zero]at zC
  simp only[bH,cm]
  have wz:∀(K:Bool→Option ((Int×Int×List Int)⊕List Int)),(((bif decide ((i:Int)<(l.length:Int))then some true else some (decide ((0:Int)<((sC 65536 V f 0 i:Nat):Int)))):Option Bool).bind K)=K (decide (i<l.length∨0<sC 65536 V f 0 i)):=by
   intro K
   by_cases q1:i<l.length
   ·simp[q1]
   ·simp[q1]
  rw[wz]
  by_cases Hy:i<l.length∨0<sC 65536 V f 0 i
  ·left
   have hi':i<l.length+1:=by
    rcases Nat.lt_or_ge i (l.length+1)with h|h
    ·exact h
    ·have hie:i=l.length+1:=by omega
     have g3:=IV (B:=65536) (V:=V) (f:=f) (e:=0) (i:=i) (Nat.lt_of_lt_of_le h1 (Nat.pow_le_pow_right (by decide) (by omega)))
     rw[Nat.add_zero,Nat.div_eq_of_lt]at g3
     ·omega
     ·rw[hie,Nat.pow_succ];exact Nat.mul_lt_mul'' h1 hf
   rw[show decide (i<l.length∨0<sC 65536 V f 0 i)=true by rw[decide_eq_true_eq];exact Hy,eY,a1,bH,←Int.natCast_mul,gj (by omega),lN (by omega),tm,td,Le,zC,vU (by decide) (by rw[dO,bG];omega),bH,gj (by omega),b8 (by omega)]
   refine⟨_,Y,⟨i+1,?_,by omega⟩,by simp only[];omega⟩
   rw[iq,EJ,IZ]
  ·right
   rw[show decide (i<l.length∨0<sC 65536 V f 0 i)=false by rw[decide_eq_false_iff_not];exact Hy,fM]
   refine⟨_,Y,i,Y,?_,hi⟩
   have g3:=IV (B:=65536) (V:=V) (f:=f) (e:=0) (i:=i) (Nat.lt_of_lt_of_le h1 (Nat.pow_le_pow_right (by decide) (by omega)))
   rw[Nat.add_zero]at g3
   rcases Nat.lt_or_ge (V*f) (65536^i)with h|h
   ·exact h
   ·have:=Nat.div_pos h (Nat.pow_pos (by decide));omega
 ·rintro _ ⟨i,rfl,hlt,hi⟩
  rw[jH _ (by rw[bG];omega),bH,ny (by decide) hlt]
end
section
open Go.Fw
theorem cG(v:Nat):gu (can 65536 v)=v:=jN (by decide) v
theorem EP{v n:Nat}(h:v<65536^n)(hn:n≤100000000000):EK (can 65536 v):=⟨λ_ hx=>fo (by decide) hx,Nat.le_trans ((bT (by decide)).2 h) hn⟩
theorem Qg(l k:List Nat)(hl:EK l)(hk:EK k)(hs:l.length+k.length≤90000000000):nf (zl l) (zl k)=some (zl (can 65536 (gu l*gu k))):=by
 unfold nf
 have hV:=rK hl
 have hW:=rK hk
 simp only[bH]
 rw[dO,dO,lN (by omega)]
 by_cases h3:l.length+k.length≤3
 ·rw[show decide (((l.length+k.length:Nat):Int)≤3)=true by rw[decide_eq_true_eq];omega,eY,uA l hl.1 (by omega),bH,uA k hk.1 (by omega),bH,←Int.natCast_mul]
  have hlt:gu l*gu k<281474976710656:=by
   have h1:gu l*gu k<65536^l.length*65536^k.length:=Nat.mul_lt_mul'' hV hW
   rw[←Nat.pow_add]at h1
   have h2:65536^(l.length+k.length)≤65536^3:=Nat.pow_le_pow_right (by decide) h3
   rw[show(65536:Nat)^3=281474976710656 by decide]at h2
   omega
  rw[gj (by omega),BQ _ hlt,bH]
 ·rw[show decide (((l.length+k.length:Nat):Int)≤3)=false by rw[decide_eq_false_iff_not];omega,fM,cC (by omega) (by omega)]
  refine fR (λs=>∃(u:List Nat) (m:Nat),s=(zl u,(m:Int)-1)∧m≤l.length∧(∀x∈u,x<65536)∧gu u=gu l/65536^m*gu k∧u.length+m≤l.length+k.length) (λe=>∃u:List Nat,e=zl u∧(∀x∈u,x<65536)∧gu u=gu l*gu k∧u.length≤l.length+k.length) (λs=>(s.2+1).toNat) ?_ ⟨[],l.length,Y,Nat.le_refl _,by simp,by rw[Nat.div_eq_of_lt hV];simp[gu,val],by simp⟩ ?_
  ·rintro _ ⟨u,m,rfl,hm,hu,huv,OK⟩
   simp only[]
   rcases m with _|m
   ·right
    refine⟨_,Y,u,Y,hu,?_,by omega⟩
    rw[huv,Nat.pow_zero,Nat.div_one]
   ·left
    have hg:=jZ hl.1 (i:=m) (by omega)
    obtain⟨d,hd⟩:∃d,gu l/65536^m%65536=d:=⟨_,Y⟩
    have Sx:d<65536:=by rw[←hd];exact Nat.mod_lt _ (by decide)
    rw[show val 65536 l/65536^m%65536=d from hd]at hg
    have hst:=xD 65536 (gu l) m
    rw[hd]at hst
    have hgi:=bN (vZ hg)
    have hA:gu l/65536^m<65536^(l.length-m):=by
     rw[Nat.div_lt_iff_lt_mul (Nat.pow_pos (by decide)),←Nat.pow_add,show l.length-m+m=l.length by omega];exact hV
    have hAW:gu l/65536^m*gu k<65536^(l.length-m+k.length):=by rw[Nat.pow_add];exact Nat.mul_lt_mul'' hA hW
    rw[show((m+1:Nat):Int)-1=(m:Int) by omega,show decide ((0:Int)≤(m:Int))=true by simp,eY,PL (by decide) (by rw[dO];simp;omega),bH]
    have h0:[(0:Int)]++zl u=zl (0::u):=rfl
    have Zo:gu (0::u)=65536*(gu l/65536^(m+1))*gu k:=by
     show 0+65536*gu u=_
     rw[huv,Nat.zero_add,Nat.mul_assoc]
    rw[h0]
    refine(show ∀(X:Option ((List Int×Int)⊕List Int)),(∃w:List Nat,X=some (.inl (zl w,IntKind.i64.wrap ((m:Int)-1)))∧(∀x∈w,x<65536)∧gu w=gu l/65536^m*gu k∧w.length+m≤l.length+k.length)→∃s',X=some (.inl s')∧(∃(u:List Nat) (m:Nat),s'=(zl u,(m:Int)-1)∧m≤l.length∧(∀x∈u,x<65536)∧gu u=gu l/65536^m*gu k∧u.length+m≤l.length+k.length)∧(s'.2+1).toNat<((m:Int)+1).toNat from ?_) _ ?_
    ·rintro X ⟨w,rfl,hw,Yo,hwl⟩
     rw[cC (by omega) (by omega)]
     exact⟨_,Y,⟨w,m,Y,by omega,hw,Yo,hwl⟩,by simp only[];omega⟩
    ·have Yp:=lO (body:=λ(R6:(List Int)×Int)=>
         match R6 with
         |⟨Bs,zo⟩=>
          (show Option (((List Int)×Int)⊕((List Int)))from
           (cQ (zl l) (m:Int)).bind λmS=>
           (bif decide ((zo:Int)<mS)then
             (cQ (zl l) (m:Int)).bind λr7=>
             (dZ (zl k) (min (1024:Int) (IntKind.i64.wrap (r7-zo)))).bind λsE=>
             (gJ Bs sE).bind λyf=>
             some (.inl (yf,IntKind.i64.wrap (zo+1024)))
            else
             some (.inr Bs)))) (s:=(zl (0::u),(0:Int))) (f:=λxm=>(some (.inl (xm,IntKind.i64.wrap ((m:Int)-1))):Option ((List Int×Int)⊕List Int)))
      (Q:=λr=>∃w:List Nat,r=.inl (zl w,IntKind.i64.wrap ((m:Int)-1))∧(∀x∈w,x<65536)∧gu w=gu l/65536^m*gu k∧w.length+m≤l.length+k.length)
      (λs=>∃(w:List Nat) (j:Nat),s=(zl w,(j:Int))∧(∀x∈w,x<65536)∧j≤70000∧gu w=(65536*(gu l/65536^(m+1))+min j d)*gu k∧w.length+m≤l.length+k.length)
      (λe=>∃w:List Nat,e=zl w∧(∀x∈w,x<65536)∧gu w=gu l/65536^m*gu k∧w.length+m≤l.length+k.length) (λs=>(70000-s.2).toNat) ?_ ⟨0::u,0,Y,by simp;exact hu,by omega,by rw[Zo];simp,by simp;omega⟩ ?_
     ·obtain⟨r,h1,w,rfl,h2,h3,h4⟩:=Yp
      exact⟨w,h1,h2,h3,h4⟩
     ·rintro _ ⟨w,j,rfl,hw,hj,Yo,hwl⟩
      simp only[]
      rw[hgi,bH]
      by_cases Kk:j<d
      ·left
       rw[show decide ((j:Int)<(d:Int))=true by simp[Kk],eY,bH,cC (by omega) (by omega)]
       obtain⟨f,hf⟩:∃f,min 1024 (d-j)=f:=⟨_,Y⟩
       obtain⟨j',hj',hj2⟩:∃j':Nat,(j:Int)+1024=(j':Int)∧j'=j+1024:=⟨j+1024,by omega,Y⟩
       have hmu:(70000-(j':Int)).toNat<(70000-(j:Int)).toNat:=by omega
       have hwH:EK w:=⟨hw,by omega⟩
       have aeR:65536*(gu l/65536^(m+1))+min j d+f≤gu l/65536^m:=by omega
       have aeS:gu w+gu k*f≤gu l/65536^m*gu k:=by
        rw[Yo,Nat.mul_comm (gu k),←Nat.add_mul];exact Nat.mul_le_mul_right _ aeR
       have htl:gu k*f<65536^(k.length+1):=by rw[Nat.pow_succ];exact Nat.mul_lt_mul'' hW (by omega)
       rw[show min (1024:Int) ((d:Int)-(j:Int))=(f:Int) by omega,yH _ _ hk (by omega),bH,EO _ _ hwH (EP htl (by omega)),bH,cG,hj',gj (by omega)]
       refine⟨_,Y,⟨_,j',Y,λ_ hx=>fo (by decide) hx,by omega,?_,?_⟩,hmu⟩
       ·rw[cG,Yo,Nat.mul_comm (gu k),←Nat.add_mul];congr 1;omega
       ·have:=(bT (B:=65536) (by decide)).2 (Nat.lt_of_le_of_lt aeS hAW)
        omega
      ·right
       rw[show decide ((j:Int)<(d:Int))=false by rw[decide_eq_false_iff_not];omega,fM]
       refine⟨_,Y,w,Y,hw,?_,hwl⟩
       rw[Yo,show min j d=d by omega,←hst]
     ·rintro _ ⟨w,rfl,h1,h2,h3⟩
      exact⟨_,Y,w,Y,h1,h2,h3⟩
  ·rintro _ ⟨u,rfl,hu,huv,OK⟩
   rw[jH _ (by omega),bH,jF (by decide) hu,show val 65536 u=gu l*gu k from huv]
end
section
open Go.Fw
theorem td2{a:Nat}:Int.tdiv (a:Int) 2=((a/2:Nat):Int):=by
 rw[Int.tdiv_eq_ediv_of_nonneg (by omega)];omega
theorem Qh(a b:Nat):decide (vW a b≤0)=decide (a≤b):=by
 rcases Nat.lt_trichotomy a b with h|h|h
 ·rw[pM h];simp;omega
 ·rw[h,uw];simp
 ·rw[rJ h];simp;omega
theorem N1{B:Nat}(hB:0<B){d:Nat}(hd:0<d)(V m:Nat):(V/B^(m+1)%d*B+V/B^m%B)/d=V/d/B^m%B:=by
 have h1:=Ss (B:=B) hd V m
 have h2:=PW (B:=B) hB hd V m
 rw[Nat.div_div_eq_div_mul V d,Nat.mul_comm d,←Nat.div_div_eq_div_mul,h1,Nat.mul_add_mod]
 symm
 apply Nat.mod_eq_of_lt
 rw[Nat.div_lt_iff_lt_mul hd,Nat.mul_comm B d];exact h2
theorem Ho{a b:Nat}(h:b≠0)(ha:a≤9223372036854775807):rX (a:Int) (b:Int)=some ((a/b:Nat):Int):=by
 unfold rX
 rw[if_neg (by omega),Int.tdiv_eq_ediv_of_nonneg (by omega),←Int.natCast_ediv,gj (Nat.le_trans (Nat.div_le_self _ _) ha)]
theorem Hp{a b:Nat}(h:b≠0):Ce (a:Int) (b:Int)=some ((a%b:Nat):Int):=by
 unfold Ce
 rw[if_neg (by omega),Int.tmod_eq_emod_of_nonneg (by omega),←Int.natCast_emod]
theorem N3(n:Nat):List.replicate n (0:Int)=zl (ep 65536 n 0):=by rw[qG,zl,List.map_replicate];rfl
theorem Hq{W X:Nat}(hW:0<W){k:List Nat}(hk:EK k)(hkv:gu k=W){xs:List Nat}(hx:EK xs)(hxv:gu xs=X)(H:Nat)(hH:0<H)(hH2:H≤65536)(hXH:X<H*W){R:Type}(f:Int→Option R)(r:R)(hf:f ((X/W:Nat):Int)=some r)(Ax:k.length≤90000000000):
  (b9 (λ(R7:Int×Int)=>
               match R7 with
               |⟨lD,oP⟩=>
                (show Option ((Int×Int)⊕(Int))from
                 (bif(decide ((1:Int)<(IntKind.i64.wrap (oP-lD))))then
                   (dZ (zl k) (IntKind.i64.wrap (Int.tdiv (IntKind.i64.wrap (lD+oP)) 2))).bind λHX=>
                   (iy HX (zl xs)).bind λHY=>
                   (bif(decide ((HY:Int)≤0))then
                     some (.inl (IntKind.i64.wrap (Int.tdiv (IntKind.i64.wrap (lD+oP)) 2),oP))
                    else
                     some (.inl (lD,IntKind.i64.wrap (Int.tdiv (IntKind.i64.wrap (lD+oP)) 2))))
                  else
                   some (.inr lD)))) ((0:Int),(H:Int))).bind f=some r:=by
 refine fR (λs=>∃lo hi:Nat,s=((lo:Int),(hi:Int))∧lo<hi∧hi≤65536∧lo*W≤X∧X<hi*W) (λe=>e=((X/W:Nat):Int)) (λs=>(s.2-s.1).toNat) ?_ ⟨0,H,Y,hH,hH2,by simp,hXH⟩ (λe he=>by rw[he];exact hf)
 rintro _ ⟨lo,hi,rfl,h1,h2,h3,h4⟩
 simp only[]
 rw[cC (x:=(hi:Int)-(lo:Int)) (by omega) (by omega)]
 by_cases Hy:1<hi-lo
 ·left
  obtain⟨mid,aeT⟩:∃mid,(lo+hi)/2=mid:=⟨_,Y⟩
  have hml:gu k*mid<65536^(k.length+1):=by rw[Nat.pow_succ];exact Nat.mul_lt_mul'' (rK hk) (by omega)
  rw[show decide ((1:Int)<(hi:Int)-(lo:Int))=true by rw[decide_eq_true_eq];omega,eY,lN (by omega),td2,aeT,gj (by omega),yH _ _ hk (by omega),bH,EN _ _ (EP hml (by omega)) hx,bH,Qh,cG,hkv,hxv]
  by_cases hle:W*mid≤X
  ·rw[show decide (W*mid≤X)=true by simp[hle],eY]
   exact⟨_,Y,⟨mid,hi,Y,by omega,h2,by rw[Nat.mul_comm];exact hle,h4⟩,by simp only[];omega⟩
  ·rw[show decide (W*mid≤X)=false by simp;omega,fM]
   exact⟨_,Y,⟨lo,mid,Y,by omega,by omega,h3,by rw[Nat.mul_comm];omega⟩,by simp only[];omega⟩
 ·right
  rw[show decide ((1:Int)<(hi:Int)-(lo:Int))=false by rw[decide_eq_false_iff_not];omega,fM]
  refine⟨_,Y,?_⟩
  have:hi=lo+1:=by omega
  subst this
  have:X/W=lo:=by
   rw[Nat.div_eq_iff hW]
   rw[Nat.add_mul,Nat.one_mul]at h4
   omega
  rw[this]
theorem J1(V W:Nat)(hW:W≠0)(hV:(can 65536 V).length≤80000000000)(hWl:(can 65536 W).length≤80000000000):kE (zl (can 65536 V)) (zl (can 65536 W))=some (zl (can 65536 (V/W)),zl (can 65536 (V%W))):=by
 have Ea:EK (can 65536 V):=⟨λ_ hx=>fo (by decide) hx,by omega⟩
 have Qi:EK (can 65536 W):=⟨λ_ hx=>fo (by decide) hx,by omega⟩
 have Yq:=cc (B:=65536) (by decide) V
 have Qj:=cc (B:=65536) (by decide) W
 have Qk:0<W:=by omega
 unfold kE
 simp only[bH,cm,dO]
 obtain⟨n,hn⟩:∃n,(can 65536 V).length=n:=⟨_,Y⟩
 by_cases h3:n≤3∧(can 65536 W).length≤3
 ·rw[hn,show decide ((n:Int)≤3)=true by rw[decide_eq_true_eq];omega,eY,bH,show decide (((can 65536 W).length:Int)≤3)=true by rw[decide_eq_true_eq];omega,eY,uA _ Ea.1 (by omega),bH,uA _ Qi.1 (by omega),bH,cG,cG]
  have hp:V<281474976710656:=by
   rw[hn]at Yq
   have h2:65536^n≤65536^3:=Nat.pow_le_pow_right (by decide) h3.1
   rw[show(65536:Nat)^3=281474976710656 by decide]at h2
   omega
  have hq:V/W≤V:=Nat.div_le_self _ _
  have hr:V%W≤V:=Nat.mod_le _ _
  rw[Ho hW (by omega),bH,BQ _ (by omega),bH,bH,bH,Hp hW,bH,BQ _ (by omega),bH]
 ·have wz:(((bif decide ((n:Int)≤3)then some (decide (((can 65536 W).length:Int)≤3))else some false):Option Bool))=some false:=by
   by_cases q1:n≤3
   ·have q2:¬(can 65536 W).length≤3:=λh=>h3 ⟨q1,h⟩
    rw[show decide (((can 65536 W).length:Int)≤3)=false by rw[decide_eq_false_iff_not];omega]
    exact xI _ _
   ·rw[show decide ((n:Int)≤3)=false by rw[decide_eq_false_iff_not];omega,fM]
  rw[hn]at Yq hV
  have hQ:V/W<65536^n:=Nat.lt_of_le_of_lt (Nat.div_le_self _ _) Yq
  rw[hn,wz,bH,fM,tN (by decide) (by omega),bH,N3]
  have hlen:(can 65536 W).length≠0:=λe=>hW (xC (by decide) (List.length_eq_zero_iff.1 e))
  by_cases h1:(can 65536 W).length=1
  ·have hWs:W<65536:=by rw[h1]at Qj;simpa using Qj
   have hg0:(can 65536 W)[0]? =some W:=by rw[ur (by decide) (by omega)];simp;exact hWs
   have X3:=uo (vZ hg0)
   rw[h1,show decide (((1:Nat):Int)=1)=true by simp,eY,cC (by omega) (by omega)]
   refine bJ (λj=>(((V/65536^(n-j)%W:Nat):Int),(n:Int)-1-(j:Int),zl (ep 65536 n (V/W/65536^(n-j)*65536^(n-j))))) n (((V%W:Nat):Int),zl (ep 65536 n (V/W))) ?_ (λj hj=>?_) ?_ ?_
   ·rw[Nat.sub_zero,Nat.div_eq_of_lt Yq,Nat.div_eq_of_lt hQ];simp
   ·obtain⟨m,hm⟩:∃m,n=m+j+1:=⟨n-j-1,by omega⟩
    have hg:(can 65536 V)[m]? =some (V/65536^m%65536):=ur (by decide) (by omega)
    have IT:=N1 (B:=65536) (by decide) Qk V m
    have G3:=NG (B:=65536) (d:=W) V m
    have hrl:=Nat.mod_lt (V/65536^(m+1)) Qk
    have Sx:=Nat.mod_lt (V/65536^m) (show 0<65536 by decide)
    have hput:=EI (B:=65536) (by decide) (N:=n) (k:=m) (by omega) (V/W)
    rw[show n-j=m+1 by omega,show n-(j+1)=m by omega,show(n:Int)-1-(j:Int)=(m:Int) by omega,show(n:Int)-1-((j+1:Nat):Int)=(m:Int)-1 by omega]
    simp only[]
    rw[show decide ((0:Int)≤(m:Int))=true by simp,eY,bN (vZ hg),bH,X3,bH]
    rw[←IT]at hput
    rw[G3,←hput]
    generalize V/65536^(m+1)%W=r at*
    generalize V/65536^m%65536=d at*
    rw[cC (x:=(r:Int)*65536) (by omega) (by omega),cC (x:=(r:Int)*65536+(d:Int)) (by omega) (by omega),show(r:Int)*65536+(d:Int)=((r*65536+d:Nat):Int) by omega,Ho hW (by omega),bH,bH,Hp hW,bH,gk (by rw[dO,bG];omega),bH,jD (by rw[dO,bG];omega),bH,cC (x:=(m:Int)-1) (by omega) (by omega),NT]
   ·simp only[]
    rw[show decide ((0:Int)≤(n:Int)-1-(n:Int))=false by rw[decide_eq_false_iff_not];omega,fM,Nat.sub_self,Nat.pow_zero,Nat.mul_one,Nat.div_one,Nat.div_one]
   ·simp only[]
    rw[jH _ (by rw[bG];omega),bH,ny (by decide) hQ,show[((V%W:Nat):Int)]=zl [V%W]from Y,jH _ (by simp),bH]
    have hr:=Nat.mod_lt V Qk
    rw[jF (B:=65536) (l:=[V%W]) (by decide) (by intro y hy;simp at hy;omega)]
    simp[val]
  ·rw[show decide (((can 65536 W).length:Int)=1)=false by rw[decide_eq_false_iff_not];omega,fM,cC (by omega) (by omega)]
   refine bJ (λj=>(zl (can 65536 (V/65536^(n-j)%W)),(n:Int)-1-(j:Int),zl (ep 65536 n (V/W/65536^(n-j)*65536^(n-j))))) n (zl (can 65536 (V%W)),zl (ep 65536 n (V/W))) ?_ (λj hj=>?_) ?_ ?_
   ·rw[Nat.sub_zero,Nat.div_eq_of_lt Yq,Nat.div_eq_of_lt hQ];simp[oT,zl]
   ·obtain⟨m,hm⟩:∃m,n=m+j+1:=⟨n-j-1,by omega⟩
    have hg:(can 65536 V)[m]? =some (V/65536^m%65536):=ur (by decide) (by omega)
    have IT:=N1 (B:=65536) (by decide) Qk V m
    have G3:=NG (B:=65536) (d:=W) V m
    have hrl:=Nat.mod_lt (V/65536^(m+1)) Qk
    have Sx:=Nat.mod_lt (V/65536^m) (show 0<65536 by decide)
    have Y7:=PW (B:=65536) (by decide) Qk V m
    have hput:=EI (B:=65536) (by decide) (N:=n) (k:=m) (by omega) (V/W)
    rw[show n-j=m+1 by omega,show n-(j+1)=m by omega,show(n:Int)-1-(j:Int)=(m:Int) by omega,show(n:Int)-1-((j+1:Nat):Int)=(m:Int)-1 by omega]
    simp only[]
    rw[←IT]at hput
    rw[G3,←hput,show decide ((0:Int)≤(m:Int))=true by simp,eY,bN (vZ hg),bH]
    generalize V/65536^(m+1)%W=r at*
    generalize V/65536^m%65536=d at*
    obtain⟨X,hX⟩:∃X,r*65536+d=X:=⟨_,Y⟩
    rw[hX]at Y7⊢
    have hrc:(can 65536 r).length≤(can 65536 W).length:=(bT (by decide)).2 (Nat.lt_trans hrl Qj)
    have Wq:(can 65536 X).length≤(can 65536 W).length+1:=(bT (by decide)).2 (by rw[Nat.pow_succ];exact Nat.lt_trans Y7 (Nat.mul_lt_mul_of_pos_right Qj (by decide)))
    have hval:val 65536 (d::can 65536 r)=X:=by
     show d+65536*val 65536 (can 65536 r)=X
     rw[jN (by decide)];omega
    have Bu:EK (can 65536 X):=⟨λ_ hx=>fo (by decide) hx,by omega⟩
    rw[PL (by decide) (by rw[dO];simp;omega),bH,show[(d:Int)]++zl (can 65536 r)=zl (d::can 65536 r)from rfl,jH _ (by simp;omega),bH,jF (B:=65536) (by decide) (by intro y hy;simp at hy;rcases hy with rfl|hy;exact Sx;exact fo (by decide) hy),hval]
    have hqW:W*(X/W)≤X:=Nat.mul_div_le X W
    have aeU:X/W<65536:=by rw[Nat.div_lt_iff_lt_mul Qk,Nat.mul_comm];exact Y7
    have NP:((dZ (zl (can 65536 W)) ((X/W:Nat):Int)).bind λHZ=>(fI (zl (can 65536 X)) HZ).bind λNa=>(vm (zl (ep 65536 n (V/W/65536^(m+1)*65536^(m+1)))) (m:Int)).bind λPs=>(stM (zl (ep 65536 n (V/W/65536^(m+1)*65536^(m+1)))) Ps ((X/W:Nat):Int)).bind λXB=>(some (.inl (Na,IntKind.i64.wrap ((m:Int)-1),XB)):Option ((List Int×Int×List Int)⊕(List Int×List Int))))=some (.inl (zl (can 65536 (X%W)),(m:Int)-1,zl ((ep 65536 n (V/W/65536^(m+1)*65536^(m+1))).set m (X/W)))):=by
     rw[yH _ _ Qi aeU,bH,cG,Ao _ _ Bu (EP (Nat.lt_of_le_of_lt hqW (cc (by decide) X)) (by omega)) (by rw[cG,cG];exact hqW),bH,cG,cG,gk (by rw[dO,bG];omega),bH,jD (by rw[dO,bG];omega),bH,cC (x:=(m:Int)-1) (by omega) (by omega),NT,←Nat.mod_eq_sub_mul_div]
    rw[dO]
    by_cases hsh:(can 65536 X).length<(can 65536 W).length
    ·rw[show decide (((can 65536 X).length:Int)<((can 65536 W).length:Int))=true by rw[decide_eq_true_eq];omega,eY]
     exact Hq Qk Qi (cG W) Bu (cG X) 1 (by decide) (by decide) (by rw[Nat.one_mul];exact vX (by decide) hsh) _ _ NP (by omega)
    ·rw[show decide (((can 65536 X).length:Int)<((can 65536 W).length:Int))=false by rw[decide_eq_false_iff_not];omega,fM]
     exact Hq Qk Qi (cG W) Bu (cG X) 65536 (by decide) (by decide) (by rw[Nat.mul_comm];exact Y7) _ _ NP (by omega)
   ·simp only[]
    rw[show decide ((0:Int)≤(n:Int)-1-(n:Int))=false by rw[decide_eq_false_iff_not];omega,fM,Nat.sub_self,Nat.pow_zero,Nat.mul_one,Nat.div_one,Nat.div_one]
   ·simp only[]
    rw[jH _ (by rw[bG];omega),bH,ny (by decide) hQ]
end
section
open Go.Fw
theorem xM{v:Nat}:(can 65536 v).length=0↔v=0:=by
 constructor
 ·intro h;exact xC (by decide) (List.length_eq_zero_iff.1 h)
 ·intro h;rw[h,oT];rfl
theorem v5{v:Nat}(h:(can 65536 v).length≤100000000000):EK (can 65536 v):=⟨λ_ hx=>fo (by decide) hx,h⟩
theorem xN{x:Zr}(h:Wl x):dK x=some (zi x).sign:=by
 unfold dK
 simp only[fj h,bH,dO]
 have hz:=xM (v:=(zi x).natAbs)
 have hneg:x.neg=true→zi x≤0:=λe=>by unfold zi;rw[e];simp[sv]
 have hpos:x.neg=false→0≤zi x:=λe=>by unfold zi;rw[e];simp[sv]
 by_cases h0:zi x=0
 ·rw[h0];rfl
 ·rw[show decide (((can 65536 (zi x).natAbs).length:Int)=0)=false by rw[decide_eq_false_iff_not];omega,fM]
  cases hn:x.neg
  ·have:=hpos hn
   rw[fM,Int.sign_eq_one_of_pos (by omega)]
  ·have:=hneg hn
   rw[eY,Int.sign_eq_neg_one_of_neg (by omega)]
theorem Ql{x y:Zr}(hx:Wl x)(hy:Wl y):ng x y=some (ko (zi x) (zi y)):=by
 have cx:=hx.KY
 have cy:=hy.KY
 unfold ng
 simp only[zeta',xN hx,xN hy,bH,fj hx,fj hy]
 rw[EN _ _ (v5 (by omega)) (v5 (by omega)),cG,cG]
 simp only[bH]
 generalize zi x=i
 generalize zi y=j
 rw[BM]
 rcases Int.lt_trichotomy i 0 with h1|h1|h1<;>rcases Int.lt_trichotomy j 0 with h2|h2|h2
 ·rw[Int.sign_eq_neg_one_of_neg h1,Int.sign_eq_neg_one_of_neg h2,show(i.natAbs:Int)=-i by omega,show(j.natAbs:Int)=-j by omega,G5]
  show some (IntKind.i64.wrap (0-ko j i))=_
  rw[KZ]
 ·rw[Int.sign_eq_neg_one_of_neg h1,show Int.sign j=0 by rw[h2];rfl,show ko i j=-1 from gZ (by omega)];rfl
 ·rw[Int.sign_eq_neg_one_of_neg h1,Int.sign_eq_one_of_pos h2,show ko i j=-1 from gZ (by omega)];rfl
 ·rw[show Int.sign i=0 by rw[h1];rfl,Int.sign_eq_neg_one_of_neg h2,show ko i j=1 from g9 (by omega)];rfl
 ·rw[h1,h2];rfl
 ·rw[show Int.sign i=0 by rw[h1];rfl,Int.sign_eq_one_of_pos h2,show ko i j=-1 from gZ (by omega)];rfl
 ·rw[Int.sign_eq_one_of_pos h1,Int.sign_eq_neg_one_of_neg h2,show ko i j=1 from g9 (by omega)];rfl
 ·rw[Int.sign_eq_one_of_pos h1,show Int.sign j=0 by rw[h2];rfl,show ko i j=1 from g9 (by omega)];rfl
 ·rw[Int.sign_eq_one_of_pos h1,Int.sign_eq_one_of_pos h2,show(i.natAbs:Int)=i by omega,show(j.natAbs:Int)=j by omega];rfl
theorem U6(x:Zr):sv x.neg (zi x).natAbs=zi x:=by rw[tQ];rfl
theorem J2{x:Zr}(hx:Wl x):kF x=some (zn (-zi x)):=by
 have cx:=hx.KY
 unfold kF
 simp only[bH,fj hx]
 rw[nM _ _ (by omega),bH,BL,U6]
theorem Qm{x:Zr}(hx:Wl x):nh x=some (zn ((zi x).natAbs:Int)):=by
 have cx:=hx.KY
 unfold nh
 simp only[bH,fj hx]
 rw[nM _ _ (by omega),bH,jG]
theorem Qn{x y:Zr}(hx:Wl x)(hy:Wl y):ni x y=some (zn (zi x+zi y)):=by
 have cx:=hx.KY
 have cy:=hy.KY
 unfold ni
 simp only[bH,fj hx,fj hy]
 have ex:=U6 x
 have ey:=U6 y
 generalize (zi x).natAbs=a at*
 generalize (zi y).natAbs=b at*
 have la:=cc (B:=65536) (by decide) a
 have lb:=cc (B:=65536) (by decide) b
 rw[←ex,←ey]
 generalize x.neg=n
 generalize y.neg=m
 by_cases hnm:n=m
 ·subst hnm
  have hl:(can 65536 (a+b)).length≤max (can 65536 a).length (can 65536 b).length+1:=by
   apply(bT (by decide)).2
   have h1:a<65536^max (can 65536 a).length (can 65536 b).length:=Nat.lt_of_lt_of_le la (Nat.pow_le_pow_right (by decide) (by omega))
   have h2:b<65536^max (can 65536 a).length (can 65536 b).length:=Nat.lt_of_lt_of_le lb (Nat.pow_le_pow_right (by decide) (by omega))
   rw[Nat.pow_succ];omega
  rw[show(n==n)=true by simp,eY,EO _ _ (v5 (by omega)) (v5 (by omega)),bH,cG,cG,nM _ _ (by omega),bH,show sv n (a+b)=sv n a+sv n b by cases n<;>simp[sv];omega]
 ·have hm:m= !n:=by cases n<;>cases m<;>simp_all
  subst hm
  rw[show(n== !n)=false by cases n<;>rfl,fM,EN _ _ (v5 (by omega)) (v5 (by omega)),bH,cG,cG]
  by_cases hlt:b≤a
  ·have hc:decide ((0:Int)≤vW a b)=true:=by
    rw[decide_eq_true_eq]
    rcases Nat.lt_or_ge b a with h|h
    ·rw[rJ h];decide
    ·rw[show a=b by omega,uw];decide
   have hl:(can 65536 (a-b)).length≤(can 65536 a).length:=(bT (by decide)).2 (by omega)
   rw[hc,eY,Ao _ _ (v5 (by omega)) (v5 (by omega)) (by rw[cG,cG];exact hlt),bH,cG,cG,nM _ _ (by omega),bH,show sv n (a-b)=sv n a+sv (!n) b by cases n<;>simp[sv]<;>omega]
  ·have hc:decide ((0:Int)≤vW a b)=false:=by rw[pM (by omega)];decide
   have hl:(can 65536 (b-a)).length≤(can 65536 b).length:=(bT (by decide)).2 (by omega)
   rw[hc,fM,Ao _ _ (v5 (by omega)) (v5 (by omega)) (by rw[cG,cG];omega),bH,cG,cG,nM _ _ (by omega),bH,show sv (!n) (b-a)=sv n a+sv (!n) b by cases n<;>simp[sv]<;>omega]
theorem ER{x y:Zr}(hx:Wl x)(hy:Wl y):jB x y=some (zn (zi x*zi y)):=by
 have cx:=hx.KY
 have cy:=hy.KY
 unfold jB
 simp only[bH,fj hx,fj hy]
 have ex:=U6 x
 have ey:=U6 y
 generalize (zi x).natAbs=a at*
 generalize (zi y).natAbs=b at*
 have la:=cc (B:=65536) (by decide) a
 have lb:=cc (B:=65536) (by decide) b
 have hl:(can 65536 (a*b)).length≤(can 65536 a).length+(can 65536 b).length:=by
  apply(bT (by decide)).2
  rw[Nat.pow_add];exact Nat.mul_lt_mul'' la lb
 rw[Qg _ _ (v5 (by omega)) (v5 (by omega)) (by omega),bH,cG,cG,nM _ _ (by omega),bH,IY,ex,ey]
theorem J3{x y:Zr}(hx:Wl x)(hy:Wl y):kG x y=some (G7 (zi x) (zi y)):=by
 have cx:=hx.KY
 have cy:=hy.KY
 unfold kG
 simp only[bH,cm,fj hx,fj hy,dO]
 have ex:=U6 x
 have ey:=U6 y
 generalize (zi x).natAbs=a at*
 generalize (zi y).natAbs=b at*
 rw[←ex,←ey]
 generalize x.neg=n
 generalize y.neg=m
 by_cases h0:b=0
 ·subst h0
  rw[show sv m 0=0 by cases m<;>rfl];rfl
 ·have uV:(can 65536 b).length≠0:=λh=>h0 (xM.1 h)
  have hm:a%b<b:=Nat.mod_lt _ (by omega)
  have la:=cc (B:=65536) (by decide) a
  have lb:=cc (B:=65536) (by decide) b
  obtain⟨e1,e2⟩:=NR n m (a:=a) (show 0<b by omega)
  have hj:sv m b≠0:=by cases m<;>simp[sv]<;>omega
  have hq:(can 65536 (a/b)).length≤(can 65536 a).length:=(bT (by decide)).2 (Nat.lt_of_le_of_lt (Nat.div_le_self _ _) la)
  have hr:(can 65536 (a%b)).length≤(can 65536 b).length:=(bT (by decide)).2 (Nat.lt_trans hm lb)
  rw[show decide (((can 65536 b).length:Int)=0)=false by rw[decide_eq_false_iff_not];omega,fM,J1 a b h0 (by omega) (by omega),bH,G7,if_neg hj,e1,e2]
  simp only[dO]
  have hz:=xM (v:=a%b)
  have hK:∀c:Bool,(decide (n=true∧0<a%b)=c)→(bif c then(gJ (zl (can 65536 (a/b))) [1]).bind λuX=>(fI (zl (can 65536 b)) (zl (can 65536 (a%b)))).bind λnY=>(cV (!(n==m)) uX).bind λx=>(cV false nY).bind λx_1=>some ((⟨x.neg,x.w⟩:Zr),(⟨x_1.neg,x_1.w⟩:Zr),(0:Int))
    else(cV (!(n==m)) (zl (can 65536 (a/b)))).bind λx=>(cV false (zl (can 65536 (a%b)))).bind λx_1=>some ((⟨x.neg,x.w⟩:Zr),(⟨x_1.neg,x_1.w⟩:Zr),(0:Int)))=
    some (zn (if n=true∧0<a%b then sv (!(n==m)) (a/b+1)else sv (!(n==m)) (a/b)),zn (if n=true∧0<a%b then((b-a%b:Nat):Int)else((a%b:Nat):Int)),0):=by
   intro c hc
   cases c
   ·have NS:=of_decide_eq_false hc
    rw[fM,if_neg NS,if_neg NS,nM _ _ (by omega),bH,nM _ _ (by omega),bH,jG]
   ·have NS:=of_decide_eq_true hc
    have Yl:(can 65536 (a/b+1)).length≤(can 65536 a).length+1:=by
     apply(bT (by decide)).2
     have:a/b≤a:=Nat.div_le_self _ _
     rw[Nat.pow_succ];omega
    have hbr:(can 65536 (b-a%b)).length≤(can 65536 b).length:=(bT (by decide)).2 (by omega)
    rw[eY,if_pos NS,if_pos NS,show[(1:Int)]=zl [1]from Y,EO _ _ (v5 (by omega)) ⟨by simp,by simp⟩,bH,cG,show gu [1]=1 by decide,Ao _ _ (v5 (by omega)) (v5 (by omega)) (by rw[cG,cG];omega),bH,cG,cG,nM _ _ (by omega),bH,nM _ _ (by omega),bH,jG]
  cases n
  ·rw[fM,bH]
   exact hK false (by simp)
  ·rw[eY,bH]
   refine hK _ ?_
   simp only[true_and]
   by_cases h:0<a%b
   ·rw[show decide (0<a%b)=true by simp[h],show decide ((0:Int)<((can 65536 (a%b)).length:Int))=true by rw[decide_eq_true_eq];omega]
   ·rw[show decide (0<a%b)=false by simp[h],show decide ((0:Int)<((can 65536 (a%b)).length:Int))=false by rw[decide_eq_false_iff_not];omega]
end
section
open Go.Fw
theorem Qo{x y:Zr}(hx:Wl x)(hy:Wl y):nj x y=some (zn (Int.gcd (zi x) (zi y):Int)):=by
 have cx:=hx.KY
 have cy:=hy.KY
 unfold nj
 simp only[bH,fj hx,fj hy]
 rw[Int.gcd]
 generalize (zi x).natAbs=a at*
 generalize (zi y).natAbs=b at*
 refine fR (λs=>∃c d,s=(zl (can 65536 c),zl (can 65536 d))∧Nat.gcd c d=Nat.gcd a b∧(can 65536 c).length≤20000000000∧(can 65536 d).length≤20000000000)
  (λe=>e=zl (can 65536 (Nat.gcd a b))∧(can 65536 (Nat.gcd a b)).length≤20000000000) (λs=>val 65536 (s.2.map Int.toNat)) ?_ ⟨a,b,Y,Y,cx,cy⟩ ?_
 ·rintro _ ⟨c,d,rfl,hg,hc,hd⟩
  simp only[dO]
  have hzl:∀l:List Nat,(zl l).map Int.toNat=l:=λl=>by
   rw[zl,List.map_map]
   have:(Int.toNat∘λ(n:Nat)=>(n:Int))=id:=by funext n;simp
   rw[this,List.map_id]
  by_cases h0:d=0
  ·right
   subst h0
   rw[Nat.gcd_zero_right]at hg
   subst hg
   exact⟨_,Y,Y,hc⟩
  ·left
   have uV:(can 65536 d).length≠0:=λh=>h0 (xM.1 h)
   have hm:c%d<d:=Nat.mod_lt _ (by omega)
   rw[show decide ((0:Int)<((can 65536 d).length:Int))=true by rw[decide_eq_true_eq];omega,eY,J1 c d h0 (by omega) (by omega),bH]
   refine⟨_,Y,⟨d,c%d,Y,?_,hd,?_⟩,?_⟩
   ·rw[←hg,Nat.gcd_comm d,←Nat.gcd_rec,Nat.gcd_comm]
   ·exact Nat.le_trans ((bT (by decide)).2 (Nat.lt_trans hm (cc (by decide) d))) hd
   ·simp only[]
    rw[hzl,hzl,jN (by decide),jN (by decide)];exact hm
 ·rintro _ ⟨rfl,hl⟩
  rw[nM _ _ (by omega),bH,jG]
end
section
open Go.Fw
theorem J4:kH=some (zn 1):=by
 unfold kH
 simp only[zeta',bH,from_eq (x:=1) (by decide)]
section ops
variable {L M:Nat}{a b:Qr}{x y:Rat}
theorem qL(h:hG L a x)(hL:L≤10000000000):∃n d:Int,gK a=some (zn n)∧fL a=some (zn d)∧0<d∧Rat.divInt n d=x∧Fit L n∧Fit L d:=by
 have wn:=h.wn hL
 have wd:=h.wd hL
 have hv:=h.v
 unfold gK fL
 simp only[zeta',bH,xN wd,J4,J2 wn,Qm wd,Hf wn]
 unfold qv qd at hv
 rcases Int.lt_trichotomy (zi a.den) 0 with h1|h1|h1
 ·refine⟨-zi a.num,-zi a.den,?_,?_,by omega,?_,h.fn.neg,h.fd.neg⟩
  ·rw[Int.sign_eq_neg_one_of_neg h1];rfl
  ·rw[Int.sign_eq_neg_one_of_neg h1,show((zi a.den).natAbs:Int)=-zi a.den by omega];rfl
  ·rw[Rat.neg_divInt_neg,←hv,if_neg (by omega)]
 ·refine⟨zi a.num,1,?_,?_,by decide,?_,h.fn,xJ h.l1⟩
  ·rw[h1];rfl
  ·rw[h1];rfl
  ·rw[←hv,if_pos h1]
 ·refine⟨zi a.num,zi a.den,?_,?_,h1,?_,h.fn,h.fd⟩
  ·rw[Int.sign_eq_one_of_pos h1];rfl
  ·rw[Int.sign_eq_one_of_pos h1,show((zi a.den).natAbs:Int)=zi a.den by omega];rfl
  ·rw[←hv,if_neg (by omega)]
theorem ES{n d:Int}(hn:Fit L n)(hd:Fit L d)(hL:L≤10000000000)(h:0<d):iK (zn n) (zn d)=some (qn (Rat.divInt n d)):=by
 have wn:=fg hn hL
 have wd:=fg hd hL
 have g0:(Int.gcd n d:Int)≠0:=by
  have:0<Int.gcd n d:=Int.gcd_pos_of_ne_zero_right _ (by omega)
  omega
 have wg:Wl (zn (Int.gcd n d:Int)):=fg (hd.le (by
  have:=Nat.le_of_dvd (Int.natAbs_pos.2 (show d≠0 by omega)) (Int.gcd_dvd_natAbs_right n d)
  simpa using this)) hL
 have wq:Wl (zn (d/(Int.gcd n d:Int))):=fg (hd.le (Int.natAbs_ediv_le_natAbs _ _)) hL
 have one:dD 1:=by decide
 unfold iK
 simp only[zeta',bH,Qo wn wd,J3 wn wg,J3 wd wg,J4,eG]
 rw[G7,if_neg g0,G7,if_neg g0]
 simp only[]
 rw[Ql wq (NU one),bH,eG,eG,yF h]
 by_cases e:d/(Int.gcd n d:Int)=1
 ·rw[e,ot,if_pos rfl];rfl
 ·have:ko (d/(Int.gcd n d:Int)) 1≠0:=by
   rcases Int.lt_trichotomy (d/(Int.gcd n d:Int)) 1 with q|q|q
   ·rw[gZ q];decide
   ·exact absurd q e
   ·rw[g9 q];decide
  rw[decide_eq_false this,fM,if_neg e]
theorem hG.N4(ha:hG L a x)(h:L≤10000000000):gR a=some (qn x):=by
 obtain⟨n,d,e1,e2,h1,h2,f1,f2⟩:=qL ha h
 unfold gR
 simp only[zeta',nT,nU,e1,e2,bH,ES f1 f2 h h1,h2]
theorem J5{n:Int}(hn:dD n):kI n=some (qn (n:Rat)):=by
 unfold kI
 simp only[zeta',bH,from_eq hn]
 rw[NY]
theorem U7{n d:Int}(hn:dD n)(hd:dD d)(h0:d≠0):oR n d=some (qn (Rat.divInt n d)):=by
 unfold oR
 simp only[zeta',nT,nU,bH,from_eq hn,from_eq hd,(Hl h0 (ou hn) (ou hd) (by decide)).N4 (by decide)]
theorem hG.aeV(ha:hG L a x)(h:L≤10000000000):nm a=some (qn (-x)):=by
 obtain⟨n,d,e1,e2,h1,h2,f1,f2⟩:=qL ha h
 unfold nm
 simp only[zeta',nT,nU,e1,e2,bH,J2 (fg f1 h),eG,ES f1.neg f2 h h1]
 rw[←Rat.neg_divInt,h2]
theorem hG.aeW(ha:hG L a x)(hb:hG M b y)(h:L+M≤4000000000):nk a b=some (qn (x+y)):=by
 obtain⟨n,d,e1,e2,h1,h2,f1,f2⟩:=qL ha (by omega)
 obtain⟨m,c,e3,e4,h3,h4,f3,f4⟩:=qL hb (by omega)
 unfold nk
 have u1:=(f1.mul f4)
 have u2:=(f3.mul f2).mono (show M+L≤L+M by omega)
 simp only[zeta',nT,nU,e1,e2,e3,e4,bH,ER (fg f1 (by omega)) (fg f4 (by omega)),ER (fg f3 (by omega)) (fg f2 (by omega)),eG,Qn (fg u1 (by omega)) (fg u2 (by omega)),ER (fg f2 (by omega)) (fg f4 (by omega)),ES (u1.add u2) ((f2.mul f4).mono (by omega)) (show L+M+1≤10000000000 by omega) (Int.mul_pos h1 h3)]
 rw[←h2,←h4,Rat.divInt_add_divInt _ _ (by omega) (by omega)]
theorem hG.aeX(ha:hG L a x)(hb:hG M b y)(h:L+M≤4000000000):nq a b=some (qn (x-y)):=by
 unfold nq
 have r:hG M (qn (-y)) (-y):=hb.fq.neg.rep hb.l1
 simp only[zeta',nT,nU,hb.aeV (by omega),bH,ha.aeW r h]
 rw[←Rat.sub_eq_add_neg]
theorem hG.Yr(ha:hG L a x)(h:L≤10000000000):lF a=some (lS x 0):=by
 obtain⟨n,d,e1,e2,h1,h2,f1,f2⟩:=qL ha h
 unfold lF
 simp only[zeta',nT,nU,e1,bH,xN (fg f1 h),eG]
 rw[←h2,←pN h1]
theorem N5(x y:Rat):lS (x-y) 0=lS x y:=by
 unfold lS
 by_cases h:x<y
 ·rw[if_pos h,if_pos (by grind)]
 ·rw[if_neg h,if_neg (by grind)]
  by_cases h2:x=y
  ·rw[if_pos h2,if_pos (by grind)]
  ·rw[if_neg h2,if_neg (by grind)]
theorem hG.aeY(ha:hG L a x)(hb:hG M b y)(h:L+M≤4000000000):nu a b=some (lS x y):=by
 unfold nu
 have r:hG (L+M+1) (qn (x-y)) (x-y):=(ha.fq.sub hb.fq).rep (by omega)
 simp only[zeta',nT,nU,ha.aeX hb h,bH,r.Yr (by omega),N5]
end ops
end
section
open Go.Fw
theorem cL{J R:Type}{f:J→Option R}{g:(J→Option R)→Option R}{r:Option R}(h:g f=r):cm f g=r:=h
theorem uB{J R:Type}(f:J→Option R)(g:(J→Option R)→Option R):cm f g=g f:=rfl
section ops
variable {K L M:Nat}{c:Qr}{a b:List Qr}{k:Rat}{f g:Nat→Rat}
theorem zy{l:List Int}(hl:∀x∈l,dD x)(h:l.length≤1000000):dh l=some (vq l.length λi=>((l.getD i 0:Int):Rat))∧dI 2 (vq l.length λi=>((l.getD i 0:Int):Rat)) (λi=>((l.getD i 0:Int):Rat)):=by
 have hx:∀i,dD (l.getD i 0):=λi=>by
  by_cases hi:i<l.length
  ·rw[List.getD_eq_getElem?_getD,List.getElem?_eq_getElem hi];exact hl _ (List.getElem_mem hi)
  ·rw[List.getD_eq_getElem?_getD,List.getElem?_eq_none (by omega)];decide
 refine⟨?_,tW (λi _=>(oc (hx i)).2.fq) (λi hi=>?_) (by decide)⟩
 ·unfold dh
  refine az Y<|az (tN (by omega) (by omega))<|az Y ?_
  refine bJ (λj=>((j:Int),vq j (λi=>((l.getD i 0:Int):Rat))++List.replicate (l.length-j) qz)) l.length (vq l.length λi=>((l.getD i 0:Int):Rat)) Y (λj hj=>?_) ?_ Y
  ·have e3:=(oc (hx j)).1
   have h4:=N0 (h:=λi=>((l.getD i 0:Int):Rat)) hj
   obtain⟨q3,h3⟩:∃q,qn ((l.getD j 0:Int):Rat)=q:=⟨_,Y⟩
   rw[h3]at e3 h4
   obtain⟨⟨_,_⟩,⟨_,_⟩⟩:=q3
   refine az Y<|cj (decide_eq_true (by omega))<|az (bN (cD hj))<|az e3<|az (gk (by rw[An (by omega)];exact hj))<|az (jD (by rw[An (by omega)];exact hj))<|az Y ?_
   rw[b8 (by omega),h4]
  ·refine az Y<|cn (decide_eq_false (by omega)) ?_
   simp
 ·show((l.getD i 0:Int):Rat)=0
  rw[dA hi];rfl
theorem I2(a:List Qr)(i:Nat):jC a (i:Int)=some (a.getD i (⟨⟨false,[]⟩,⟨false,[]⟩⟩:Qr)):=by
 unfold jC
 rw[uB]
 refine az Y<|az (a:=decide ((i:Int)<(a.length:Int))) ?_ ?_
 ·exact cj (decide_eq_true (show(0:Int)≤(i:Int) by omega)) Y
 by_cases h:i<a.length
 ·refine cj (decide_eq_true (by omega)) ?_
  have:=cD (l:=a) (d:=(⟨⟨false,[]⟩,⟨false,[]⟩⟩:Qr)) h
  generalize a.getD i (⟨⟨false,[]⟩,⟨false,[]⟩⟩:Qr)=q at this⊢
  obtain⟨⟨_,_⟩,⟨_,_⟩⟩:=q
  exact az (bN this) Y
 ·refine cn (decide_eq_false (by omega)) ?_
  rw[dA (by omega)]
theorem I3{α β:Type}(a:List α)(b:List β)(j:Nat):((bif decide ((j:Int)<(a.length:Int))then some true else(some (b.length:Int)).bind λfy=>(some (decide ((j:Int)<fy))).bind λdS=>some dS):Option Bool)=some (decide (j<max a.length b.length)):=by
 rw[bH,bH]
 by_cases h:j<a.length
 ·rw[decide_eq_true (show(j:Int)<a.length by omega),eY,decide_eq_true (by omega)]
 ·rw[decide_eq_false (show ¬(j:Int)<a.length by omega),fM]
  by_cases h':j<b.length
  ·rw[decide_eq_true (show(j:Int)<b.length by omega),decide_eq_true (by omega)]
  ·rw[decide_eq_false (show ¬(j:Int)<b.length by omega),decide_eq_false (by omega)]
end ops
end
section
open Go.Fw
theorem N6(l:List Qr)(hl:l.length≤1000000):∃b,lJ l=some b∧(b=false→∀q∈l,q.num.w.length≤6∧q.den.w.length≤6):=by
 unfold lJ
 simp only[bH]
 refine lO (λy=>∃i:Nat,y=(i:Int)∧i≤l.length∧∀z∈l.take i,z.num.w.length≤6∧z.den.w.length≤6) (λe=>(∃c,e=.inl c∧∀z∈l,z.num.w.length≤6∧z.den.w.length≤6)∨e=.inr true) (λy=>l.length-y.toNat) ?_ ⟨0,Y,by omega,by simp⟩ ?_
 ·rintro _ ⟨i,rfl,hi,ht⟩
  by_cases hlt:i<l.length
  ·have g:l[i]? =some l[i]:=by simp
   obtain⟨q,hq⟩:∃q,l[i]=q:=⟨_,Y⟩
   rw[hq]at g
   obtain⟨z,w⟩:=q
   obtain⟨b,hb,-⟩:=Qa [z,w] (by simp)
   rw[show decide ((i:Int)<(l.length:Int))=true by simp[hlt],eY]
   simp only[bN g,bH,zeta',cm,hb]
   cases b
   ·rw[fM,bH]
    by_cases h1:6<z.w.length
    ·right
     rw[decide_eq_true (by omega),eY,bH,eY]
     exact⟨_,Y,.inr Y⟩
    ·rw[decide_eq_false (by omega),fM,bH]
     by_cases h2:6<w.w.length
     ·right
      rw[decide_eq_true (by omega),eY]
      exact⟨_,Y,.inr Y⟩
     ·left
      rw[decide_eq_false (by omega),fM,b8 (by omega)]
      refine⟨_,Y,⟨i+1,Y,hlt,?_⟩,by omega⟩
      rw[List.take_add_one,g]
      intro u hu
      rcases List.mem_append.1 hu with h|h
      ·exact ht u h
      ·simp at h;rw[h];exact⟨by simp only[];omega,by simp only[];omega⟩
   ·right
    exact⟨_,Y,.inr Y⟩
  ·right
   rw[show decide ((i:Int)<(l.length:Int))=false by simp;omega,fM]
   rw[List.take_of_length_le (by omega)]at ht
   exact⟨_,Y,.inl ⟨_,Y,ht⟩⟩
 ·rintro e (⟨c,rfl,he⟩|rfl)
  ·exact⟨false,Y,λ_=>he⟩
  ·exact⟨true,rfl,λh=>by cases h⟩
abbrev OkQ(q:Qr):Prop:=OkZ q.num∧OkZ q.den
theorem N7{q:Qr}{L:Nat}(h:OkQ q)(h1:q.num.w.length≤L)(h2:q.den.w.length≤L)(hL:1≤L):hG L q (qv q):=⟨h.1.2.2,h.2.2.2,h1,h2,hL,Y⟩
end
section
open Go.Fw
theorem dT{p:Prop}[Decidable p](h:p):(some (decide p):Option Bool)=some true:=congrArg some (decide_eq_true h)
theorem dF{p:Prop}[Decidable p](h:¬p):(some (decide p):Option Bool)=some false:=congrArg some (decide_eq_false h)
theorem yI{β:Type}{x:Option Bool}{f:Bool→Option β}{r:Option β}{y:Option Bool}(h:x=some true)(hf:f true=r):(bif true then x else y).bind f=r:=by rw[eY,h];exact hf
theorem BR{β:Type}{b c:Bool}{x:Option Bool}{f:Bool→Option β}{r:Option β}(h:b=false→x=some c)(hf:f (b||c)=r):(bif b then some true else x).bind f=r:=by
 cases b
 ·rw[fM,h rfl];exact hf
 ·rw[eY];exact hf
theorem N8{β:Type}{b c:Bool}{x:Option Bool}{f:Bool→Option β}{r:Option β}(h:b=true→x=some c)(hf:f (b&&c)=r):(bif b then x else some false).bind f=r:=by
 cases b
 ·rw[fM];exact hf
 ·rw[eY,h rfl];exact hf
section ops
variable {K L M:Nat}{a b c:Qr}{x y z:Rat}
theorem int'{n:Int}(hn:dD n):∃q,cZ n=some q∧hG 2 q (n:Rat):=⟨_,oc hn⟩
end ops
theorem dI.val{L:Nat}{v:List Qr}{f:Nat→Rat}(h:dI L v f)(i:Nat):f i=CH v i:=(h.at i).v.symm
abbrev szZ(z:Zr):Nat:=1+((z.w.map λ_=>1).sum+1)+1
abbrev Sy(q:Qr):Nat:=szZ q.num+szZ q.den+1
abbrev SA(v:List Qr):Nat:=(v.map λx=>Sy x).sum+1
abbrev U8(m:List (List Qr)):Nat:=(m.map λx=>SA x).sum+1
theorem J6{α:Type}(f:α→Nat):∀{l:List α} {x:α},x∈l→f x≤(l.map f).sum
 |y::l,x,h=>by
  rw[List.map_cons,List.sum_cons]
  rcases List.mem_cons.1 h with rfl|h
  ·omega
  ·have:=J6 f h;omega
theorem J7{α:Type}:∀l:List α,(l.map λ_=>1).sum=l.length
 |[]=>rfl
 |_::l=>by rw[List.map_cons,List.sum_cons,J7 l,List.length_cons];omega
theorem Qp(q:Qr):q.num.w.length≤Sy q∧q.den.w.length≤Sy q:=by
 simp only[Sy,szZ,J7];omega
abbrev Ys(v:List Qr):Prop:=v.length≤9223372036854775807∧∀q∈v,OkQ q
theorem ae1{q:Qr}(h:OkQ q)(s:Sy q≤1048576):hG 1048576 q (qv q):=by
 have:=Qp q
 exact N7 h (by omega) (by omega) (by decide)
theorem SB{v:List Qr}(h:Ys v)(s:SA v≤1048576):dI 1048576 v (CH v):=by
 refine JY (λq hq=>ae1 (h.2 q hq) ?_) (by decide)
 have:=J6 (λx=>Sy x) hq
 have e:SA v=(v.map λx=>Sy x).sum+1:=rfl
 omega
end
section
open Go.Fw
def jW{α:Type}(f:Nat→α)(n k:Nat)(z:α):List α:=(List.range k).map f++List.replicate (n-k) z
theorem uC{α:Type}{f:Nat→α}{n k:Nat}{z:α}(hk:k≤n):(jW f n k z).length=n:=by simp[jW];omega
theorem rL{α:Type}{f:Nat→α}{n:Nat}{z:α}:jW f n 0 z=List.replicate n z:=by simp[jW]
theorem uD{α:Type}{f:Nat→α}{n:Nat}{z:α}:jW f n n z=(List.range n).map f:=by simp[jW]
theorem uE{α:Type}{f:Nat→α}{n k:Nat}{z:α}(hk:k<n):(jW f n k z).set k (f k)=jW f n (k+1) z:=by
 unfold jW
 rw[show n-k=(n-(k+1))+1 by omega,List.replicate_succ,List.set_append_right _ _ (by simp),List.length_map,List.length_range,Nat.sub_self,List.range_succ,List.map_append,List.append_assoc];rfl
def mq(n:Nat)(ln:Nat→Nat)(F:Nat→Nat→Rat):List (List Qr):=(List.range n).map λi=>vq (ln i) (F i)
theorem kp(n:Nat)(ln:Nat→Nat)(F:Nat→Nat→Rat):(mq n ln F).length=n:=by simp[mq]
theorem U9{n i:Nat}{ln:Nat→Nat}{F:Nat→Nat→Rat}(hi:i<n):(mq n ln F)[i]? =some (vq (ln i) (F i)):=by simp[mq,hi]
theorem BS{n:Nat}{ln ln':Nat→Nat}{F G:Nat→Nat→Rat}(h:∀i,i<n→ln i=ln' i∧∀k,k<ln i→F i k=G i k):mq n ln F=mq n ln' G:=by
 unfold mq
 apply List.map_congr_left
 intro i hi
 obtain⟨h1,h2⟩:=h i (List.mem_range.1 hi)
 rw[xL h2,h1]
structure gb (L:Nat) (m:List (List Qr)) (F:Nat→Nat→Rat):Prop where
 e:∀i v,m[i]? =some v→dI L v (F i)
 z:∀i,m.length≤i→∀k,F i k=0
 l1:1≤L
theorem gb.row{L:Nat}{m:List (List Qr)}{F:Nat→Nat→Rat}(h:gb L m F)(i:Nat):dI L (m.getD i []) (F i):=by
 by_cases hi:i<m.length
 ·rw[List.getD_eq_getElem?_getD,List.getElem?_eq_getElem hi];exact h.e i _ (List.getElem?_eq_getElem hi)
 ·rw[List.getD_eq_getElem?_getD,List.getElem?_eq_none (by omega)]
  exact(dI.nil h.l1).congr (λk=>(h.z i (by omega) k).symm)
theorem BT{L n:Nat}{ln:Nat→Nat}{F:Nat→Nat→Rat}(hf:∀i,i<n→∀k,k<ln i→FQ L (F i k))(hz:∀i,i<n→∀k,ln i≤k→F i k=0)(hz':∀i,n≤i→∀k,F i k=0)(h1:1≤L):gb L (mq n ln F) F:=by
 refine⟨λi v e=>?_,λi hi=>hz' i (by rwa[kp]at hi),h1⟩
 have hi:i<n:=by have:=(List.getElem?_eq_some_iff.1 e).1;rwa[kp]at this
 rw[U9 hi]at e
 cases e
 exact tW (hf i hi) (hz i hi) h1
def ET(m:List (List Qr))(i:Nat):Nat→Rat:=CH (m.getD i [])
theorem Qq{L:Nat}{m:List (List Qr)}(h:∀v∈m,dI L v (CH v))(h1:1≤L):gb L m (ET m):=by
 refine⟨λi v e=>?_,λi hi k=>?_,h1⟩
 ·have:ET m i=CH v:=by unfold ET;rw[List.getD_eq_getElem?_getD,e];rfl
  rw[this];exact h v (List.mem_of_getElem? e)
 ·unfold ET
  rw[List.getD_eq_getElem?_getD,List.getElem?_eq_none hi]
  exact(dI.nil (L:=1) (by decide)).val k |>.symm
theorem Hr{L:Nat}{v:List Qr}{f:Nat→Rat}(h:dI L v f):gb L [v] (λi k=>if i=0 then f k else 0):=by
 refine⟨λi u e=>?_,λi hi k=>if_neg (by simp at hi;omega),h.l1⟩
 match i,e with
 |0,e=>cases e;exact h.congr (λk=>(if_pos rfl).symm)
theorem mkm{n:Nat}(h:n≤1000000):EX 24 ((n:Nat):Int) ([]:List Qr)=some (List.replicate n []):=tN (by decide) (by omega)
theorem Yt(n:Nat)(h:n≤1000000):EX 64 ((n:Nat):Int) (⟨⟨false,[]⟩,⟨false,[]⟩⟩:Qr)=some (List.replicate n ⟨⟨false,[]⟩,⟨false,[]⟩⟩):=tN (by omega) (by omega)
theorem EU{L M N:Nat}{a b:List Qr}{f g:Nat→Rat}(ha:dI L a f)(hb:dI M b g)(h:min a.length b.length≤N):eN (λi=>f i*g i) (min a.length b.length)=eN (λi=>f i*g i) N:=by
 rw[NZ h (λi h1 _=>by
  rcases Nat.lt_or_ge i a.length with q|q
  ·rw[hb.z i (by omega)];grind
  ·rw[ha.z i q];grind)]
theorem BU{E:Type}{body:Nat→Unit→Option (Unit⊕E)}{n:Nat}{p:Nat→Prop}[DecidablePred p]{e:E}(h:∀k,k<n→body k ()=some (if p k then .inl ()else .inr e)):nF body n ()=some (if ∀k,k<n→p k then .inl ()else .inr e):=by
 induction n with
 |zero=>rw[nF,if_pos (λk hk=>by omega)]
 |succ n ih=>
  rw[nF,ih (λk hk=>h k (by omega))]
  by_cases h1:∀k,k<n→p k
  ·rw[if_pos h1]
   show body n ()=_
   rw[h n (by omega)]
   by_cases h2:p n
   ·rw[if_pos h2,if_pos]
    intro k hk
    rcases Nat.lt_or_ge k n with q|q
    ·exact h1 k q
    ·obtain rfl:k=n:=by omega
     exact h2
   ·rw[if_neg h2,if_neg (λq=>h2 (q n (by omega)))]
  ·rw[if_neg h1,if_neg (λq=>h1 (λk hk=>q k (by omega)))];rfl
section ops
variable {K L M:Nat}{c:Qr}{k:Rat}{a b:List (List Qr)}{F G:Nat→Nat→Rat}{x:List Qr}{f:Nat→Rat}
theorem Qs(a:List (List Qr))(i:Nat):mA a (i:Int)=some (a.getD i []):=by
 unfold mA
 refine cL<|az (dF (by omega)) ?_
 by_cases h:i<a.length
 ·exact az (a:=false) (cn Y<|az Y<|az (dF (by omega)) Y)<|cn Y<|az (bN (cD h)) Y
 ·rw[dA (by omega)]
  exact az (a:=true) (cn Y<|az Y<|az (dT (by omega)) Y)<|cj Y Y
def nB(m:List (List Qr)):Nat:=m.foldl (λn v=>max n v.length) 0
theorem nC{m:List (List Qr)}{n:Nat}:nB m≤n↔∀v∈m,v.length≤n:=by
 have key:∀(l:List (List Qr)) (s:Nat),l.foldl (λn v=>max n v.length) s≤n↔s≤n∧∀v∈l,v.length≤n:=by
  intro l
  induction l with
  |nil=>intro s;simp
  |cons v l ih=>
   intro s
   rw[List.foldl_cons,ih];simp only[List.mem_cons,forall_eq_or_imp]
   constructor
   ·rintro⟨h1,h2⟩;exact⟨by omega,by omega,h2⟩
   ·rintro⟨h1,h2,h3⟩;exact⟨by omega,h3⟩
 unfold nB
 rw[key];simp
theorem SC(m:List (List Qr))(h:m.length≤9223372036854775806):mB m=some (nB m:Int):=by
 unfold mB
 refine az Y ?_
 refine bJ (λj=>(((m.take j).foldl (λn v=>max n v.length) 0:Nat),(j:Int))) m.length ((nB m:Nat):Int) (by simp) (λj hj=>?_) ?_ Y
 ·refine az (dT (by omega))<|cj Y<|az (bN (List.getElem?_eq_getElem hj))<|az Y<|az Y<|az (congrArg some (b8 (by omega))) ?_
  rw[List.take_add_one,List.getElem?_eq_getElem hj,List.foldl_append]
  simp only[Option.toList_some,List.foldl_cons,List.foldl_nil]
  congr 3
  omega
 ·refine az (dF (by omega))<|cn Y ?_
  rw[List.take_length];rfl
theorem N9(h:gb L a F)(hL:L≤10000000000)(i j:Nat):qC a (i:Int) (j:Int)=some (qn (F i j)):=by
 unfold qC
 refine az (Qs a i)<|cL<|az (dF (by omega)) ?_
 have hr:=h.row i
 generalize a.getD i []=v at hr
 by_cases hj:j<v.length
 ·obtain⟨q,e1,r1⟩:=hr.get hj
  have e2:=(r1.canon hL).1
  exact az (a:=false) (cn Y<|az Y<|az (dF (by omega)) Y)<|cn Y<|az (bN e1)<|az e2 Y
 ·rw[hr.z j (by omega)]
  exact az (a:=true) (cn Y<|az Y<|az (dT (by omega)) Y)<|cj Y Y
theorem Oa(hc:hG K c k)(h:gb L a F)(hL:K+L≤4000000000)(hn:a.length≤1000000)(hw:∀v∈a,v.length≤1000000):
  iw c a=some (mq a.length (λi=>(a.getD i []).length) (λi j=>k*F i j))∧gb (K+L) (mq a.length (λi=>(a.getD i []).length) (λi j=>k*F i j)) (λi j=>k*F i j):=by
 have hw':∀i,(a.getD i []).length≤1000000:=λi=>by
  by_cases hi:i<a.length
  ·exact hw _ (List.mem_of_getElem? (cD (d:=[]) hi))
  ·rw[dA (by omega)];decide
 constructor
 ·unfold iw
  refine az Y<|az (mkm hn)<|az Y ?_
  refine bJ (λj=>((j:Int),jW (λi=>vq (a.getD i []).length (λj=>k*F i j)) a.length j [])) a.length (mq a.length (λi=>(a.getD i []).length) (λi j=>k*F i j)) (by rw[rL];rfl) (λj hj=>?_) ?_ Y
  ·have e1:=(EM hc (h.row j) hL (hw' j)).1
   have hl:(jW (λi=>vq (a.getD i []).length (λj=>k*F i j)) a.length j []).length=a.length:=uC (by omega)
   refine az (dT (by omega))<|cj Y<|az (bN (cD (d:=[]) hj))<|az e1<|az (gk (show j<_ by rw[hl];exact hj))<|az (jD (show j<_ by rw[hl];exact hj))<|az (congrArg some (b8 (by omega))) ?_
   rw[←uE hj]
  ·refine az (dF (by omega))<|cn Y ?_
   rw[uD];rfl
 ·refine BT (λi hi j hj=>?_) (λi hi j hj=>by rw[(h.row i).z j hj];grind) (λi hi j=>by rw[h.z i hi j];grind) (by have:=h.l1;omega)
  exact(EM hc (h.row i) hL (hw' i)).2.fq j
theorem ae2(h:gb L a F)(hx:dI M x f){N:Nat}(hN:∀v∈a,min v.length x.length≤N)(hL:(N+2)*(L+M+1)≤4000000000)(hn:a.length≤1000000):
  lA a x=some (vq a.length (λi=>eN (λj=>F i j*f j) N))∧dI (N*(L+M+1)+1) (vq a.length (λi=>eN (λj=>F i j*f j) N)) (λi=>eN (λj=>F i j*f j) N):=by
 have row:∀i,i<a.length→iT (a.getD i []) x=some (qn (eN (λj=>F i j*f j) N))∧hG (N*(L+M+1)+1) (qn (eN (λj=>F i j*f j) N)) (eN (λj=>F i j*f j) N):=λi hi=>by
  have hm:=hN _ (List.mem_of_getElem? (cD (d:=[]) hi))
  have h1:=U5 (h.row i) hx (Nat.le_trans (Nat.mul_le_mul_right _ (by omega)) hL)
  rw[EU (h.row i) hx hm]at h1
  exact⟨h1.1,h1.2.mono (Nat.add_le_add_right (Nat.mul_le_mul_right _ hm) 1)⟩
 constructor
 ·unfold lA
  refine az Y<|az (Yt _ hn)<|az Y ?_
  refine bJ (λj=>((j:Int),jW (λi=>qn (eN (λj=>F i j*f j) N)) a.length j ⟨⟨false,[]⟩,⟨false,[]⟩⟩)) a.length (vq a.length (λi=>eN (λj=>F i j*f j) N)) (by rw[rL];rfl) (λj hj=>?_) ?_ Y
  ·have e1:=(row j hj).1
   have hl:(jW (λi=>qn (eN (λj=>F i j*f j) N)) a.length j ⟨⟨false,[]⟩,⟨false,[]⟩⟩).length=a.length:=uC (by omega)
   have hst:∀q,qn (eN (λi=>F j i*f i) N)=q→(jW (λi=>qn (eN (λj=>F i j*f j) N)) a.length j ⟨⟨false,[]⟩,⟨false,[]⟩⟩).set j q=jW (λi=>qn (eN (λj=>F i j*f j) N)) a.length (j+1) ⟨⟨false,[]⟩,⟨false,[]⟩⟩:=by rintro q rfl;exact uE hj
   generalize hq:qn (eN (λi=>F j i*f i) N)=q at e1
   have hst:=hst q hq
   refine az (dT (by omega))<|cj Y<|az (bN (cD (d:=[]) hj))<|az e1<|az (gk (show j<_ by rw[hl];exact hj))<|az (jD (show j<_ by rw[hl];exact hj))<|az (congrArg some (b8 (by omega))) ?_
   rw[←hst]
  ·refine az (dF (by omega))<|cn Y ?_
   rw[uD];rfl
 ·refine tW (λi hi=>(row i hi).2.fq) (λi hi=>?_) (by omega)
  rw[BP (k:=λ_=>0) (λj _=>by rw[h.z i hi j];grind),De]
theorem I4(ha:gb L a F)(hb:gb M b G)(h:L+M≤4000000000):jz a b=some (decide (∀i,i<max a.length b.length→∀j,j<max (a.getD i []).length (b.getD i []).length→F i j=G i j)):=by
 unfold jz
 refine az (BU (p:=λi=>∀j,j<max (a.getD i []).length (b.getD i []).length→F i j=G i j) (e:=false) (λi hi=>?_)) ?_
 ·have e1:=VM (ha.row i) (hb.row i) h
  refine az Y<|az Y<|az e1<|az Y ?_
  by_cases q:∀j,j<max (a.getD i []).length (b.getD i []).length→F i j=G i j
  ·rw[if_pos q];exact cn (by rw[decide_eq_true q];rfl) Y
  ·rw[if_neg q];exact cj (by rw[decide_eq_false q];rfl) Y
 ·by_cases q:∀i,i<max a.length b.length→∀j,j<max (a.getD i []).length (b.getD i []).length→F i j=G i j
  ·rw[if_pos q,decide_eq_true q]
  ·rw[if_neg q,decide_eq_false q]
theorem J8(ha:gb L a F)(hb:gb M b G)(h:L+M≤4000000000)(e:∀i j,F i j=G i j):jz a b=some true:=by
 rw[I4 ha hb h,decide_eq_true (λi _ j _=>e i j)]
theorem J9{l:List (List Int)}(hl:∀v∈l,v.length≤1000∧∀y∈v,dD y)(hn:l.length≤1000):eU l=some (mq l.length (λi=>(l.getD i []).length) (λi j=>(((l.getD i []).getD j 0:Int):Rat)))∧gb 2 (mq l.length (λi=>(l.getD i []).length) (λi j=>(((l.getD i []).getD j 0:Int):Rat))) (λi j=>(((l.getD i []).getD j 0:Int):Rat)):=by
 have hw:∀i,(l.getD i []).length≤1000∧∀y∈l.getD i [],dD y:=λi=>by
  by_cases hi:i<l.length
  ·exact hl _ (List.mem_of_getElem? (cD (d:=[]) hi))
  ·rw[dA (by omega)];simp
 constructor
 ·unfold eU
  refine az Y<|az (mkm (by omega))<|az Y ?_
  refine bJ (λj=>((j:Int),jW (λi=>vq (l.getD i []).length (λj=>(((l.getD i []).getD j 0:Int):Rat))) l.length j [])) l.length (mq l.length (λi=>(l.getD i []).length) (λi j=>(((l.getD i []).getD j 0:Int):Rat))) (by rw[rL];rfl) (λj hj=>?_) ?_ Y
  ·have e1:=(zy (hw j).2 (by have:=(hw j).1;omega)).1
   have hl:(jW (λi=>vq (l.getD i []).length (λj=>(((l.getD i []).getD j 0:Int):Rat))) l.length j []).length=l.length:=uC (by omega)
   refine az (dT (by omega))<|cj Y<|az (bN (cD (d:=[]) hj))<|az e1<|az (gk (show j<_ by rw[hl];exact hj))<|az (jD (show j<_ by rw[hl];exact hj))<|az (congrArg some (b8 (by omega))) ?_
   rw[←uE hj]
  ·refine az (dF (by omega))<|cn Y ?_
   rw[uD];rfl
 ·refine BT (λi hi j hj=>(zy (hw i).2 (by have:=(hw i).1;omega)).2.fq j) (λi hi j hj=>by rw[dA hj];rfl) (λi hi j=>by rw[dA hi];rfl) (by decide)
end ops
end
end Go.Proofs.YtfoldppidpmchaaGreat
