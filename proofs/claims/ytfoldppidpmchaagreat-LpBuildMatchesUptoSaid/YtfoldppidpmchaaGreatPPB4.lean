/- A part of the proof: the framework, the plain functions, the followed functions, the plain laws. -/
import Derived.Test.YtfoldppidpmchaaGreatPPB3
set_option linter.unusedVariables false
set_option linter.unusedSimpArgs false
namespace Go.Proofs.YtfoldppidpmchaaGreat
open Go.Fw
noncomputable def cj(x0:List Int):Option (List Int):=(some (x0.length:Int)).bind fun x5=>(bk (fun(yN:Int)=>(show Option ((Int)⊕(Int))from bD (fun(xD:Bool)=>(bif xD then(some (IntKind.i64.wrap (yN-1))).bind fun cX=>some (.inl cX)else some (.inr yN))) fun Ce=>(some (decide ((0:Int)<yN))).bind fun x7=>(bif x7 then(some (IntKind.i64.wrap (yN-1))).bind fun eE=>(bR x0 eE).bind fun bV=>(some (decide ((bV:Int)=0))).bind fun cG=>some cG else some false).bind fun CU=>Ce CU)) x5).bind fun Ke=>(vX x0 0 Ke).bind fun ik=>some ik
noncomputable def bp(x0:List Nat):Option (List Int):=(bk (fun(s6:Int×(List Int))=>match s6 with|⟨m7,iK⟩=>(show Option ((Int×(List Int))⊕((List Int)))from(some (x0.length:Int)).bind fun x7=>(some (decide ((m7:Int)<x7))).bind fun x8=>(bif x8 then(bR x0 m7).bind fun cG=>(some (cG%65536)).bind fun dz=>(some (IntKind.i64.wrap (dz:Int))).bind fun cX=>(bR x0 m7).bind fun ik=>(some (ik/65536%4294967296)).bind fun fu=>(some (IntKind.i64.wrap (fu:Int))).bind fun fy=>(mH 8 iK [cX,fy]).bind fun gC=>(some (IntKind.i64.wrap (m7+1))).bind fun cn=>some (.inl (cn,gC))else some (.inr iK)))) (0,[])).bind fun cz=>(cj cz).bind fun fF=>some fF
noncomputable def da(x0:List Int)(x1:Int):Option (Int):=(some (x0.length:Int)).bind fun x7=>(some (decide ((x1:Int)<x7))).bind fun x8=>(bif x8 then(bR x0 x1).bind fun eE=>some eE else some 0)
noncomputable def cm(x0:Bool)(x1:List Int):Option (Zr):=(cj x1).bind fun x8=>(bk (fun(s6:Int×(List Nat))=>match s6 with|⟨pz,iK⟩=>(show Option ((Int×(List Nat))⊕((List Nat)))from(some (x8.length:Int)).bind fun eE=>(some (decide ((pz:Int)<eE))).bind fun bV=>(bif bV then(da x8 pz).bind fun c6=>(some ((c6%4294967296).toNat)).bind fun iC=>(some (IntKind.i64.wrap (pz+1))).bind fun fu=>(da x8 fu).bind fun fy=>(some ((fy%4294967296).toNat)).bind fun eI=>(some ((eI*65536)%4294967296)).bind fun gC=>(some ((iC+gC)%4294967296)).bind fun gJ=>(mH 4 iK [gJ]).bind fun jr=>(some (IntKind.i64.wrap (pz+2))).bind fun cG=>some (.inl (cG,jr))else some (.inr iK)))) (0,[])).bind fun cz=>bD (fun(PR:Bool)=>some ⟨PR,cz⟩) fun K9=>(bif x0 then(some (cz.length:Int)).bind fun fI=>(some (decide ((0:Int)<fI))).bind fun lI=>some lI else some false).bind fun PS=>K9 PS
noncomputable def gE(x0:Zr):Option (Zr):=match x0 with|⟨az,aA⟩=>(bp aA).bind fun x7=>(cm az x7).bind fun⟨og,oh⟩=>some ⟨og,oh⟩
noncomputable def jW(x0:Zr)(x1:Zr):Option (Bool):=match x0 with|⟨az,aA⟩=>match x1 with|⟨aZ,aY⟩=>bD (fun(CM:Bool)=>(bif CM then some false else(bk (fun(Bc:Int)=>(show Option ((Int)⊕((Unit)⊕(Bool)))from(some (aA.length:Int)).bind fun fy=>(some (decide ((Bc:Int)<fy))).bind fun eI=>(bif eI then(bR aA Bc).bind fun uf=>(bR aY Bc).bind fun oB=>(some (decide ((uf:Nat)≠oB))).bind fun oU=>(bif oU then some (.inr (.inr false))else(some (IntKind.i64.wrap (Bc+1))).bind fun gJ=>some (.inl gJ))else some (.inr (.inl ()))))) 0).bind fun e9=>match e9 with|.inr v9=>some v9|.inl _=>some true)) fun K3=>(some (!(az==aZ))).bind fun cn=>(bif cn then some true else(some (aA.length:Int)).bind fun cG=>(some (aY.length:Int)).bind fun cX=>(some (decide ((cG:Int)≠cX))).bind fun c6=>some c6).bind fun F2=>K3 F2
noncomputable def gh(x0:Int):Option (Zr):=(some ((x0%18446744073709551616).toNat)).bind fun x5=>(some (decide ((x0:Int)<0))).bind fun x7=>bD (fun(HE:Nat)=>(some (decide ((x0:Int)<0))).bind fun eE=>(some (HE%4294967296)).bind fun fR=>(some (fR%4294967296)).bind fun cG=>(some (HE/4294967296%18446744073709551616)).bind fun dz=>(some (dz%4294967296)).bind fun cX=>(gE ⟨eE,[cG,cX]⟩).bind fun⟨pA,pB⟩=>some ⟨pA,pB⟩) fun K2=>(bif x7 then(some (o5 18446744073709551616 0 x5)).bind fun x9=>K2 x9 else K2 x5)
noncomputable def iu(x0:List Int)(x1:List Int):Option (Int):=(some (x0.length:Int)).bind fun x7=>(some (x1.length:Int)).bind fun x9=>(some (max (x7:Int) x9)).bind fun cn=>(some (IntKind.i64.wrap (cn-1))).bind fun eE=>(bk (fun(kL:Int)=>(show Option ((Int)⊕((Unit)⊕(Int)))from(some (decide ((0:Int)≤kL))).bind fun fR=>(bif fR then(da x0 kL).bind fun c6=>(da x1 kL).bind fun eH=>(some (decide ((c6:Int)<eH))).bind fun fu=>(bif fu then some (.inr (.inr (-1)))else(da x0 kL).bind fun gC=>(da x1 kL).bind fun jr=>(some (decide ((jr:Int)<gC))).bind fun fQ=>(bif fQ then some (.inr (.inr 1))else(some (IntKind.i64.wrap (kL-1))).bind fun cE=>some (.inl cE)))else some (.inr (.inl ()))))) eE).bind fun e6=>match e6 with|.inr v6=>some v6|.inl _=>some 0
noncomputable def gi(x0:List Int)(x1:List Int):Option (List Int):=(bk (fun(uZ:Int×Int×(List Int))=>match uZ with|⟨Bn,Kf,CV⟩=>(show Option ((Int×Int×(List Int))⊕((List Int)))from bD (fun(Kg:Bool)=>(bif Kg then(da x0 Kf).bind fun fF=>(da x1 Kf).bind fun uf=>(some (IntKind.i64.wrap (fF+uf))).bind fun ny=>(some (IntKind.i64.wrap (ny+Bn))).bind fun lI=>(some (Int.tmod lI 65536)).bind fun qm=>(mH 8 CV [qm]).bind fun wH=>(some (IntKind.i64.wrap (Int.tdiv lI 65536))).bind fun nA=>(some (IntKind.i64.wrap (Kf+1))).bind fun eI=>some (.inl (nA,eI,wH))else some (.inr CV))) fun K22=>(some (x0.length:Int)).bind fun eE=>(some (decide ((Kf:Int)<eE))).bind fun bV=>(bif bV then some true else(some (x1.length:Int)).bind fun dz=>(some (decide ((Kf:Int)<dz))).bind fun cX=>some cX).bind fun Kc=>(bif Kc then some true else(some (decide ((0:Int)<Bn))).bind fun eH=>some eH).bind fun Xu=>K22 Xu)) (0,0,[])).bind fun sH=>(cj sH).bind fun rV=>some rV
noncomputable def fj(x0:List Int)(x1:List Int):Option (List Int):=(bk (fun(s8:Int×Int×(List Int))=>match s8 with|⟨HC,Nn,qQ⟩=>(show Option ((Int×Int×(List Int))⊕((List Int)))from(some (x0.length:Int)).bind fun eE=>(some (decide ((Nn:Int)<eE))).bind fun bV=>(bif bV then(da x0 Nn).bind fun cX=>(da x1 Nn).bind fun ik=>(some (IntKind.i64.wrap (cX-ik))).bind fun eH=>(some (IntKind.i64.wrap (eH-HC))).bind fun fy=>(some (decide ((fy:Int)<0))).bind fun gC=>bD (fun(RK:Int×Int)=>match RK with|⟨Xv,SD⟩=>(mH 8 qQ [SD]).bind fun ny=>(some (IntKind.i64.wrap (Nn+1))).bind fun cG=>some (.inl (Xv,cG,ny))) fun YZ=>(bif gC then(some (IntKind.i64.wrap (fy+65536))).bind fun fF=>YZ (1,fF)else YZ (0,fy))else some (.inr qQ)))) (0,0,[])).bind fun qR=>(cj qR).bind fun lI=>some lI
noncomputable def di(x0:List Int):Option (Int):=(some (x0.length:Int)).bind fun x6=>(some (IntKind.i64.wrap (x6-1))).bind fun x7=>(bk (fun(s6:Int×Int)=>match s6 with|⟨kn,m7⟩=>(show Option ((Int×Int)⊕(Int))from(some (decide ((0:Int)≤m7))).bind fun x9=>(bif x9 then(some (IntKind.i64.wrap (kn*65536))).bind fun fR=>(bR x0 m7).bind fun dz=>(some (IntKind.i64.wrap (fR+dz))).bind fun c6=>(some (IntKind.i64.wrap (m7-1))).bind fun eE=>some (.inl (c6,eE))else some (.inr kn)))) (0,x7)).bind fun rI=>some rI
noncomputable def iL(x0:Int):Option (List Int):=(some (Int.tmod x0 65536)).bind fun x4=>(some (IntKind.i64.wrap (Int.tdiv x0 65536))).bind fun x6=>(some (Int.tmod x6 65536)).bind fun x7=>(some (IntKind.i64.wrap (Int.tdiv x0 65536))).bind fun x9=>(some (IntKind.i64.wrap (Int.tdiv x9 65536))).bind fun cn=>(cj [x4,x7,cn]).bind fun bV=>some bV
noncomputable def dj(x0:List Int)(x1:Int):Option (List Int):=(bk (fun(qc:Int×Int×(List Int))=>match qc with|⟨tN,PT,jI⟩=>(show Option ((Int×Int×(List Int))⊕((List Int)))from bD (fun(xE:Bool)=>(bif xE then(da x0 PT).bind fun eH=>(some (IntKind.i64.wrap (eH*x1))).bind fun fy=>(some (IntKind.i64.wrap (fy+tN))).bind fun gC=>(some (Int.tmod gC 65536)).bind fun jr=>(mH 8 jI [jr]).bind fun uf=>(some (IntKind.i64.wrap (Int.tdiv gC 65536))).bind fun fI=>(some (IntKind.i64.wrap (PT+1))).bind fun c6=>some (.inl (fI,c6,uf))else some (.inr jI))) fun Ce=>(some (x0.length:Int)).bind fun eE=>(some (decide ((PT:Int)<eE))).bind fun bV=>(bif bV then some true else(some (decide ((0:Int)<tN))).bind fun cE=>some cE).bind fun CW=>Ce CW)) (0,0,[])).bind fun fK=>(cj fK).bind fun oA=>some oA
noncomputable def nR(x0:List Int)(x1:List Int):Option (List Int):=(some (x0.length:Int)).bind fun x9=>(some (x1.length:Int)).bind fun eE=>(some (IntKind.i64.wrap (x9+eE))).bind fun bV=>(some (decide ((bV:Int)≤3))).bind fun fR=>(bif fR then(di x0).bind fun cE=>(di x1).bind fun cX=>(some (IntKind.i64.wrap (cE*cX))).bind fun c6=>(iL c6).bind fun iC=>some iC else(some (x0.length:Int)).bind fun eH=>(some (IntKind.i64.wrap (eH-1))).bind fun fu=>(bk (fun(uZ:(List Int)×Int)=>match uZ with|⟨PU,Bn⟩=>(show Option (((List Int)×Int)⊕((List Int)))from(some (decide ((0:Int)≤Bn))).bind fun eI=>(bif eI then(mH 8 [0] PU).bind fun fQ=>(bk (fun(CX:(List Int)×Int)=>match CX with|⟨CY,AU⟩=>(show Option (((List Int)×Int)⊕((List Int)))from(bR x0 Bn).bind fun lI=>(some (decide ((AU:Int)<lI))).bind fun oB=>(bif oB then(bR x0 Bn).bind fun rV=>(some (IntKind.i64.wrap (rV-AU))).bind fun AD=>(some (min (1024:Int) AD)).bind fun q9=>(dj x1 q9).bind fun tg=>(gi CY tg).bind fun ug=>(some (IntKind.i64.wrap (AU+1024))).bind fun oU=>some (.inl (ug,oU))else some (.inr CY)))) (fQ,0)).bind fun yO=>(some (IntKind.i64.wrap (Bn-1))).bind fun gJ=>some (.inl (yO,gJ))else some (.inr PU)))) ([],fu)).bind fun EJ=>(cj EJ).bind fun xb=>some xb)
noncomputable def lu(x0:List Int)(x1:List Int):Option ((List Int)×(List Int)):=bD (fun(PW:Bool)=>(bif PW then(di x0).bind fun fy=>(di x1).bind fun gC=>(tG fy gC).bind fun gJ=>(iL gJ).bind fun fF=>(di x0).bind fun fQ=>(di x1).bind fun ny=>(DQ fQ ny).bind fun fI=>(iL fI).bind fun lI=>some (fF,lI)else(some (x0.length:Int)).bind fun oB=>(Ep 8 oB (0:Int)).bind fun qm=>(some (x1.length:Int)).bind fun wH=>(some (decide ((wH:Int)=1))).bind fun nB=>(bif nB then(some (x0.length:Int)).bind fun wI=>(some (IntKind.i64.wrap (wI-1))).bind fun rV=>(bk (fun(Xw:Int×Int×(List Int))=>match Xw with|⟨LN,Iy,CZ⟩=>(show Option ((Int×Int×(List Int))⊕(Int×(List Int)))from(some (decide ((0:Int)≤Iy))).bind fun yu=>(bif yu then(some (IntKind.i64.wrap (LN*65536))).bind fun ug=>(bR x0 Iy).bind fun Ub=>(some (IntKind.i64.wrap (ug+Ub))).bind fun GX=>(bR x1 0).bind fun Ss=>(tG GX Ss).bind fun DV=>(bR x1 0).bind fun NP=>(DQ GX NP).bind fun OR=>(wC CZ Iy).bind fun Ud=>(stM CZ Ud DV).bind fun l20=>(some (IntKind.i64.wrap (Iy-1))).bind fun q9=>some (.inl (OR,q9,l20))else some (.inr (LN,CZ))))) (0,rV,qm)).bind fun e18=>match e18 with|⟨PX,Kh⟩=>(cj Kh).bind fun YS=>(cj [PX]).bind fun x71=>some (YS,x71)else(some (x0.length:Int)).bind fun x73=>(some (IntKind.i64.wrap (x73-1))).bind fun St=>(bk (fun(Xx:(List Int)×Int×(List Int))=>match Xx with|⟨Iz,sI,sJ⟩=>(show Option (((List Int)×Int×(List Int))⊕((List Int)×(List Int)))from(some (decide ((0:Int)≤sI))).bind fun x76=>(bif x76 then(bR x0 sI).bind fun x81=>(mH 8 [x81] Iz).bind fun ZT=>(cj ZT).bind fun OU=>(some (OU.length:Int)).bind fun x88=>(some (x1.length:Int)).bind fun ZU=>(some (decide ((x88:Int)<ZU))).bind fun Wy=>bD (fun(PY:Int)=>(bk (fun(Vc:Int×Int)=>match Vc with|⟨l9,pL⟩=>(show Option ((Int×Int)⊕(Int))from(some (IntKind.i64.wrap (pL-l9))).bind fun x94=>(some (decide ((1:Int)<x94))).bind fun x95=>(bif x95 then(some (IntKind.i64.wrap (l9+pL))).bind fun x98=>(some (IntKind.i64.wrap (Int.tdiv x98 2))).bind fun Y1=>(dj x1 Y1).bind fun JQ=>(iu JQ OU).bind fun JR=>(some (decide ((JR:Int)≤0))).bind fun DX=>bD (fun(Y2:Int×Int)=>match Y2 with|⟨Ki,Kj⟩=>some (.inl (Ki,Kj))) fun K56=>(bif DX then K56 (Y1,pL)else K56 (l9,Y1))else some (.inr l9)))) (0,PY)).bind fun u0=>(dj x1 u0).bind fun JS=>(fj OU JS).bind fun PZ=>(wC sJ sI).bind fun SE=>(stM sJ SE u0).bind fun l58=>(some (IntKind.i64.wrap (sI-1))).bind fun x78=>some (.inl (PZ,x78,l58))) fun K46=>(bif Wy then K46 1 else K46 65536)else some (.inr (Iz,sJ))))) ([],St,qm)).bind fun e44=>match e44 with|⟨Vd,Kk⟩=>(cj Kk).bind fun aaQ=>some (aaQ,Vd)))) fun K3=>(some (x0.length:Int)).bind fun cE=>(some (decide ((cE:Int)≤3))).bind fun dz=>(bif dz then(some (x1.length:Int)).bind fun iC=>(some (decide ((iC:Int)≤3))).bind fun ik=>some ik else some false).bind fun P0=>K3 P0
noncomputable def c8(x0:Zr):Option (Int):=match x0 with|⟨az,aA⟩=>(bp aA).bind fun x5=>(some (x5.length:Int)).bind fun x6=>(some (decide ((x6:Int)=0))).bind fun x7=>(bif x7 then some 0 else(bif az then some (-1)else some 1))
noncomputable def nS(x0:Zr)(x1:Zr):Option (Int):=match x0 with|⟨az,aA⟩=>match x1 with|⟨aZ,aY⟩=>(c8 ⟨az,aA⟩).bind fun x7=>(c8 ⟨aZ,aY⟩).bind fun x9=>(some (decide ((x7:Int)≠x9))).bind fun cn=>(bif cn then(c8 ⟨az,aA⟩).bind fun bV=>(c8 ⟨aZ,aY⟩).bind fun cG=>(some (decide ((bV:Int)<cG))).bind fun cE=>(bif cE then some (-1)else some 1)else(bp aA).bind fun c6=>(bp aY).bind fun eH=>(iu c6 eH).bind fun fu=>(c8 ⟨az,aA⟩).bind fun eI=>(some (decide ((eI:Int)<0))).bind fun gC=>(bif gC then(some (IntKind.i64.wrap (0-fu))).bind fun fF=>some fF else some fu))
noncomputable def lz(x0:Zr):Option (Zr):=match x0 with|⟨az,aA⟩=>(some (!az)).bind fun x5=>(bp aA).bind fun x8=>(cm x5 x8).bind fun⟨CQ,CR⟩=>some ⟨CQ,CR⟩
noncomputable def nT(x0:Zr):Option (Zr):=match x0 with|⟨az,aA⟩=>(bp aA).bind fun x5=>(cm false x5).bind fun⟨xA,xB⟩=>some ⟨xA,xB⟩
noncomputable def nU(x0:Zr)(x1:Zr):Option (Zr):=match x0 with|⟨az,aA⟩=>match x1 with|⟨aZ,aY⟩=>(bp aA).bind fun x9=>(bp aY).bind fun bV=>(some (az==aZ)).bind fun cX=>(bif cX then(gi x9 bV).bind fun fu=>(cm az fu).bind fun⟨oC,oD⟩=>some ⟨oC,oD⟩else(iu x9 bV).bind fun gJ=>(some (decide ((0:Int)≤gJ))).bind fun fF=>(bif fF then(fj x9 bV).bind fun fI=>(cm az fI).bind fun⟨HS,HT⟩=>some ⟨HS,HT⟩else(fj bV x9).bind fun wH=>(cm aZ wH).bind fun⟨uV,uW⟩=>some ⟨uV,uW⟩))
noncomputable def gj(x0:Zr)(x1:Zr):Option (Zr):=match x0 with|⟨az,aA⟩=>match x1 with|⟨aZ,aY⟩=>(some (!(az==aZ))).bind fun x9=>(bp aA).bind fun bV=>(bp aY).bind fun cE=>(nR bV cE).bind fun dz=>(cm x9 dz).bind fun⟨nH,nI⟩=>some ⟨nH,nI⟩
noncomputable def lC(x0:Zr)(x1:Zr):Option (Zr×Zr×Int):=match x0 with|⟨az,aA⟩=>match x1 with|⟨aZ,aY⟩=>(bp aA).bind fun fR=>(bp aY).bind fun dz=>(some (dz.length:Int)).bind fun c6=>(some (decide ((c6:Int)=0))).bind fun iC=>(bif iC then some (⟨false,[]⟩,⟨false,[]⟩,7)else(lu fR dz).bind fun⟨Cj,FB⟩=>bD (fun(j3:Bool×Bool)=>match j3 with|⟨C0,xh⟩=>bD (fun(j5:(List Int)×(List Int))=>match j5 with|⟨OX,HI⟩=>(some (!(xh==aZ))).bind fun AD=>(cm AD OX).bind fun⟨HF,HG⟩=>(cm false HI).bind fun⟨HJ,HK⟩=>some (⟨HF,HG⟩,⟨HJ,HK⟩,0)) fun K5=>(bif C0 then(gi Cj [1]).bind fun oU=>(fj dz FB).bind fun nA=>K5 (oU,nA)else K5 (Cj,FB))) fun K3=>(bif az then(some (FB.length:Int)).bind fun fI=>(some (decide ((0:Int)<fI))).bind fun lI=>some lI else some false).bind fun Ve=>K3 (Ve,az))
noncomputable def nV(x0:Zr)(x1:Zr):Option (Zr):=match x0 with|⟨az,aA⟩=>match x1 with|⟨aZ,aY⟩=>(bp aA).bind fun eE=>(bp aY).bind fun cG=>(bk (fun(s6:(List Int)×(List Int))=>match s6 with|⟨kL,pz⟩=>(show Option (((List Int)×(List Int))⊕((List Int)))from(some (pz.length:Int)).bind fun dz=>(some (decide ((0:Int)<dz))).bind fun cX=>(bif cX then(lu kL pz).bind fun⟨afP,Nj⟩=>some (.inl (pz,Nj))else some (.inr kL)))) (eE,cG)).bind fun v5=>(cm false v5).bind fun⟨yz,wJ⟩=>some ⟨yz,wJ⟩
end Go.Proofs.YtfoldppidpmchaaGreat
namespace Go.Proofs.YtfoldppidpmchaaGreat
open Go.Fw Go.Fw.Z Go.RowKit
theorem c7{x0:List Int}{r:List Int}(h:cj x0=some r):Pure Tryz.prog 144 [slc 1 (List.map aV x0)] (slc 1 (List.map aV r)):=by
 refine ah Tryz.func144 rfl (Nat.le_of_ble_eq_true rfl) (fun b9 M vs hvs=>?_)
 unfold cj at h
 refine sr<|aI rfl (imp_nil (n:=1) (e:=aV))<|dn<|sr<|mv rfl<|lE h fun x5 h5 h=>ln rfl h5<|ag rfl<|dn<|qq<|bE h fun Bd sq mL=>?_
 refine aL (fun(Ke:Int)=>AS.bw 21 [(0,.sv (slc 1 (List.map aV x0))),(3,.sv (.v (.int .i64 Ke)))] [] []) (fun Ke=>Ke=Bd) ?_ (fun Ke su=>?_)
 refine aq ?_
 refine aM sq (fun qc=>AS.bw 21 [(0,.sv (slc 1 (List.map aV x0))),(3,.sv (.v (.int .i64 qc)))] [] []) (wR []) (fun yN Su Sv h sw o8=>?_)
 try dsimp only
 refine qq<|qq ?_
 refine aH h (fun Ck=>AS.bw 21 [(0,.sv (slc 1 (List.map aV x0))),(3,.sv (.v (.int .i64 yN))),(15,.sv (.v (.bool Ck)))] [] []) (fun h=>?_) (fun xD h=>?_)
 refine af<|mv rfl<|lE h fun x7 h7 h=>gt _ rfl rfl h7<|mv rfl<|bE h fun CU bZ h=>?_
 cases x7
 obtain rfl:=O (F bZ)
 exact ww<|ww<|ww<|ww<|ww<|ww<|pF rfl<|dn<|⟨false,h,wR []⟩
 refine gm rfl<|gm rfl<|lE (V bZ) fun eE jS bZ=>RT.sub (.some rfl rfl) _ rfl rfl T jS<|bE bZ fun bV dH bZ=>RT.T8 (.some rfl rfl) rfl rfl T dH<|gr rfl rfl<|lE bZ fun cG fT bZ=>Wp _ rfl rfl (Bb (p:=bV) (q:=0) fT) ?_
 obtain rfl:=O bZ
 exact pT rfl<|dn<|⟨cG,h,wR []⟩
 try dsimp only
 refine ae.n ?_
 cases xD
 refine cF<|aS<|ae.x<|ae.x<|aD.x<|ae.n ?_
 obtain rfl:=O (F h)
 exact⟨yN,o8 _ rfl,wR []⟩
 refine cT<|aC<|ae.n<|aq<|af<|mv rfl<|lE (V h) fun cX jd h=>sb _ rfl rfl jd<|ag rfl<|RT.done<|aD.n ?_
 obtain rfl:=O h
 exact ae.n ⟨cX,sw _ rfl,wR []⟩
 subst su
 try dsimp only
 refine ae.n<|sr<|mv rfl<|mv rfl<|bE mL fun ik nF mL=>RT.ua .none 0 Ke rfl rfl ⟨_,rfl⟩ T nF<|ag rfl<|dn<|aj ?_
 obtain rfl:=O mL
 exact R1 rfl
theorem bO{x0:List Nat}{r:List Int}(h:bp x0=some r):Pure Tryz.prog 119 [slc 1 (List.map ak x0)] (slc 1 (List.map aV r)):=by
 refine ah Tryz.func119 rfl (Nat.le_of_ble_eq_true rfl) (fun b9 M vs hvs=>?_)
 unfold bp at h
 refine sr<|aI rfl (imp_nil (n:=1) (e:=aV))<|dn<|sr<|ag rfl<|dn<|aK (cY 3 304 3 1 rfl rfl T)<|qq<|sr<|ag rfl<|dn<|bE h fun e6 xj jh=>?_
 refine aL (fun(cz:(List Int))=>AS.bw 28 [(3,.row 306)] [] [(306,TR 3 1 aV cz)]) (fun cz=>cz=e6) ?_ (fun cz xk=>?_)
 refine aq ?_
 refine aM xj (fun s6=>AS.bw 28 [(0,.sv (slc 1 (List.map ak x0))),(3,.row 306),(4,.sv (.v (.int .i64 s6.1)))] [] [(306,TR 3 1 aV s6.2)]) (bK (fun i=>bif Nat.beq i 306 then 304 else i) rfl rfl rfl rfl rfl ⟨.sv (SV.aa _),.row rfl,.sv (SV.aa _),trivial⟩ trivial ⟨⟨_,rfl,bB.refl _⟩,trivial⟩ (fun i hi=>by rw[bf (show i≠306 by omega)];rfl)) (fun s6 y6 G6 h xl sx=>?_)
 obtain⟨m7,iK⟩:=s6
 try dsimp only
 refine qq<|sr<|mv rfl<|mv rfl<|lE h fun x7 h7 h=>ln rfl h7<|lE h fun x8 h8 h=>ls _ rfl rfl h8<|dn ?_
 cases x8
 refine cF<|aS<|ae.x<|ae.x<|aD.x<|ae.n ?_
 obtain rfl:=O (F h)
 exact⟨iK,sx _ rfl,wR []⟩
 refine cT<|aC<|ae.n<|qq<|aq<|ai mixed<|mo (s:=.row _) rfl<|mv rfl<|mv rfl<|bE (V h) fun cG fT h=>ix rfl rfl fT<|lr rfl rfl<|lE h fun dz gZ h=>RT.rem .none _ rfl rfl T (by decide) (T7 (a:=cG) (b:=65536) gZ)<|lE h fun cX jd h=>cv _ rfl jd<|mv rfl<|mv rfl<|bE h fun ik nF h=>ix rfl rfl nF<|lr rfl rfl<|lE h fun fu kM h=>RT.quo .none _ rfl rfl T (by decide) (UK.ZB (a:=ik) (b:=65536) kM) ?_
 refine lE h fun fy kN h=>cv _ rfl kN<|bl (l:=[cX,fy]) (e:=aV) (.one rfl (.one rfl (.nil))) rfl rfl rfl rfl rfl rfl<|bE h fun gC lS h=>aR (k:=[cX,fy]) (e:=aV) rfl rfl rfl lS<|an (s:=.row _) rfl ?_
 refine RT.done ⟨by kernel_rfl,?_⟩
 refine aD.n<|ae.n<|af<|mv rfl<|lE h fun cn ep h=>ad _ rfl rfl ep<|ag rfl<|RT.done ?_
 obtain rfl:=O h
 exact ae.n ⟨(cn,gC),xl _ rfl,bK (fun i=>bif Nat.beq i 306 then 25 else i) rfl rfl rfl rfl rfl ⟨.sv (SV.aa _),.row rfl,.sv (SV.aa _),trivial⟩ trivial ⟨⟨_,rfl,bB.refl _⟩,trivial⟩ (fun i hi=>by rw[bf (show i≠306 by omega)];rfl)⟩
 subst xk
 try dsimp only
 refine ae.n<|qq<|aK (bh (i:=306) (E1:=3) (n:=1) (e:=aV) (l:=cz) rfl)<|af<|mv rfl<|bE jh fun fF mR jh=>cl (c7 mR) ⟨rfl,trivial⟩<|ag rfl<|dn<|aj ?_
 obtain rfl:=O jh
 exact R1 rfl
theorem eA{x0:List Int}{x1:Int}{r:Int}(h:da x0 x1=some r):Pure Tryz.prog 145 [slc 1 (List.map aV x0),.v (.int .i64 x1)] (.v (.int .i64 r)):=by
 refine ah Tryz.func145 rfl (Nat.le_of_ble_eq_true rfl) (fun b9 M vs hvs=>?_)
 unfold da at h
 refine sr<|ag rfl<|dn<|qq<|sr<|mv rfl<|mv rfl<|lE h fun x7 h7 h=>ln rfl h7<|lE h fun x8 h8 h=>ls _ rfl rfl h8<|dn ?_
 cases x8
 refine fs<|sr<|ag rfl<|dn<|aj ?_
 obtain rfl:=O (F h)
 exact R1 rfl
 refine cT<|sr<|mv rfl<|mv rfl<|bE (V h) fun eE jS h=>ix rfl rfl jS<|lr rfl rfl<|ag rfl<|dn<|aj<|ae.r ?_
 obtain rfl:=O h
 exact R1 rfl
theorem fk{x0:Bool}{x1:List Int}{r:Zr}(h:cm x0 x1=some r):Pure Tryz.prog 118 [.v (.bool x0),slc 1 (List.map aV x1)] (.agg (eZ r)):=by
 refine ah Tryz.func118 rfl (Nat.le_of_ble_eq_true rfl) (fun b9 M vs hvs=>?_)
 unfold cm at h
 refine sr<|al (cs:=[.v (.bool false),slc 1 (List.map ak [])]) (by exact⟨SV.aa _,imp_nil,trivial⟩) rfl<|dn<|sr<|mv rfl<|bE h fun x8 h8 h=>cl (c7 h8) ⟨rfl,trivial⟩<|ag rfl<|dn<|sr<|ag rfl<|dn<|aK (cY 5 304 106 1 rfl rfl T)<|qq<|sr<|ag rfl<|dn<|bE h fun e6 xj jh=>?_
 refine aL (fun(cz:(List Nat))=>AS.bw 37 [(0,.sv (.v (.bool x0))),(4,.ptr 4 0),(5,.row 306)] [(4,⟨34,[.sv (.v (.bool false)),.sv (slc 1 (List.map ak []))]⟩)] [(306,TR 106 1 ak cz)]) (fun cz=>cz=e6) ?_ (fun cz xk=>?_)
 refine aq ?_
 refine aM xj (fun s6=>AS.bw 37 [(0,.sv (.v (.bool x0))),(1,.sv (slc 1 (List.map aV x8))),(4,.ptr 4 0),(5,.row 306),(6,.sv (.v (.int .i64 s6.1)))] [(4,⟨34,[.sv (.v (.bool false)),.sv (slc 1 (List.map ak []))]⟩)] [(306,TR 106 1 ak s6.2)]) (bK (fun i=>bif Nat.beq i 306 then 304 else i) rfl rfl rfl rfl rfl ⟨.sv (SV.aa _),.sv (SV.aa _),.ptr,.row rfl,.sv (SV.aa _),trivial⟩ ⟨⟨_,rfl,⟨.sv (SV.aa _),.sv (SV.aa _),trivial⟩⟩,trivial⟩ ⟨⟨_,rfl,bB.refl _⟩,trivial⟩ (fun i hi=>by rw[bf (show i≠306 by omega)];rfl)) (fun s6 y6 G6 h xl sx=>?_)
 obtain⟨pz,iK⟩:=s6
 try dsimp only
 refine qq<|sr<|mv rfl<|mv rfl<|lE h fun eE jS h=>ln rfl jS<|lE h fun bV dH h=>ls _ rfl rfl dH<|dn ?_
 cases bV
 refine cF<|aS<|ae.x<|ae.x<|aD.x<|ae.n ?_
 obtain rfl:=O (F h)
 exact⟨iK,sx _ rfl,wR []⟩
 refine cT<|aC<|ae.n<|qq<|aq<|af<|mo (s:=.row _) rfl<|mv rfl<|mv rfl<|bE (V h) fun c6 iS h=>cl (eA iS) ⟨rfl,rfl,trivial⟩<|lE h fun iC kp h=>cv _ rfl (UK.conv kp)<|mv rfl<|mv rfl<|lE h fun fu kM h=>ad _ rfl rfl kM<|bE h fun fy kN h=>cl (eA kN) ⟨rfl,rfl,trivial⟩<|lE h fun eI mI h=>cv _ rfl (UK.conv mI)<|lE h fun gC lS h=>RT.mul .none _ rfl rfl T (UK.mul (a:=eI) (b:=65536) lS) ?_
 refine lE h fun gJ mY h=>ad _ rfl rfl (UK.add (a:=iC) (b:=gC) mY)<|bl (l:=[gJ]) (e:=ak) (.one rfl (.nil)) rfl rfl rfl rfl rfl rfl<|bE h fun jr o9 h=>aR (k:=[gJ]) (e:=ak) rfl rfl rfl o9<|an (s:=.row _) rfl<|RT.done<|aD.n<|ae.n<|af<|mv rfl<|lE h fun cG fT h=>ad _ rfl rfl fT<|ag rfl<|RT.done ?_
 obtain rfl:=O h
 exact ae.n ⟨(cG,jr),xl _ rfl,bK (fun i=>bif Nat.beq i 306 then 28 else i) rfl rfl rfl rfl rfl ⟨.sv (SV.aa _),.sv (SV.aa _),.ptr,.row rfl,.sv (SV.aa _),trivial⟩ ⟨⟨_,rfl,⟨.sv (SV.aa _),.sv (SV.aa _),trivial⟩⟩,trivial⟩ ⟨⟨_,rfl,bB.refl _⟩,trivial⟩ (fun i hi=>by rw[bf (show i≠306 by omega)];rfl)⟩
 subst xk
 try dsimp only
 refine ae.n<|qq ?_
 refine aH jh (fun j9=>AS.bw 37 [(4,.ptr 4 0)] [(4,⟨34,[.sv (.v (.bool j9)),.sv (slc 1 (List.map ak cz))]⟩)] []) (fun jh=>?_) (fun PR jh=>?_)
 refine aK (bh (i:=306) (E1:=106) (n:=1) (e:=ak) (l:=cz) rfl)<|af<|mv rfl<|mv rfl<|bE jh fun PS xF jh=>?_
 cases x0
 obtain rfl:=O (F xF)
 exact ww<|ww<|ww<|pF rfl<|mv rfl<|bI (cs:=[_,_]) (cs':=[.v (.bool false),slc 1 (List.map ak cz)]) (.one rfl (.one rfl (.nil))) ⟨SV.aa _,SV.aa _,trivial⟩<|so rfl rfl rfl<|dn<|⟨false,jh,wR []⟩
 refine gm rfl<|lE (V xF) fun fI mZ xF=>gn rfl mZ<|lE xF fun lI th xF=>gg _ rfl rfl th ?_
 obtain rfl:=O xF
 exact pT rfl<|mv rfl<|bI (cs:=[_,_]) (cs':=[.v (.bool lI),slc 1 (List.map ak cz)]) (.one rfl (.one rfl (.nil))) ⟨SV.aa _,SV.aa _,trivial⟩<|so rfl rfl rfl<|dn<|⟨lI,jh,wR []⟩
 try dsimp only
 refine ae.n<|aj ?_
 obtain rfl:=O jh
 exact RZ (.agg rfl rfl (.cons rfl (.cons rfl (.nil))) rfl (.nil))
theorem va{x0:Zr}{r:Zr}(h:gE x0=some r):Pure Tryz.prog 89 [.agg (eZ x0)] (.agg (eZ r)):=by
 obtain⟨az,aA⟩:=x0
 refine ah Tryz.func89 rfl (Nat.le_of_ble_eq_true rfl) (fun b9 M vs hvs=>?_)
 unfold gE at h
 refine sr<|bx rfl<|al (cs:=[.v (.bool false),slc 1 (List.map ak [])]) (by exact⟨SV.aa _,imp_nil,trivial⟩) rfl<|dn<|qq<|ai mixed<|fa rfl rfl<|lV rfl rfl rfl<|fa rfl rfl<|lV rfl rfl rfl<|bE h fun x7 h7 h=>cl (bO h7) ⟨rfl,trivial⟩ ?_
 obtain⟨⟨og,oh⟩,h8,h⟩:=bS h
 refine cl (fk h8) ⟨rfl,rfl,trivial⟩<|so rfl rfl rfl ?_
 refine RT.done ⟨by kernel_rfl,?_⟩
 refine ae.n<|aj ?_
 obtain rfl:=O h
 exact RZ (.agg rfl rfl (.cons rfl (.cons rfl (.nil))) rfl (.nil))
theorem wO{x0:Zr}{x1:Zr}{r:Bool}(h:jW x0 x1=some r):Pure Tryz.prog 140 [.agg (eZ x0),.agg (eZ x1)] (.v (.bool r)):=by
 obtain⟨az,aA⟩:=x0
 obtain⟨aZ,aY⟩:=x1
 refine ah Tryz.func140 rfl (Nat.le_of_ble_eq_true rfl) (fun b9 M vs hvs=>?_)
 unfold jW at h
 refine sr<|bx rfl<|bx rfl<|ag rfl<|dn<|qq<|qq ?_
 refine aH h (fun j3=>AS.bw 38 [(2,.ptr 2 0),(3,.ptr 3 0),(19,.sv (.v (.bool j3)))] [(3,⟨34,[.sv (.v (.bool aZ)),.sv (slc 1 (List.map ak aY))]⟩),(2,⟨34,[.sv (.v (.bool az)),.sv (slc 1 (List.map ak aA))]⟩)] []) (fun h=>?_) (fun CM h=>?_)
 refine af<|fa rfl rfl<|lV rfl rfl rfl<|fa rfl rfl<|lV rfl rfl rfl<|lE h fun cn ep h=>RT.MM .none _ rfl rfl T ep<|mv rfl<|bE h fun F2 xF h=>?_
 cases cn
 refine RT.fieldAddr (.some rfl rfl) rfl T rfl<|RT.kV (.some rfl rfl) rfl rfl rfl T<|lE (F xF) fun cG fT xF=>gn rfl fT<|RT.fieldAddr (.some rfl rfl) rfl T rfl<|RT.kV (.some rfl rfl) rfl rfl rfl T<|lE xF fun cX jd xF=>gn rfl jd<|lE xF fun c6 iS xF=>gq _ rfl rfl (DJ (p:=cG) (q:=cX) iS) ?_
 obtain rfl:=O xF
 exact pF rfl<|dn<|⟨c6,h,wR []⟩
 obtain rfl:=O (V xF)
 exact ww<|ww<|ww<|ww<|ww<|ww<|ww<|pT rfl<|dn<|⟨true,h,wR []⟩
 try dsimp only
 refine ae.n ?_
 cases CM
 refine fs<|qq<|sr<|ag rfl<|dn<|bE (F h) fun e9 hl9 NR=>?_
 refine aL (fun(PO:Unit)=>AS.bw 38 [] [] []) (fun PO=>.inl PO=e9) ?_ (fun PO hx9=>?_)
 refine aq ?_
 refine aM hl9 (fun s9=>AS.bw 38 [(2,.ptr 2 0),(3,.ptr 3 0),(5,.sv (.v (.int .i64 s9)))] [(3,⟨34,[.sv (.v (.bool aZ)),.sv (slc 1 (List.map ak aY))]⟩),(2,⟨34,[.sv (.v (.bool az)),.sv (slc 1 (List.map ak aA))]⟩)] []) (wR []) (fun Bc y9 G9 h hG9 U9=>?_)
 try dsimp only
 refine qq<|sr<|mv rfl<|fa rfl rfl<|lV rfl rfl rfl<|lE h fun fy kN h=>ln rfl kN<|lE h fun eI mI h=>ls _ rfl rfl mI<|dn ?_
 cases eI
 refine cF<|aS<|ae.x<|ae.x<|aD.x<|ae.n ?_
 obtain rfl:=O (F h)
 exact⟨(),U9 _ rfl,wR []⟩
 refine cT<|aC<|ae.n<|qq<|aq<|qq<|ai mixed<|fa rfl rfl<|lV rfl rfl rfl<|mv rfl<|bE (V h) fun uf zX h=>ix rfl rfl zX<|lr rfl rfl<|fa rfl rfl<|lV rfl rfl rfl<|mv rfl<|bE h fun oB xm h=>ix rfl rfl xm<|lr rfl rfl<|lE h fun oU Bf h=>ne _ rfl rfl (ZA (p:=uf) (q:=oB) Bf) ?_
 refine RT.done ⟨by kernel_rfl,?_⟩
 refine ae.n ?_
 cases oU
 refine cF<|aC<|aD.n<|ae.n<|af<|mv rfl<|lE (F h) fun gJ mY h=>ad _ rfl rfl mY<|ag rfl<|RT.done ?_
 obtain rfl:=O h
 exact ae.n ⟨gJ,hG9 _ rfl,wR []⟩
 refine cT<|sr<|ag rfl<|dn<|aj<|aD.r<|ae.r ?_
 obtain rfl:=O (V h)
 have he9:=U9 _ rfl
 subst he9
 refine ae.r<|aD.r<|ae.r<|ae.r ?_
 obtain rfl:=O NR
 exact R1 rfl
 subst hx9
 try dsimp only
 refine ae.n<|sr<|ag rfl<|dn<|aj ?_
 obtain rfl:=O NR
 exact R1 rfl
 refine cT<|sr<|ag rfl<|dn<|aj<|ae.r ?_
 obtain rfl:=O (V h)
 exact R1 rfl
theorem nj{x0:Int}{r:Zr}(h:gh x0=some r):Pure Tryz.prog 49 [.v (.int .i64 x0)] (.agg (eZ r)):=by
 refine ah Tryz.func49 rfl (Nat.le_of_ble_eq_true rfl) (fun b9 M vs hvs=>?_)
 unfold gh at h
 refine sr<|al (cs:=[.v (.bool false),slc 1 (List.map ak [])]) (by exact⟨SV.aa _,imp_nil,trivial⟩) rfl<|dn<|sr<|mv rfl<|lE h fun x5 h5 h=>cv _ rfl (UK.conv h5)<|ag rfl<|dn<|qq<|sr<|mv rfl<|lE h fun x7 h7 h=>ls _ rfl rfl h7<|dn ?_
 refine aH h (fun j2=>AS.bw 21 [(0,.sv (.v (.int .i64 x0))),(2,.ptr 2 0),(3,.sv (.v (.int .u64 ((j2:Nat):Int))))] [(2,⟨34,[.sv (.v (.bool false)),.sv (slc 1 (List.map ak []))]⟩)] []) (fun h=>?_) (fun HE h=>?_)
 cases x7
 exact fs<|⟨x5,(F h),wR []⟩
 exact cT<|af<|mv rfl<|lE (V h) fun x9 h9 h=>RT.neg .none _ rfl T (UK.neg h9)<|ag rfl<|dn<|⟨x9,h,wR []⟩
 try dsimp only
 refine ae.n<|sr<|mv rfl<|lE h fun eE jS h=>ls _ rfl rfl jS<|mv rfl<|lE h fun fR jn h=>RT.rem .none _ rfl rfl T (by decide) (T7 (a:=HE) (b:=4294967296) jn)<|lE h fun cG fT h=>cv _ rfl (UK.nat fT)<|mv rfl<|lE h fun dz gZ h=>RT.quo .none _ rfl rfl T (by decide) (UK.ZB (a:=HE) (b:=4294967296) gZ)<|lE h fun cX jd h=>cv _ rfl (UK.nat jd)<|bl (l:=[cG,cX]) (e:=ak) (.one rfl (.one rfl (.nil))) rfl rfl rfl rfl rfl rfl<|bI (cs:=[_,_]) (cs':=[.v (.bool eE),slc 1 (List.map ak [cG,cX])]) (.one rfl (.one rfl (.nil))) ⟨SV.aa _,SV.aa _,trivial⟩ ?_
 obtain⟨⟨pA,pB⟩,nF,h⟩:=bS h
 refine cl (va nF) ⟨rfl,trivial⟩<|so rfl rfl rfl<|dn<|aj ?_
 obtain rfl:=O h
 exact RZ (.agg rfl rfl (.cons rfl (.cons rfl (.nil))) rfl (.nil))
end Go.Proofs.YtfoldppidpmchaaGreat
namespace Go.Proofs.YtfoldppidpmchaaGreat
open Go.Fw Go.Fw.Z Go.RowKit
theorem sK{x0:List Int}{x1:List Int}{r:Int}(h:iu x0 x1=some r):Pure Tryz.prog 154 [slc 1 (List.map aV x0),slc 1 (List.map aV x1)] (.v (.int .i64 r)):=by
 refine ah Tryz.func154 rfl (Nat.le_of_ble_eq_true rfl) (fun b9 M vs hvs=>?_)
 unfold iu at h
 refine sr<|ag rfl<|dn<|qq<|sr<|mv rfl<|lE h fun x7 h7 h=>ln rfl h7<|mv rfl<|lE h fun x9 h9 h=>ln rfl h9<|lE h fun cn ep h=>RT.max .none _ rfl rfl T (Ow (p:=x7) (q:=x9) ep)<|lE h fun eE jS h=>sb _ rfl rfl jS<|ag rfl<|dn<|bE h fun e6 xj jh=>?_
 refine aL (fun(Cm:Unit)=>AS.bw 30 [] [] []) (fun Cm=>.inl Cm=e6) ?_ (fun Cm xk=>?_)
 refine aq ?_
 refine aM xj (fun s6=>AS.bw 30 [(0,.sv (slc 1 (List.map aV x0))),(1,.sv (slc 1 (List.map aV x1))),(5,.sv (.v (.int .i64 s6)))] [] []) (wR []) (fun kL y6 G6 h xl sx=>?_)
 try dsimp only
 refine qq<|sr<|mv rfl<|lE h fun fR jn h=>ge _ rfl rfl jn<|dn ?_
 cases fR
 refine cF<|aS<|ae.x<|ae.x<|aD.x<|ae.n ?_
 obtain rfl:=O (F h)
 exact⟨(),sx _ rfl,wR []⟩
 refine cT<|aC<|ae.n<|qq<|aq<|qq<|sr<|mv rfl<|mv rfl<|bE (V h) fun c6 iS h=>cl (eA iS) ⟨rfl,rfl,trivial⟩<|mv rfl<|mv rfl<|bE h fun eH jT h=>cl (eA jT) ⟨rfl,rfl,trivial⟩<|lE h fun fu kM h=>ls _ rfl rfl kM<|dn ?_
 cases fu
 refine fs<|sr<|mv rfl<|mv rfl<|bE (F h) fun gC lS h=>cl (eA lS) ⟨rfl,rfl,trivial⟩<|mv rfl<|mv rfl<|bE h fun jr o9 h=>cl (eA o9) ⟨rfl,rfl,trivial⟩<|lE h fun fQ lJ h=>gt _ rfl rfl lJ<|dn ?_
 cases fQ
 refine cF<|aC<|aD.n<|ae.n<|af<|mv rfl<|lE (F h) fun cE fS h=>sb _ rfl rfl fS<|ag rfl<|RT.done ?_
 obtain rfl:=O h
 exact ae.n ⟨cE,xl _ rfl,wR []⟩
 refine cT<|sr<|ag rfl<|dn<|aj<|aD.r<|ae.r ?_
 obtain rfl:=O (V h)
 have JX:=sx _ rfl
 subst JX
 refine ae.r<|aD.r<|ae.r<|ae.r ?_
 obtain rfl:=O jh
 exact R1 rfl
 refine cT<|sr<|ag rfl<|dn<|aj<|ae.r<|aD.r<|ae.r ?_
 obtain rfl:=O (V h)
 have JX:=sx _ rfl
 subst JX
 refine ae.r<|aD.r<|ae.r<|ae.r ?_
 obtain rfl:=O jh
 exact R1 rfl
 subst xk
 try dsimp only
 refine ae.n<|sr<|ag rfl<|dn<|aj ?_
 obtain rfl:=O jh
 exact R1 rfl
theorem sL{x0:List Int}{x1:List Int}{r:List Int}(h:gi x0 x1=some r):Pure Tryz.prog 152 [slc 1 (List.map aV x0),slc 1 (List.map aV x1)] (slc 1 (List.map aV r)):=by
 refine ah Tryz.func152 rfl (Nat.le_of_ble_eq_true rfl) (fun b9 M vs hvs=>?_)
 unfold gi at h
 refine sr<|aI rfl (imp_nil (n:=1) (e:=aV))<|dn<|sr<|ag rfl<|dn<|aK (cY 5 304 3 1 rfl rfl T)<|sr<|ag rfl<|dn<|qq<|sr<|ag rfl<|dn<|bE h fun IA Ab vc=>?_
 refine aL (fun(sH:(List Int))=>AS.bw 43 [(5,.row 306)] [] [(306,TR 3 1 aV sH)]) (fun sH=>sH=IA) ?_ (fun sH xG=>?_)
 refine aq ?_
 refine aM Ab (fun uZ=>AS.bw 43 [(0,.sv (slc 1 (List.map aV x0))),(1,.sv (slc 1 (List.map aV x1))),(5,.row 306),(6,.sv (.v (.int .i64 uZ.1))),(7,.sv (.v (.int .i64 uZ.2.1)))] [] [(306,TR 3 1 aV uZ.2.2)]) (bK (fun i=>bif Nat.beq i 306 then 304 else i) rfl rfl rfl rfl rfl ⟨.sv (SV.aa _),.sv (SV.aa _),.row rfl,.sv (SV.aa _),.sv (SV.aa _),trivial⟩ trivial ⟨⟨_,rfl,bB.refl _⟩,trivial⟩ (fun i hi=>by rw[bf (show i≠306 by omega)];rfl)) (fun uZ y16 G16 h C1 Ad=>?_)
 obtain⟨Bn,Kf,CV⟩:=uZ
 try dsimp only
 refine qq<|qq ?_
 refine aH h (fun j22=>AS.bw 43 [(0,.sv (slc 1 (List.map aV x0))),(1,.sv (slc 1 (List.map aV x1))),(5,.row 306),(6,.sv (.v (.int .i64 Bn))),(7,.sv (.v (.int .i64 Kf))),(22,.sv (.v (.bool j22)))] [] [(306,TR 3 1 aV CV)]) (fun h=>?_) (fun Kg h=>?_)
 refine af<|mv rfl<|mv rfl<|lE h fun eE jS h=>ln rfl jS<|lE h fun bV dH h=>ls _ rfl rfl dH<|mv rfl<|bE h fun Kc ig h=>?_
 cases bV
 refine gm rfl<|gm rfl<|lE (F ig) fun dz gZ ig=>gn rfl gZ<|lE ig fun cX jd ig=>RT.lss (.some rfl rfl) _ rfl rfl T jd ?_
 obtain rfl:=O ig
 refine pF rfl<|mv rfl<|bE h fun afQ nQ h=>?_
 cases cX
 refine gm rfl<|lE (F nQ) fun eH jT nQ=>gg _ rfl rfl jT ?_
 obtain rfl:=O nQ
 exact pF rfl<|dn<|⟨eH,h,wR []⟩
 obtain rfl:=O (V nQ)
 exact ww<|ww<|pT rfl<|dn<|⟨true,h,wR []⟩
 obtain rfl:=O (V ig)
 refine ww<|ww<|ww<|ww<|pT rfl<|mv rfl<|bE h fun afR Bo h=>?_
 obtain rfl:=O (V Bo)
 exact ww<|ww<|pT rfl<|dn<|⟨true,h,wR []⟩
 try dsimp only
 refine ae.n ?_
 cases Kg
 refine cF<|aS<|ae.x<|ae.x<|aD.x<|ae.n ?_
 obtain rfl:=O (F h)
 exact⟨CV,Ad _ rfl,wR []⟩
 refine cT<|aC<|ae.n<|qq<|aq<|sr<|mv rfl<|mv rfl<|bE (V h) fun fF mR h=>cl (eA mR) ⟨rfl,rfl,trivial⟩<|mv rfl<|mv rfl<|bE h fun uf zX h=>cl (eA zX) ⟨rfl,rfl,trivial⟩<|lE h fun ny xU h=>ad _ rfl rfl xU<|mv rfl<|lE h fun lI th h=>ad _ rfl rfl th<|ag rfl<|dn<|sr<|mo (s:=.row _) rfl<|mv rfl<|lE h fun qm vZ h=>?_
 refine RT.rem .none _ rfl rfl T (by decide) vZ<|bl (l:=[qm]) (e:=aV) (.one rfl (.nil)) rfl rfl rfl rfl rfl rfl<|bE h fun wH FD h=>aR (k:=[qm]) (e:=aV) rfl rfl rfl FD<|an (s:=.row _) rfl<|dn<|af<|mv rfl<|lE h fun nA tO h=>RT.quo .none _ rfl rfl T (by decide) tO<|ag rfl<|RT.done<|aD.n<|ae.n<|af<|mv rfl<|lE h fun eI mI h=>ad _ rfl rfl mI<|ag rfl<|RT.done ?_
 obtain rfl:=O h
 exact ae.n ⟨(nA,eI,wH),C1 _ rfl,bK (fun i=>bif Nat.beq i 306 then 38 else i) rfl rfl rfl rfl rfl ⟨.sv (SV.aa _),.sv (SV.aa _),.row rfl,.sv (SV.aa _),.sv (SV.aa _),trivial⟩ trivial ⟨⟨_,rfl,bB.refl _⟩,trivial⟩ (fun i hi=>by rw[bf (show i≠306 by omega)];rfl)⟩
 subst xG
 try dsimp only
 refine ae.n<|qq<|aK (bh (i:=306) (E1:=3) (n:=1) (e:=aV) (l:=sH) rfl)<|af<|mv rfl<|bE vc fun rV D0 vc=>cl (c7 D0) ⟨rfl,trivial⟩<|ag rfl<|dn<|aj ?_
 obtain rfl:=O vc
 exact R1 rfl
theorem oK{x0:List Int}{x1:List Int}{r:List Int}(h:fj x0 x1=some r):Pure Tryz.prog 153 [slc 1 (List.map aV x0),slc 1 (List.map aV x1)] (slc 1 (List.map aV r)):=by
 refine ah Tryz.func153 rfl (Nat.le_of_ble_eq_true rfl) (fun b9 M vs hvs=>?_)
 unfold fj at h
 refine sr<|aI rfl (imp_nil (n:=1) (e:=aV))<|dn<|sr<|ag rfl<|dn<|aK (cY 5 304 3 1 rfl rfl T)<|sr<|ag rfl<|dn<|qq<|sr<|ag rfl<|dn<|bE h fun e8 Co uy=>?_
 refine aL (fun(qR:(List Int))=>AS.bw 34 [(5,.row 306)] [] [(306,TR 3 1 aV qR)]) (fun qR=>qR=e8) ?_ (fun qR Cp=>?_)
 refine aq ?_
 refine aM Co (fun s8=>AS.bw 34 [(0,.sv (slc 1 (List.map aV x0))),(1,.sv (slc 1 (List.map aV x1))),(5,.row 306),(6,.sv (.v (.int .i64 s8.1))),(7,.sv (.v (.int .i64 s8.2.1)))] [] [(306,TR 3 1 aV s8.2.2)]) (bK (fun i=>bif Nat.beq i 306 then 304 else i) rfl rfl rfl rfl rfl ⟨.sv (SV.aa _),.sv (SV.aa _),.row rfl,.sv (SV.aa _),.sv (SV.aa _),trivial⟩ trivial ⟨⟨_,rfl,bB.refl _⟩,trivial⟩ (fun i hi=>by rw[bf (show i≠306 by omega)];rfl)) (fun s8 y8 G8 h Cq Cr=>?_)
 obtain⟨HC,Nn,qQ⟩:=s8
 try dsimp only
 refine qq<|sr<|mv rfl<|mv rfl<|lE h fun eE jS h=>ln rfl jS<|lE h fun bV dH h=>ls _ rfl rfl dH<|dn ?_
 cases bV
 refine cF<|aS<|ae.x<|ae.x<|aD.x<|ae.n ?_
 obtain rfl:=O (F h)
 exact⟨qQ,Cr _ rfl,wR []⟩
 refine cT<|aC<|ae.n<|qq<|aq<|sr<|mv rfl<|mv rfl<|bE (V h) fun cX jd h=>cl (eA jd) ⟨rfl,rfl,trivial⟩<|mv rfl<|mv rfl<|bE h fun ik nF h=>cl (eA nF) ⟨rfl,rfl,trivial⟩<|lE h fun eH jT h=>sb _ rfl rfl jT<|mv rfl<|lE h fun fy kN h=>sb _ rfl rfl kN<|ag rfl<|dn<|sr<|ag rfl<|dn<|qq<|sr<|mv rfl<|lE h fun gC lS h=>?_
 refine ls _ rfl rfl lS<|dn ?_
 refine aH h (fun RK=>AS.bw 34 [(0,.sv (slc 1 (List.map aV x0))),(1,.sv (slc 1 (List.map aV x1))),(5,.row 306),(6,.sv (.v (.int .i64 RK.1))),(7,.sv (.v (.int .i64 Nn))),(8,.sv (.v (.int .i64 RK.2)))] [] [(306,TR 3 1 aV qQ)]) (fun h=>?_) (fun RK h=>?_)
 cases gC
 exact fs<|⟨(0,fy),(F h),wR []⟩
 exact cT<|sr<|mv rfl<|lE (V h) fun fF mR h=>ad _ rfl rfl mR<|ag rfl<|dn<|af<|ag rfl<|dn<|⟨(1,fF),h,wR []⟩
 obtain⟨Xv,SD⟩:=RK
 try dsimp only
 refine ae.n<|af<|mo (s:=.row _) rfl<|mv rfl<|bl (l:=[SD]) (e:=aV) (.one rfl (.nil)) rfl rfl rfl rfl rfl rfl<|bE h fun ny xU h=>aR (k:=[SD]) (e:=aV) rfl rfl rfl xU<|an (s:=.row _) rfl<|RT.done<|aD.n<|ae.n<|af<|mv rfl<|lE h fun cG fT h=>ad _ rfl rfl fT<|ag rfl<|RT.done ?_
 obtain rfl:=O h
 exact ae.n ⟨(Xv,cG,ny),Cq _ rfl,bK (fun i=>bif Nat.beq i 306 then 31 else i) rfl rfl rfl rfl rfl ⟨.sv (SV.aa _),.sv (SV.aa _),.row rfl,.sv (SV.aa _),.sv (SV.aa _),trivial⟩ trivial ⟨⟨_,rfl,bB.refl _⟩,trivial⟩ (fun i hi=>by rw[bf (show i≠306 by omega)];rfl)⟩
 subst Cp
 try dsimp only
 refine ae.n<|qq<|aK (bh (i:=306) (E1:=3) (n:=1) (e:=aV) (l:=qR) rfl)<|af<|mv rfl<|bE uy fun lI th uy=>cl (c7 th) ⟨rfl,trivial⟩<|ag rfl<|dn<|aj ?_
 obtain rfl:=O uy
 exact R1 rfl
theorem g9{x0:List Int}{r:Int}(h:di x0=some r):Pure Tryz.prog 162 [slc 1 (List.map aV x0)] (.v (.int .i64 r)):=by
 refine ah Tryz.func162 rfl (Nat.le_of_ble_eq_true rfl) (fun b9 M vs hvs=>?_)
 unfold di at h
 refine sr<|ag rfl<|dn<|sr<|ag rfl<|dn<|qq<|sr<|mv rfl<|lE h fun x6 h6 h=>ln rfl h6<|lE h fun x7 h7 h=>sb _ rfl rfl h7<|ag rfl<|dn<|bE h fun e6 xj jh=>?_
 refine aL (fun(rI:Int)=>AS.bw 20 [(3,.sv (.v (.int .i64 rI)))] [] []) (fun rI=>rI=e6) ?_ (fun rI xk=>?_)
 refine aq ?_
 refine aM xj (fun s6=>AS.bw 20 [(0,.sv (slc 1 (List.map aV x0))),(3,.sv (.v (.int .i64 s6.1))),(4,.sv (.v (.int .i64 s6.2)))] [] []) (wR []) (fun s6 y6 G6 h xl sx=>?_)
 obtain⟨kn,m7⟩:=s6
 try dsimp only
 refine qq<|sr<|mv rfl<|lE h fun x9 h9 h=>ge _ rfl rfl h9<|dn ?_
 cases x9
 refine cF<|aS<|ae.x<|ae.x<|aD.x<|ae.n ?_
 obtain rfl:=O (F h)
 exact⟨kn,sx _ rfl,wR []⟩
 refine cT<|aC<|ae.n<|qq<|aq<|af<|mv rfl<|lE (V h) fun fR jn h=>RT.mul .none _ rfl rfl T jn<|mv rfl<|mv rfl<|bE h fun dz gZ h=>ix rfl rfl gZ<|lr rfl rfl<|lE h fun c6 iS h=>ad _ rfl rfl iS<|ag rfl<|RT.done<|aD.n<|ae.n<|af<|mv rfl<|lE h fun eE jS h=>sb _ rfl rfl jS<|ag rfl<|RT.done ?_
 obtain rfl:=O h
 exact ae.n ⟨(c6,eE),xl _ rfl,wR []⟩
 subst xk
 try dsimp only
 refine ae.n<|sr<|mv rfl<|ag rfl<|dn<|aj ?_
 obtain rfl:=O jh
 exact R1 rfl
theorem qT{x0:Int}{r:List Int}(h:iL x0=some r):Pure Tryz.prog 161 [.v (.int .i64 x0)] (slc 1 (List.map aV r)):=by
 refine ah Tryz.func161 rfl (Nat.le_of_ble_eq_true rfl) (fun b9 M vs hvs=>?_)
 unfold iL at h
 refine sr<|aI rfl (imp_nil (n:=1) (e:=aV))<|dn<|sr<|mv rfl<|lE h fun x4 h4 h=>RT.rem .none _ rfl rfl T (by decide) h4<|mv rfl<|lE h fun x6 h6 h=>RT.quo .none _ rfl rfl T (by decide) h6<|lE h fun x7 h7 h=>RT.rem .none _ rfl rfl T (by decide) h7<|mv rfl<|lE h fun x9 h9 h=>RT.quo .none _ rfl rfl T (by decide) h9<|lE h fun cn ep h=>RT.quo .none _ rfl rfl T (by decide) ep<|bl (l:=[x4,x7,cn]) (e:=aV) (.one rfl (.one rfl (.one rfl (.nil)))) rfl rfl rfl rfl rfl rfl ?_
 refine bE h fun bV dH h=>cl (c7 dH) ⟨rfl,trivial⟩<|ag rfl<|dn<|aj ?_
 obtain rfl:=O h
 exact R1 rfl
theorem pM{x0:List Int}{x1:Int}{r:List Int}(h:dj x0 x1=some r):Pure Tryz.prog 163 [slc 1 (List.map aV x0),.v (.int .i64 x1)] (slc 1 (List.map aV r)):=by
 refine ah Tryz.func163 rfl (Nat.le_of_ble_eq_true rfl) (fun b9 M vs hvs=>?_)
 unfold dj at h
 refine sr<|aI rfl (imp_nil (n:=1) (e:=aV))<|dn<|sr<|ag rfl<|dn<|aK (cY 5 304 3 1 rfl rfl T)<|sr<|ag rfl<|dn<|qq<|sr<|ag rfl<|dn<|bE h fun Bd sq mL=>?_
 refine aL (fun(fK:(List Int))=>AS.bw 35 [(5,.row 306)] [] [(306,TR 3 1 aV fK)]) (fun fK=>fK=Bd) ?_ (fun fK su=>?_)
 refine aq ?_
 refine aM sq (fun qc=>AS.bw 35 [(0,.sv (slc 1 (List.map aV x0))),(1,.sv (.v (.int .i64 x1))),(5,.row 306),(6,.sv (.v (.int .i64 qc.1))),(7,.sv (.v (.int .i64 qc.2.1)))] [] [(306,TR 3 1 aV qc.2.2)]) (bK (fun i=>bif Nat.beq i 306 then 304 else i) rfl rfl rfl rfl rfl ⟨.sv (SV.aa _),.sv (SV.aa _),.row rfl,.sv (SV.aa _),.sv (SV.aa _),trivial⟩ trivial ⟨⟨_,rfl,bB.refl _⟩,trivial⟩ (fun i hi=>by rw[bf (show i≠306 by omega)];rfl)) (fun qc Su Sv h sw o8=>?_)
 obtain⟨tN,PT,jI⟩:=qc
 try dsimp only
 refine qq<|qq ?_
 refine aH h (fun Ck=>AS.bw 35 [(0,.sv (slc 1 (List.map aV x0))),(1,.sv (.v (.int .i64 x1))),(5,.row 306),(6,.sv (.v (.int .i64 tN))),(7,.sv (.v (.int .i64 PT))),(16,.sv (.v (.bool Ck)))] [] [(306,TR 3 1 aV jI)]) (fun h=>?_) (fun xE h=>?_)
 refine af<|mv rfl<|mv rfl<|lE h fun eE jS h=>ln rfl jS<|lE h fun bV dH h=>ls _ rfl rfl dH<|mv rfl<|bE h fun CW bZ h=>?_
 cases bV
 refine gm rfl<|lE (F bZ) fun cE fS bZ=>gg _ rfl rfl fS ?_
 obtain rfl:=O bZ
 exact pF rfl<|dn<|⟨cE,h,wR []⟩
 obtain rfl:=O (V bZ)
 exact ww<|ww<|pT rfl<|dn<|⟨true,h,wR []⟩
 try dsimp only
 refine ae.n ?_
 cases xE
 refine cF<|aS<|ae.x<|ae.x<|aD.x<|ae.n ?_
 obtain rfl:=O (F h)
 exact⟨jI,o8 _ rfl,wR []⟩
 refine cT<|aC<|ae.n<|qq<|aq<|sr<|mv rfl<|mv rfl<|bE (V h) fun eH jT h=>cl (eA jT) ⟨rfl,rfl,trivial⟩<|mv rfl<|lE h fun fy kN h=>RT.mul .none _ rfl rfl T kN<|mv rfl<|lE h fun gC lS h=>ad _ rfl rfl lS<|ag rfl<|dn<|sr<|mo (s:=.row _) rfl<|mv rfl<|lE h fun jr o9 h=>RT.rem .none _ rfl rfl T (by decide) o9<|bl (l:=[jr]) (e:=aV) (.one rfl (.nil)) rfl rfl rfl rfl rfl rfl ?_
 refine bE h fun uf zX h=>aR (k:=[jr]) (e:=aV) rfl rfl rfl zX<|an (s:=.row _) rfl<|dn<|af<|mv rfl<|lE h fun fI mZ h=>RT.quo .none _ rfl rfl T (by decide) mZ<|ag rfl<|RT.done<|aD.n<|ae.n<|af<|mv rfl<|lE h fun c6 iS h=>ad _ rfl rfl iS<|ag rfl<|RT.done ?_
 obtain rfl:=O h
 exact ae.n ⟨(fI,c6,uf),sw _ rfl,bK (fun i=>bif Nat.beq i 306 then 30 else i) rfl rfl rfl rfl rfl ⟨.sv (SV.aa _),.sv (SV.aa _),.row rfl,.sv (SV.aa _),.sv (SV.aa _),trivial⟩ trivial ⟨⟨_,rfl,bB.refl _⟩,trivial⟩ (fun i hi=>by rw[bf (show i≠306 by omega)];rfl)⟩
 subst su
 try dsimp only
 refine ae.n<|qq<|aK (bh (i:=306) (E1:=3) (n:=1) (e:=aV) (l:=fK) rfl)<|af<|mv rfl<|bE mL fun oA tK mL=>cl (c7 tK) ⟨rfl,trivial⟩<|ag rfl<|dn<|aj ?_
 obtain rfl:=O mL
 exact R1 rfl
theorem F7{x0:List Int}{x1:List Int}{r:List Int}(h:nR x0 x1=some r):Pure Tryz.prog 164 [slc 1 (List.map aV x0),slc 1 (List.map aV x1)] (slc 1 (List.map aV r)):=by
 refine ah Tryz.func164 rfl (Nat.le_of_ble_eq_true rfl) (fun b9 M vs hvs=>?_)
 unfold nR at h
 refine sr<|aI rfl (imp_nil (n:=1) (e:=aV))<|dn<|qq<|sr<|mv rfl<|lE h fun x9 h9 h=>ln rfl h9<|mv rfl<|lE h fun eE jS h=>ln rfl jS<|lE h fun bV dH h=>ad _ rfl rfl dH<|lE h fun fR jn h=>RT.leq .none _ rfl rfl T jn<|dn ?_
 cases fR
 refine fs<|sr<|aI rfl (imp_nil (n:=1) (e:=aV))<|dn<|qq<|sr<|mv rfl<|lE (F h) fun eH jT h=>ln rfl jT<|lE h fun fu kM h=>sb _ rfl rfl kM<|ag rfl<|dn<|bE h fun IA Ab vc=>?_
 refine aL (fun(EJ:(List Int))=>AS.bw 51 [(5,.sv (slc 1 (List.map aV EJ)))] [] []) (fun EJ=>EJ=IA) ?_ (fun EJ xG=>?_)
 refine aq ?_
 refine aM Ab (fun uZ=>AS.bw 51 [(0,.sv (slc 1 (List.map aV x0))),(1,.sv (slc 1 (List.map aV x1))),(5,.sv (slc 1 (List.map aV uZ.1))),(6,.sv (.v (.int .i64 uZ.2)))] [] []) (wR []) (fun uZ y16 G16 h C1 Ad=>?_)
 obtain⟨PU,Bn⟩:=uZ
 try dsimp only
 refine qq<|sr<|mv rfl<|lE h fun eI mI h=>ge _ rfl rfl mI<|dn ?_
 cases eI
 refine cF<|aS<|ae.x<|ae.x<|aD.x<|ae.n ?_
 obtain rfl:=O (F h)
 exact⟨PU,Ad _ rfl,wR []⟩
 refine cT<|aC<|ae.n<|qq<|aq<|sr<|RT.Bt (l:=[0]) (e:=aV) .none (.one rfl (.nil)) T rfl T rfl rfl rfl rfl rfl rfl<|mv rfl<|bE (V h) fun fQ lJ h=>RT.Oy (k:=PU) (e:=aV) .none rfl rfl rfl T rfl T lJ<|ag rfl<|dn<|sr<|ag rfl<|dn<|bE h fun Xy P5 C2=>?_
 refine aL (fun(yO:(List Int))=>AS.bw 51 [(0,.sv (slc 1 (List.map aV x0))),(1,.sv (slc 1 (List.map aV x1))),(5,.sv (slc 1 (List.map aV yO))),(6,.sv (.v (.int .i64 Bn)))] [] []) (fun yO=>yO=Xy) ?_ (fun yO P6=>?_)
 refine aq ?_
 refine aM P5 (fun CX=>AS.bw 51 [(0,.sv (slc 1 (List.map aV x0))),(1,.sv (slc 1 (List.map aV x1))),(5,.sv (slc 1 (List.map aV CX.1))),(6,.sv (.v (.int .i64 Bn))),(7,.sv (.v (.int .i64 CX.2)))] [] []) (wR []) (fun CX y22 G22 h P7 P8=>?_)
 obtain⟨CY,AU⟩:=CX
 try dsimp only
 refine qq<|sr<|mv rfl<|mv rfl<|mv rfl<|bE h fun lI th h=>ix rfl rfl th<|lr rfl rfl<|lE h fun oB xm h=>ls _ rfl rfl xm<|dn ?_
 cases oB
 refine cF<|aS<|ae.x<|ae.x<|aD.x<|ae.n ?_
 obtain rfl:=O (F h)
 exact⟨CY,P8 _ rfl,wR []⟩
 refine cT<|aC<|ae.n<|qq<|aq<|af<|mv rfl<|mv rfl<|mv rfl<|mv rfl<|bE (V h) fun rV D0 h=>ix rfl rfl D0<|lr rfl rfl<|mv rfl<|lE h fun AD JY h=>sb _ rfl rfl JY<|lE h fun q9 h46 h=>RT.min .none _ rfl rfl T (MW (p:=1024) (q:=AD) h46)<|bE h fun tg zY h=>cl (pM zY) ⟨rfl,rfl,trivial⟩<|bE h fun ug h48 h=>cl (sL h48) ⟨rfl,rfl,trivial⟩<|ag rfl ?_
 refine RT.done<|aD.n<|ae.n<|af<|mv rfl<|lE h fun oU Bf h=>ad _ rfl rfl Bf<|ag rfl<|RT.done ?_
 obtain rfl:=O h
 exact ae.n ⟨(ug,oU),P7 _ rfl,wR []⟩
 subst P6
 try dsimp only
 refine aD.n<|ae.n<|af<|mv rfl<|lE C2 fun gJ mY C2=>sb _ rfl rfl mY<|ag rfl<|RT.done ?_
 obtain rfl:=O C2
 exact ae.n ⟨(yO,gJ),C1 _ rfl,wR []⟩
 subst xG
 try dsimp only
 refine ae.n<|sr<|mv rfl<|bE vc fun xb HM vc=>cl (c7 HM) ⟨rfl,trivial⟩<|ag rfl<|dn<|aj ?_
 obtain rfl:=O vc
 exact R1 rfl
 refine cT<|sr<|mv rfl<|bE (V h) fun cE fS h=>cl (g9 fS) ⟨rfl,trivial⟩<|mv rfl<|bE h fun cX jd h=>cl (g9 jd) ⟨rfl,trivial⟩<|lE h fun c6 iS h=>RT.mul .none _ rfl rfl T iS<|bE h fun iC kp h=>cl (qT kp) ⟨rfl,trivial⟩<|ag rfl<|dn<|aj<|ae.r ?_
 obtain rfl:=O h
 exact R1 rfl
set_option maxHeartbeats 4000000 in
theorem yP{x0:List Int}{x1:List Int}{r:(List Int)×(List Int)}(h:lu x0 x1=some r):Pure Tryz.prog 151 [slc 1 (List.map aV x0),slc 1 (List.map aV x1)] (.xV [slc 1 (List.map aV r.1),slc 1 (List.map aV r.2)]):=by
 refine ah Tryz.func151 rfl (Nat.le_of_ble_eq_true rfl) (fun b9 M vs hvs=>?_)
 unfold lu at h
 refine sr<|aI rfl (imp_nil (n:=1) (e:=aV))<|aI rfl (imp_nil (n:=1) (e:=aV))<|dn<|qq<|qq ?_
 refine aH h (fun j3=>AS.bw 120 [(0,.sv (slc 1 (List.map aV x0))),(1,.sv (slc 1 (List.map aV x1))),(21,.sv (.v (.bool j3)))] [] []) (fun h=>?_) (fun PW h=>?_)
 refine af<|mv rfl<|lE h fun cE fS h=>ln rfl fS<|lE h fun dz gZ h=>RT.leq .none _ rfl rfl T gZ<|mv rfl<|bE h fun P0 IB h=>?_
 cases dz
 obtain rfl:=O (F IB)
 exact ww<|ww<|ww<|pF rfl<|dn<|⟨false,h,wR []⟩
 refine gm rfl<|lE (V IB) fun iC kp IB=>gn rfl kp<|lE IB fun ik nF IB=>RT.leq (.some rfl rfl) _ rfl rfl T nF ?_
 obtain rfl:=O IB
 exact pT rfl<|dn<|⟨ik,h,wR []⟩
 try dsimp only
 refine ae.n ?_
 cases PW
 refine fs<|sr<|mv rfl<|lE (F h) fun oB xm h=>ln rfl xm<|bE h fun qm vZ h=>RT.rD (n:=1) (e:=aV) .none rfl rfl T rfl T (by rfl) (by decide) (by exact⟨SV.aa _,trivial⟩) vZ<|an (s:=.row _) rfl<|dn<|qq<|sr<|mv rfl<|lE h fun wH FD h=>ln rfl FD<|lE h fun nB xp h=>eq _ rfl rfl (Bb (p:=wH) (q:=1) xp)<|dn ?_
 cases nB
 refine fs<|sr<|aI rfl (imp_nil (n:=1) (e:=aV))<|dn<|qq<|sr<|mv rfl<|lE (F h) fun x73 h73 h=>ln rfl h73<|lE h fun St h74 h=>sb _ rfl rfl h74<|ag rfl<|dn<|bE h fun e44 afS Xz=>?_
 refine aL (fun(No:(List Int)×(List Int))=>AS.bw 120 [(6,.row 36),(9,.sv (slc 1 (List.map aV No.1)))] [] [(36,TR 3 1 aV No.2)]) (fun No=>No=e44) ?_ (fun No afT=>?_)
 refine aq ?_
 refine aM afS (fun Xx=>AS.bw 120 [(0,.sv (slc 1 (List.map aV x0))),(1,.sv (slc 1 (List.map aV x1))),(6,.row 36),(9,.sv (slc 1 (List.map aV Xx.1))),(10,.sv (.v (.int .i64 Xx.2.1)))] [] [(36,TR 3 1 aV Xx.2.2)]) (wR []) (fun Xx y44 G44 h afU afV=>?_)
 obtain⟨Iz,sI,sJ⟩:=Xx
 try dsimp only
 refine qq<|sr<|mv rfl<|lE h fun x76 h76 h=>ge _ rfl rfl h76<|dn ?_
 cases x76
 refine cF<|aS<|ae.x<|ae.x<|aD.x<|ae.n ?_
 obtain rfl:=O (F h)
 exact⟨(Iz,sJ),afV _ rfl,wR []⟩
 refine cT<|aC<|ae.n<|qq<|aq<|sr<|mv rfl<|mv rfl<|bE (V h) fun x81 h81 h=>ix rfl rfl h81<|lr rfl rfl<|RT.Bt (l:=[x81]) (e:=aV) .none (.one rfl (.nil)) T rfl T rfl rfl rfl rfl rfl rfl<|mv rfl<|bE h fun ZT h85 h=>RT.Oy (k:=Iz) (e:=aV) .none rfl rfl rfl T rfl T h85<|bE h fun OU h86 h=>cl (c7 h86) ⟨rfl,trivial⟩<|ag rfl<|dn<|sr<|ag rfl<|ag rfl ?_
 refine dn<|qq<|sr<|mv rfl<|lE h fun x88 h88 h=>ln rfl h88<|mv rfl<|lE h fun ZU h90 h=>ln rfl h90<|lE h fun Wy h91 h=>ls _ rfl rfl h91<|dn ?_
 refine aH h (fun j46=>AS.bw 120 [(0,.sv (slc 1 (List.map aV x0))),(1,.sv (slc 1 (List.map aV x1))),(6,.row 36),(9,.sv (slc 1 (List.map aV OU))),(10,.sv (.v (.int .i64 sI))),(11,.sv (.v (.int .i64 0))),(12,.sv (.v (.int .i64 j46)))] [] [(36,TR 3 1 aV sJ)]) (fun h=>?_) (fun PY h=>?_)
 cases Wy
 exact fs<|⟨65536,(F h),wR []⟩
 exact cT<|af<|ag rfl<|dn<|⟨1,(V h),wR []⟩
 try dsimp only
 refine ae.n<|qq<|bE h fun e54 afW C3=>?_
 refine aL (fun(u0:Int)=>AS.bw 120 [(0,.sv (slc 1 (List.map aV x0))),(1,.sv (slc 1 (List.map aV x1))),(6,.row 36),(9,.sv (slc 1 (List.map aV OU))),(10,.sv (.v (.int .i64 sI))),(11,.sv (.v (.int .i64 u0)))] [] [(36,TR 3 1 aV sJ)]) (fun u0=>u0=e54) ?_ (fun u0 afX=>?_)
 refine aq ?_
 refine aM afW (fun Vc=>AS.bw 120 [(0,.sv (slc 1 (List.map aV x0))),(1,.sv (slc 1 (List.map aV x1))),(6,.row 36),(9,.sv (slc 1 (List.map aV OU))),(10,.sv (.v (.int .i64 sI))),(11,.sv (.v (.int .i64 Vc.1))),(12,.sv (.v (.int .i64 Vc.2)))] [] [(36,TR 3 1 aV sJ)]) (wR []) (fun Vc y54 G54 h afY afZ=>?_)
 obtain⟨l9,pL⟩:=Vc
 try dsimp only
 refine qq<|sr<|mv rfl<|mv rfl<|lE h fun x94 h94 h=>sb _ rfl rfl h94<|lE h fun x95 h95 h=>gt _ rfl rfl h95<|dn ?_
 cases x95
 refine cF<|aS<|ae.x<|ae.x<|aD.x<|ae.n ?_
 obtain rfl:=O (F h)
 exact⟨l9,afZ _ rfl,wR []⟩
 refine cT<|aC<|ae.n<|aq<|sr<|mv rfl<|mv rfl<|lE (V h) fun x98 h98 h=>ad _ rfl rfl h98<|lE h fun Y1 h99 h=>RT.quo .none _ rfl rfl T (by decide) h99<|ag rfl<|dn<|sr<|mv rfl<|mv rfl<|bE h fun JQ WV h=>cl (pM WV) ⟨rfl,rfl,trivial⟩<|mv rfl<|bE h fun JR WW h=>cl (sK WW) ⟨rfl,rfl,trivial⟩<|lE h fun DX O3 h=>RT.leq .none _ rfl rfl T O3<|dn ?_
 refine aH h (fun Y2=>AS.bw 120 [(0,.sv (slc 1 (List.map aV x0))),(1,.sv (slc 1 (List.map aV x1))),(6,.row 36),(9,.sv (slc 1 (List.map aV OU))),(10,.sv (.v (.int .i64 sI))),(11,.sv (.v (.int .i64 Y2.1))),(12,.sv (.v (.int .i64 Y2.2)))] [] [(36,TR 3 1 aV sJ)]) (fun h=>?_) (fun Y2 h=>?_)
 cases DX
 exact cF<|af<|mv rfl<|ag rfl<|dn<|⟨(l9,Y1),(F h),wR []⟩
 exact cT<|af<|mv rfl<|ag rfl<|dn<|⟨(Y1,pL),(V h),wR []⟩
 obtain⟨Ki,Kj⟩:=Y2
 try dsimp only
 refine aD.n ?_
 obtain rfl:=O h
 exact ae.n ⟨(Ki,Kj),afY _ rfl,wR []⟩
 subst afX
 try dsimp only
 refine ae.n<|af<|mo (s:=.row _) rfl<|mv rfl<|mv rfl<|mv rfl<|mv rfl<|mv rfl<|bE C3 fun JS WY C3=>cl (pM WY) ⟨rfl,rfl,trivial⟩<|bE C3 fun PZ af0 C3=>cl (oK af0) ⟨rfl,rfl,trivial⟩<|bE C3 fun SE af1 C3=>iR rfl rfl rfl af1<|bE C3 fun l58 aaU C3=>sR u0 rfl rfl rfl rfl aaU<|ag rfl<|RT.done<|aD.n<|ae.n<|af<|mv rfl<|lE C3 fun x78 h78 C3=>?_
 refine sb _ rfl rfl h78<|ag rfl<|RT.done ?_
 obtain rfl:=O C3
 exact ae.n ⟨(PZ,x78,l58),afU _ rfl,wR []⟩
 subst afT
 obtain⟨Vd,Kk⟩:=No
 try dsimp only
 refine ae.n<|qq<|aK (bh (i:=36) (E1:=3) (n:=1) (e:=aV) (l:=Kk) rfl)<|af<|mv rfl<|bE Xz fun aaQ af2 Xz=>cl (c7 af2) ⟨rfl,trivial⟩<|mv rfl<|ag rfl<|ag rfl<|dn<|aj ?_
 obtain rfl:=O Xz
 exact R2 rfl rfl
 refine cT<|sr<|ag rfl<|dn<|qq<|sr<|mv rfl<|lE (V h) fun wI FE h=>ln rfl FE<|lE h fun rV D0 h=>sb _ rfl rfl D0<|ag rfl<|dn<|bE h fun e18 af3 P9=>?_
 refine aL (fun(Np:Int×(List Int))=>AS.bw 120 [(6,.row 36),(7,.sv (.v (.int .i64 Np.1)))] [] [(36,TR 3 1 aV Np.2)]) (fun Np=>Np=e18) ?_ (fun Np af4=>?_)
 refine aq ?_
 refine aM af3 (fun Xw=>AS.bw 120 [(0,.sv (slc 1 (List.map aV x0))),(1,.sv (slc 1 (List.map aV x1))),(6,.row 36),(7,.sv (.v (.int .i64 Xw.1))),(8,.sv (.v (.int .i64 Xw.2.1)))] [] [(36,TR 3 1 aV Xw.2.2)]) (wR []) (fun Xw y18 G18 h af5 af6=>?_)
 obtain⟨LN,Iy,CZ⟩:=Xw
 try dsimp only
 refine qq<|sr<|mv rfl<|lE h fun yu FI h=>ge _ rfl rfl FI<|dn ?_
 cases yu
 refine cF<|aS<|ae.x<|ae.x<|aD.x<|ae.n ?_
 obtain rfl:=O (F h)
 exact⟨(LN,CZ),af6 _ rfl,wR []⟩
 refine cT<|aC<|ae.n<|qq<|aq<|sr<|mv rfl<|lE (V h) fun ug h48 h=>RT.mul .none _ rfl rfl T h48<|mv rfl<|mv rfl<|bE h fun Ub WO h=>ix rfl rfl WO<|lr rfl rfl<|lE h fun GX O2 h=>ad _ rfl rfl O2<|ag rfl<|dn<|ai mixed<|mo (s:=.row _) rfl<|mv rfl<|mv rfl<|mv rfl<|bE h fun Ss h58 h=>ix rfl rfl h58<|lr rfl rfl<|bE h fun DV NQ h=>?_
 refine RT.quo .none _ rfl rfl T (ZC NQ) (Ox NQ)<|mv rfl<|mv rfl<|bE h fun NP h63 h=>ix rfl rfl h63<|lr rfl rfl<|bE h fun OR Up h=>RT.rem .none _ rfl rfl T (Wd Up) (We Up)<|bE h fun Ud h66 h=>iR rfl rfl rfl h66<|bE h fun l20 aaV h=>sR DV rfl rfl rfl rfl aaV<|ag rfl ?_
 refine RT.done ⟨by kernel_rfl,?_⟩
 refine aD.n<|ae.n<|af<|mv rfl<|lE h fun q9 h46 h=>sb _ rfl rfl h46<|ag rfl<|RT.done ?_
 obtain rfl:=O h
 exact ae.n ⟨(OR,q9,l20),af5 _ rfl,wR []⟩
 subst af4
 obtain⟨PX,Kh⟩:=Np
 try dsimp only
 refine ae.n<|qq<|aK (bh (i:=36) (E1:=3) (n:=1) (e:=aV) (l:=Kh) rfl)<|af<|mv rfl<|bE P9 fun YS h68 P9=>cl (c7 h68) ⟨rfl,trivial⟩<|mv rfl<|bl (l:=[PX]) (e:=aV) (.one rfl (.nil)) rfl rfl rfl rfl rfl rfl<|bE P9 fun x71 h71 P9=>cl (c7 h71) ⟨rfl,trivial⟩<|ag rfl<|ag rfl<|dn<|aj<|ae.r ?_
 obtain rfl:=O P9
 exact R2 rfl rfl
 refine cT<|sr<|mv rfl<|bE (V h) fun fy kN h=>cl (g9 kN) ⟨rfl,trivial⟩<|mv rfl<|bE h fun gC lS h=>cl (g9 lS) ⟨rfl,trivial⟩<|bE h fun gJ mY h=>RT.quo .none _ rfl rfl T (ZC mY) (Ox mY)<|bE h fun fF mR h=>cl (qT mR) ⟨rfl,trivial⟩<|mv rfl<|bE h fun fQ lJ h=>cl (g9 lJ) ⟨rfl,trivial⟩<|mv rfl<|bE h fun ny xU h=>cl (g9 xU) ⟨rfl,trivial⟩ ?_
 refine bE h fun fI mZ h=>RT.rem .none _ rfl rfl T (Wd mZ) (We mZ)<|bE h fun lI th h=>cl (qT th) ⟨rfl,trivial⟩<|ag rfl<|ag rfl<|dn<|aj<|ae.r ?_
 obtain rfl:=O h
 exact R2 rfl rfl
end Go.Proofs.YtfoldppidpmchaaGreat
namespace Go.Proofs.YtfoldppidpmchaaGreat
open Go.Fw Go.Fw.Z Go.RowKit
theorem fm{x0:Zr}{r:Int}(h:c8 x0=some r):Pure Tryz.prog 138 [.agg (eZ x0)] (.v (.int .i64 r)):=by
 obtain⟨az,aA⟩:=x0
 refine ah Tryz.func138 rfl (Nat.le_of_ble_eq_true rfl) (fun b9 M vs hvs=>?_)
 unfold c8 at h
 refine sr<|bx rfl<|ag rfl<|dn<|qq<|sr<|fa rfl rfl<|lV rfl rfl rfl<|bE h fun x5 h5 h=>cl (bO h5) ⟨rfl,trivial⟩<|lE h fun x6 h6 h=>ln rfl h6<|lE h fun x7 h7 h=>eq _ rfl rfl (Bb (p:=x6) (q:=0) h7)<|dn ?_
 cases x7
 refine fs<|qq<|sr<|fa rfl rfl<|lV rfl rfl rfl<|dn ?_
 replace h:=F h
 cases az
 refine fs<|sr<|ag rfl<|dn<|aj ?_
 obtain rfl:=O (F h)
 exact R1 rfl
 refine cT<|sr<|ag rfl<|dn<|aj<|ae.r ?_
 obtain rfl:=O (V h)
 exact R1 rfl
 refine cT<|sr<|ag rfl<|dn<|aj<|ae.r ?_
 obtain rfl:=O (V h)
 exact R1 rfl
theorem F8{x0:Zr}{x1:Zr}{r:Int}(h:nS x0 x1=some r):Pure Tryz.prog 136 [.agg (eZ x0),.agg (eZ x1)] (.v (.int .i64 r)):=by
 obtain⟨az,aA⟩:=x0
 obtain⟨aZ,aY⟩:=x1
 refine ah Tryz.func136 rfl (Nat.le_of_ble_eq_true rfl) (fun b9 M vs hvs=>?_)
 unfold nS at h
 refine sr<|bx rfl<|bx rfl<|ag rfl<|dn<|qq<|qq<|ai mixed<|ld rfl rfl (.cons rfl (.cons rfl (.nil)))<|bE h fun x7 h7 h=>cl (fm h7) ⟨rfl,trivial⟩<|ld rfl rfl (.cons rfl (.cons rfl (.nil)))<|bE h fun x9 h9 h=>cl (fm h9) ⟨rfl,trivial⟩<|lE h fun cn ep h=>ne _ rfl rfl (DJ (p:=x7) (q:=x9) ep) ?_
 refine RT.done ⟨by kernel_rfl,?_⟩
 refine ae.n ?_
 cases cn
 refine fs<|qq<|ai mixed<|fa rfl rfl<|lV rfl rfl rfl<|bE (F h) fun c6 iS h=>cl (bO iS) ⟨rfl,trivial⟩<|fa rfl rfl<|lV rfl rfl rfl<|bE h fun eH jT h=>cl (bO jT) ⟨rfl,trivial⟩<|bE h fun fu kM h=>cl (sK kM) ⟨rfl,rfl,trivial⟩<|ag rfl ?_
 refine RT.done ⟨by kernel_rfl,?_⟩
 refine ae.n<|qq<|sr<|ld rfl rfl (.cons rfl (.cons rfl (.nil)))<|bE h fun eI mI h=>cl (fm mI) ⟨rfl,trivial⟩<|lE h fun gC lS h=>ls _ rfl rfl lS<|dn ?_
 cases gC
 refine fs<|sr<|mv rfl<|ag rfl<|dn<|aj ?_
 obtain rfl:=O (F h)
 exact R1 rfl
 refine cT<|sr<|mv rfl<|lE (V h) fun fF mR h=>RT.neg .none _ rfl T mR<|ag rfl<|dn<|aj<|ae.r ?_
 obtain rfl:=O h
 exact R1 rfl
 refine cT<|qq<|qq<|ai mixed<|ld rfl rfl (.cons rfl (.cons rfl (.nil)))<|bE (V h) fun bV dH h=>cl (fm dH) ⟨rfl,trivial⟩<|ld rfl rfl (.cons rfl (.cons rfl (.nil)))<|bE h fun cG fT h=>cl (fm fT) ⟨rfl,trivial⟩<|lE h fun cE fS h=>ls _ rfl rfl fS ?_
 refine RT.done ⟨by kernel_rfl,?_⟩
 refine ae.n ?_
 cases cE
 refine fs<|sr<|ag rfl<|dn<|aj<|ae.r ?_
 obtain rfl:=O (F h)
 exact R1 rfl
 refine cT<|sr<|ag rfl<|dn<|aj<|ae.r<|ae.r ?_
 obtain rfl:=O (V h)
 exact R1 rfl
theorem yQ{x0:Zr}{r:Zr}(h:lz x0=some r):Pure Tryz.prog 107 [.agg (eZ x0)] (.agg (eZ r)):=by
 obtain⟨az,aA⟩:=x0
 refine ah Tryz.func107 rfl (Nat.le_of_ble_eq_true rfl) (fun b9 M vs hvs=>?_)
 unfold lz at h
 refine sr<|bx rfl<|al (cs:=[.v (.bool false),slc 1 (List.map ak [])]) (by exact⟨SV.aa _,imp_nil,trivial⟩) rfl<|dn<|qq<|ai mixed<|fa rfl rfl<|lV rfl rfl rfl<|lE h fun x5 h5 h=>nt rfl _ h5<|fa rfl rfl<|lV rfl rfl rfl<|bE h fun x8 h8 h=>cl (bO h8) ⟨rfl,trivial⟩ ?_
 obtain⟨⟨CQ,CR⟩,h9,h⟩:=bS h
 refine cl (fk h9) ⟨rfl,rfl,trivial⟩<|so rfl rfl rfl ?_
 refine RT.done ⟨by kernel_rfl,?_⟩
 refine ae.n<|aj ?_
 obtain rfl:=O h
 exact RZ (.agg rfl rfl (.cons rfl (.cons rfl (.nil))) rfl (.nil))
theorem F9{x0:Zr}{r:Zr}(h:nT x0=some r):Pure Tryz.prog 139 [.agg (eZ x0)] (.agg (eZ r)):=by
 obtain⟨az,aA⟩:=x0
 refine ah Tryz.func139 rfl (Nat.le_of_ble_eq_true rfl) (fun b9 M vs hvs=>?_)
 unfold nT at h
 refine sr<|bx rfl<|al (cs:=[.v (.bool false),slc 1 (List.map ak [])]) (by exact⟨SV.aa _,imp_nil,trivial⟩) rfl<|dn<|sr<|fa rfl rfl<|lV rfl rfl rfl<|bE h fun x5 h5 h=>cl (bO h5) ⟨rfl,trivial⟩ ?_
 obtain⟨⟨xA,xB⟩,h6,h⟩:=bS h
 refine cl (fk h6) ⟨rfl,rfl,trivial⟩<|so rfl rfl rfl<|dn<|aj ?_
 obtain rfl:=O h
 exact RZ (.agg rfl rfl (.cons rfl (.cons rfl (.nil))) rfl (.nil))
theorem Ga{x0:Zr}{x1:Zr}{r:Zr}(h:nU x0 x1=some r):Pure Tryz.prog 156 [.agg (eZ x0),.agg (eZ x1)] (.agg (eZ r)):=by
 obtain⟨az,aA⟩:=x0
 obtain⟨aZ,aY⟩:=x1
 refine ah Tryz.func156 rfl (Nat.le_of_ble_eq_true rfl) (fun b9 M vs hvs=>?_)
 unfold nU at h
 refine sr<|bx rfl<|bx rfl<|al (cs:=[.v (.bool false),slc 1 (List.map ak [])]) (by exact⟨SV.aa _,imp_nil,trivial⟩) rfl<|dn<|qq<|ai mixed<|fa rfl rfl<|lV rfl rfl rfl<|bE h fun x9 h9 h=>cl (bO h9) ⟨rfl,trivial⟩<|fa rfl rfl<|lV rfl rfl rfl<|bE h fun bV dH h=>cl (bO dH) ⟨rfl,trivial⟩<|ag rfl<|ag rfl ?_
 refine RT.done ⟨by kernel_rfl,?_⟩
 refine ae.n<|qq<|sr<|fa rfl rfl<|lV rfl rfl rfl<|fa rfl rfl<|lV rfl rfl rfl<|lE h fun cX jd h=>RT.Y8 .none _ rfl rfl T jd<|dn ?_
 cases cX
 refine fs<|qq<|sr<|mv rfl<|mv rfl<|bE (F h) fun gJ mY h=>cl (sK mY) ⟨rfl,rfl,trivial⟩<|lE h fun fF mR h=>ge _ rfl rfl mR<|dn ?_
 cases fF
 refine fs<|qq<|ai mixed<|fa rfl rfl<|lV rfl rfl rfl<|mv rfl<|mv rfl<|bE (F h) fun wH FD h=>cl (oK FD) ⟨rfl,rfl,trivial⟩ ?_
 obtain⟨⟨uV,uW⟩,xp,h⟩:=bS h
 refine cl (fk xp) ⟨rfl,rfl,trivial⟩<|so rfl rfl rfl ?_
 refine RT.done ⟨by kernel_rfl,?_⟩
 refine ae.n<|aj ?_
 obtain rfl:=O h
 exact RZ (.agg rfl rfl (.cons rfl (.cons rfl (.nil))) rfl (.nil))
 refine cT<|qq<|ai mixed<|fa rfl rfl<|lV rfl rfl rfl<|mv rfl<|mv rfl<|bE (V h) fun fI mZ h=>cl (oK mZ) ⟨rfl,rfl,trivial⟩ ?_
 obtain⟨⟨HS,HT⟩,th,h⟩:=bS h
 refine cl (fk th) ⟨rfl,rfl,trivial⟩<|so rfl rfl rfl ?_
 refine RT.done ⟨by kernel_rfl,?_⟩
 refine ae.n<|aj<|ae.r ?_
 obtain rfl:=O h
 exact RZ (.agg rfl rfl (.cons rfl (.cons rfl (.nil))) rfl (.nil))
 refine cT<|qq<|ai mixed<|fa rfl rfl<|lV rfl rfl rfl<|mv rfl<|mv rfl<|bE (V h) fun fu kM h=>cl (sL kM) ⟨rfl,rfl,trivial⟩ ?_
 obtain⟨⟨oC,oD⟩,kN,h⟩:=bS h
 refine cl (fk kN) ⟨rfl,rfl,trivial⟩<|so rfl rfl rfl ?_
 refine RT.done ⟨by kernel_rfl,?_⟩
 refine ae.n<|aj<|ae.r ?_
 obtain rfl:=O h
 exact RZ (.agg rfl rfl (.cons rfl (.cons rfl (.nil))) rfl (.nil))
theorem mc{x0:Zr}{x1:Zr}{r:Zr}(h:gj x0 x1=some r):Pure Tryz.prog 155 [.agg (eZ x0),.agg (eZ x1)] (.agg (eZ r)):=by
 obtain⟨az,aA⟩:=x0
 obtain⟨aZ,aY⟩:=x1
 refine ah Tryz.func155 rfl (Nat.le_of_ble_eq_true rfl) (fun b9 M vs hvs=>?_)
 unfold gj at h
 refine sr<|bx rfl<|bx rfl<|al (cs:=[.v (.bool false),slc 1 (List.map ak [])]) (by exact⟨SV.aa _,imp_nil,trivial⟩) rfl<|dn<|qq<|ai mixed<|fa rfl rfl<|lV rfl rfl rfl<|fa rfl rfl<|lV rfl rfl rfl<|lE h fun x9 h9 h=>RT.MM .none _ rfl rfl T h9<|fa rfl rfl<|lV rfl rfl rfl<|bE h fun bV dH h=>cl (bO dH) ⟨rfl,trivial⟩<|fa rfl rfl ?_
 refine lV rfl rfl rfl<|bE h fun cE fS h=>cl (bO fS) ⟨rfl,trivial⟩<|bE h fun dz gZ h=>cl (F7 gZ) ⟨rfl,rfl,trivial⟩ ?_
 obtain⟨⟨nH,nI⟩,jd,h⟩:=bS h
 refine cl (fk jd) ⟨rfl,rfl,trivial⟩<|so rfl rfl rfl ?_
 refine RT.done ⟨by kernel_rfl,?_⟩
 refine ae.n<|aj ?_
 obtain rfl:=O h
 exact RZ (.agg rfl rfl (.cons rfl (.cons rfl (.nil))) rfl (.nil))
theorem yR{x0:Zr}{x1:Zr}{r:Zr×Zr×Int}(h:lC x0 x1=some r):Pure Tryz.prog 135 [.agg (eZ x0),.agg (eZ x1)] (.xV [.agg (eZ r.1),.agg (eZ r.2.1),.v (.int .i64 r.2.2)]):=by
 obtain⟨az,aA⟩:=x0
 obtain⟨aZ,aY⟩:=x1
 refine ah Tryz.func135 rfl (Nat.le_of_ble_eq_true rfl) (fun b9 M vs hvs=>?_)
 unfold lC at h
 refine sr<|bx rfl<|bx rfl<|al (cs:=[.v (.bool false),slc 1 (List.map ak [])]) (by exact⟨SV.aa _,imp_nil,trivial⟩) rfl<|al (cs:=[.v (.bool false),slc 1 (List.map ak [])]) (by exact⟨SV.aa _,imp_nil,trivial⟩) rfl<|ag rfl<|dn<|qq<|ai mixed<|fa rfl rfl<|lV rfl rfl rfl<|bE h fun fR jn h=>cl (bO jn) ⟨rfl,trivial⟩<|fa rfl rfl ?_
 refine lV rfl rfl rfl<|bE h fun dz gZ h=>cl (bO gZ) ⟨rfl,trivial⟩<|ag rfl<|ag rfl ?_
 refine RT.done ⟨by kernel_rfl,?_⟩
 refine ae.n<|qq<|sr<|mv rfl<|lE h fun c6 iS h=>ln rfl iS<|lE h fun iC kp h=>eq _ rfl rfl (Bb (p:=c6) (q:=0) kp)<|dn ?_
 cases iC
 refine fs<|sr<|mv rfl<|mv rfl ?_
 obtain⟨⟨Cj,FB⟩,lS,h⟩:=bS (F h)
 refine cl (yP lS) ⟨rfl,rfl,trivial⟩<|mv rfl<|ex rfl rfl<|ex rfl rfl<|ag rfl<|ag rfl<|dn<|qq<|qq ?_
 refine aH h (fun j3=>AS.bw 50 [(2,.ptr 2 0),(3,.ptr 3 0),(4,.ptr 4 0),(5,.ptr 5 0),(8,.sv (slc 1 (List.map aV dz))),(9,.sv (slc 1 (List.map aV Cj))),(10,.sv (slc 1 (List.map aV FB))),(34,.sv (.v (.bool j3.1)))] [(5,⟨34,[.sv (.v (.bool false)),.sv (slc 1 (List.map ak []))]⟩),(4,⟨34,[.sv (.v (.bool false)),.sv (slc 1 (List.map ak []))]⟩),(3,⟨34,[.sv (.v (.bool aZ)),.sv (slc 1 (List.map ak aY))]⟩),(2,⟨34,[.sv (.v (.bool j3.2)),.sv (slc 1 (List.map ak aA))]⟩)] []) (fun h=>?_) (fun j3 h=>?_)
 refine af<|fa rfl rfl<|lV rfl rfl rfl<|mv rfl<|bE h fun Ve AE h=>?_
 cases az
 obtain rfl:=O (F AE)
 exact ww<|ww<|ww<|pF rfl<|dn<|⟨(false,false),h,wR []⟩
 refine gm rfl<|lE (V AE) fun fI mZ AE=>gn rfl mZ<|lE AE fun lI th AE=>gg _ rfl rfl th ?_
 obtain rfl:=O AE
 exact pT rfl<|dn<|⟨(lI,true),h,wR []⟩
 obtain⟨C0,xh⟩:=j3
 try dsimp only
 refine ae.n ?_
 refine aH h (fun j5=>AS.bw 50 [(2,.ptr 2 0),(3,.ptr 3 0),(4,.ptr 4 0),(5,.ptr 5 0),(9,.sv (slc 1 (List.map aV j5.1))),(10,.sv (slc 1 (List.map aV j5.2)))] [(5,⟨34,[.sv (.v (.bool false)),.sv (slc 1 (List.map ak []))]⟩),(4,⟨34,[.sv (.v (.bool false)),.sv (slc 1 (List.map ak []))]⟩),(3,⟨34,[.sv (.v (.bool aZ)),.sv (slc 1 (List.map ak aY))]⟩),(2,⟨34,[.sv (.v (.bool xh)),.sv (slc 1 (List.map ak aA))]⟩)] []) (fun h=>?_) (fun j5 h=>?_)
 cases C0
 exact fs<|⟨(Cj,FB),(F h),wR []⟩
 exact cT<|sr<|mv rfl<|bl (l:=[1]) (e:=aV) (.one rfl (.nil)) rfl rfl rfl rfl rfl rfl<|bE (V h) fun oU Bf h=>cl (sL Bf) ⟨rfl,rfl,trivial⟩<|ag rfl<|dn<|af<|mv rfl<|mv rfl<|bE h fun nA tO h=>cl (oK tO) ⟨rfl,rfl,trivial⟩<|ag rfl<|dn<|⟨(oU,nA),h,wR []⟩
 obtain⟨OX,HI⟩:=j5
 try dsimp only
 refine ae.n<|sr<|fa rfl rfl<|lV rfl rfl rfl<|fa rfl rfl<|lV rfl rfl rfl<|lE h fun AD JY h=>RT.MM .none _ rfl rfl T JY<|mv rfl ?_
 obtain⟨⟨HF,HG⟩,zY,h⟩:=bS h
 refine cl (fk zY) ⟨rfl,rfl,trivial⟩<|mv rfl ?_
 obtain⟨⟨HJ,HK⟩,WN,h⟩:=bS h
 refine cl (fk WN) ⟨rfl,rfl,trivial⟩<|so rfl rfl rfl<|so rfl rfl rfl<|ag rfl<|dn<|aj ?_
 obtain rfl:=O h
 exact RZ (.agg rfl rfl (.cons rfl (.cons rfl (.nil))) rfl (.agg rfl rfl (.cons rfl (.cons rfl (.nil))) rfl (.tmp rfl (.nil))))
 refine cT<|sr<|bI (cs:=[_,_]) (cs':=[.v (.bool false),slc 1 (List.map ak [])]) (.nil) ⟨SV.aa _,imp_nil,trivial⟩<|bI (cs:=[_,_]) (cs':=[.v (.bool false),slc 1 (List.map ak [])]) (.nil) ⟨SV.aa _,imp_nil,trivial⟩<|so rfl rfl rfl<|so rfl rfl rfl<|ag rfl<|dn<|aj<|ae.r ?_
 obtain rfl:=O (V h)
 exact RZ (.agg rfl rfl (.cons rfl (.cons rfl (.nil))) rfl (.agg rfl rfl (.cons rfl (.cons rfl (.nil))) rfl (.tmp rfl (.nil))))
theorem Gb{x0:Zr}{x1:Zr}{r:Zr}(h:nV x0 x1=some r):Pure Tryz.prog 134 [.agg (eZ x0),.agg (eZ x1)] (.agg (eZ r)):=by
 obtain⟨az,aA⟩:=x0
 obtain⟨aZ,aY⟩:=x1
 refine ah Tryz.func134 rfl (Nat.le_of_ble_eq_true rfl) (fun b9 M vs hvs=>?_)
 unfold nV at h
 refine sr<|bx rfl<|bx rfl<|al (cs:=[.v (.bool false),slc 1 (List.map ak [])]) (by exact⟨SV.aa _,imp_nil,trivial⟩) rfl<|dn<|qq<|ai mixed<|fa rfl rfl<|lV rfl rfl rfl<|bE h fun eE jS h=>cl (bO jS) ⟨rfl,trivial⟩<|fa rfl rfl<|lV rfl rfl rfl<|bE h fun cG fT h=>cl (bO fT) ⟨rfl,trivial⟩<|ag rfl<|ag rfl ?_
 refine RT.done ⟨by kernel_rfl,?_⟩
 refine ae.n<|qq<|bE h fun e6 xj jh=>?_
 refine aL (fun(v5:(List Int))=>AS.bw 28 [(4,.ptr 4 0),(5,.sv (slc 1 (List.map aV v5)))] [(4,⟨34,[.sv (.v (.bool false)),.sv (slc 1 (List.map ak []))]⟩)] []) (fun v5=>v5=e6) ?_ (fun v5 xk=>?_)
 refine aq ?_
 refine aM xj (fun s6=>AS.bw 28 [(4,.ptr 4 0),(5,.sv (slc 1 (List.map aV s6.1))),(6,.sv (slc 1 (List.map aV s6.2)))] [(4,⟨34,[.sv (.v (.bool false)),.sv (slc 1 (List.map ak []))]⟩)] []) (wR []) (fun s6 y6 G6 h xl sx=>?_)
 obtain⟨kL,pz⟩:=s6
 try dsimp only
 refine qq<|sr<|mv rfl<|lE h fun dz gZ h=>ln rfl gZ<|lE h fun cX jd h=>gt _ rfl rfl jd<|dn ?_
 cases cX
 refine cF<|aS<|ae.x<|ae.x<|aD.x<|ae.n ?_
 obtain rfl:=O (F h)
 exact⟨kL,sx _ rfl,wR []⟩
 refine cT<|aC<|ae.n<|aq<|sr<|mv rfl<|mv rfl ?_
 obtain⟨⟨afP,Nj⟩,jT,h⟩:=bS (V h)
 refine cl (yP jT) ⟨rfl,rfl,trivial⟩<|mv rfl<|ex rfl rfl<|ex rfl rfl<|ag rfl<|ag rfl<|dn<|af<|mv rfl<|mv rfl<|ag rfl<|ag rfl<|RT.done<|aD.n ?_
 obtain rfl:=O h
 exact ae.n ⟨(pz,Nj),xl _ rfl,wR []⟩
 subst xk
 try dsimp only
 refine ae.n<|sr<|mv rfl ?_
 obtain⟨⟨yz,wJ⟩,mR,jh⟩:=bS jh
 refine cl (fk mR) ⟨rfl,rfl,trivial⟩<|so rfl rfl rfl<|dn<|aj ?_
 obtain rfl:=O jh
 exact RZ (.agg rfl rfl (.cons rfl (.cons rfl (.nil))) rfl (.nil))
end Go.Proofs.YtfoldppidpmchaaGreat
namespace Go.Proofs.YtfoldppidpmchaaGreat
open Go.Fw
noncomputable def lD:Option (Zr):=(gh 1).bind fun⟨aZ,aY⟩=>some ⟨aZ,aY⟩
noncomputable def dD(x0:Qr):Option (Zr):=match x0 with|⟨⟨az,aA⟩,⟨aE,aF⟩⟩=>(c8 ⟨aE,aF⟩).bind fun x5=>(some (decide ((x5:Int)=0))).bind fun x6=>(bif x6 then(lD).bind fun⟨qV,qW⟩=>some ⟨qV,qW⟩else(nT ⟨aE,aF⟩).bind fun⟨lP,lQ⟩=>some ⟨lP,lQ⟩)
noncomputable def eC(x0:Qr):Option (Zr):=match x0 with|⟨⟨az,aA⟩,⟨aE,aF⟩⟩=>(c8 ⟨aE,aF⟩).bind fun x5=>(some (decide ((x5:Int)<0))).bind fun x6=>(bif x6 then(lz ⟨az,aA⟩).bind fun⟨CQ,CR⟩=>some ⟨CQ,CR⟩else(gE ⟨az,aA⟩).bind fun⟨jA,ji⟩=>some ⟨jA,ji⟩)
noncomputable def gp(x0:Zr)(x1:Zr):Option (Qr):=match x0 with|⟨az,aA⟩=>match x1 with|⟨aZ,aY⟩=>(nV ⟨az,aA⟩ ⟨aZ,aY⟩).bind fun⟨wL,wM⟩=>(lC ⟨az,aA⟩ ⟨wL,wM⟩).bind fun⟨⟨iF,iG⟩,⟨lW,lX⟩,af8⟩=>(lC ⟨aZ,aY⟩ ⟨wL,wM⟩).bind fun⟨⟨Gc,Ge⟩,⟨XA,XB⟩,af9⟩=>(lD).bind fun⟨qp,qt⟩=>(nS ⟨Gc,Ge⟩ ⟨qp,qt⟩).bind fun ny=>(some (decide ((ny:Int)=0))).bind fun fI=>(bif fI then some ⟨⟨iF,iG⟩,⟨false,[]⟩⟩else some ⟨⟨iF,iG⟩,⟨Gc,Ge⟩⟩)
noncomputable def dY(x0:Qr):Option (Qr):=match x0 with|⟨⟨az,aA⟩,⟨aE,aF⟩⟩=>(eC ⟨⟨az,aA⟩,⟨aE,aF⟩⟩).bind fun⟨nL,nM⟩=>(dD ⟨⟨az,aA⟩,⟨aE,aF⟩⟩).bind fun⟨xA,xB⟩=>(gp ⟨nL,nM⟩ ⟨xA,xB⟩).bind fun⟨⟨qV,qW⟩,⟨xH,xI⟩⟩=>some ⟨⟨qV,qW⟩,⟨xH,xI⟩⟩
noncomputable def m8(x0:Qr)(x1:Qr):Option (Bool):=match x0 with|⟨⟨az,aA⟩,⟨aE,aF⟩⟩=>match x1 with|⟨⟨aZ,aY⟩,⟨cI,cJ⟩⟩=>bD (fun(aaW:Bool)=>some aaW) fun K3=>(jW ⟨az,aA⟩ ⟨aZ,aY⟩).bind fun x9=>(bif x9 then(jW ⟨aE,aF⟩ ⟨cI,cJ⟩).bind fun cE=>some cE else some false).bind fun Vf=>K3 Vf
noncomputable def iv(x0:Int):Option (Qr):=(gh x0).bind fun⟨nL,nM⟩=>some ⟨⟨nL,nM⟩,⟨false,[]⟩⟩
noncomputable def pN(x0:Int)(x1:Int):Option (Qr):=(gh x0).bind fun⟨xA,xB⟩=>(gh x1).bind fun⟨og,oh⟩=>(dY ⟨⟨xA,xB⟩,⟨og,oh⟩⟩).bind fun⟨⟨lP,lQ⟩,⟨Cx,Cy⟩⟩=>some ⟨⟨lP,lQ⟩,⟨Cx,Cy⟩⟩
noncomputable def jJ(x0:Qr)(x1:Qr):Option (Qr):=match x0 with|⟨⟨az,aA⟩,⟨aE,aF⟩⟩=>match x1 with|⟨⟨aZ,aY⟩,⟨cI,cJ⟩⟩=>(eC ⟨⟨az,aA⟩,⟨aE,aF⟩⟩).bind fun⟨og,oh⟩=>(dD ⟨⟨aZ,aY⟩,⟨cI,cJ⟩⟩).bind fun⟨lP,lQ⟩=>(gj ⟨og,oh⟩ ⟨lP,lQ⟩).bind fun⟨uA,uB⟩=>(eC ⟨⟨aZ,aY⟩,⟨cI,cJ⟩⟩).bind fun⟨rF,rG⟩=>(dD ⟨⟨az,aA⟩,⟨aE,aF⟩⟩).bind fun⟨kZ,k7⟩=>(gj ⟨rF,rG⟩ ⟨kZ,k7⟩).bind fun⟨iq,ir⟩=>(nU ⟨uA,uB⟩ ⟨iq,ir⟩).bind fun⟨jk,jl⟩=>(dD ⟨⟨az,aA⟩,⟨aE,aF⟩⟩).bind fun⟨ve,vf⟩=>(dD ⟨⟨aZ,aY⟩,⟨cI,cJ⟩⟩).bind fun⟨oC,oD⟩=>(gj ⟨ve,vf⟩ ⟨oC,oD⟩).bind fun⟨qy,qA⟩=>(gp ⟨jk,jl⟩ ⟨qy,qA⟩).bind fun⟨⟨qo,o7⟩,⟨C4,C5⟩⟩=>some ⟨⟨qo,o7⟩,⟨C4,C5⟩⟩
noncomputable def iw(x0:Qr):Option (Qr):=match x0 with|⟨⟨az,aA⟩,⟨aE,aF⟩⟩=>(eC ⟨⟨az,aA⟩,⟨aE,aF⟩⟩).bind fun⟨nL,nM⟩=>(lz ⟨nL,nM⟩).bind fun⟨v8,yD⟩=>(dD ⟨⟨az,aA⟩,⟨aE,aF⟩⟩).bind fun⟨qV,qW⟩=>(gp ⟨v8,yD⟩ ⟨qV,qW⟩).bind fun⟨⟨og,oh⟩,⟨Is,It⟩⟩=>some ⟨⟨og,oh⟩,⟨Is,It⟩⟩
noncomputable def nW(x0:Qr)(x1:Qr):Option (Qr):=match x0 with|⟨⟨az,aA⟩,⟨aE,aF⟩⟩=>match x1 with|⟨⟨aZ,aY⟩,⟨cI,cJ⟩⟩=>(iw ⟨⟨aZ,aY⟩,⟨cI,cJ⟩⟩).bind fun⟨⟨qV,qW⟩,⟨xH,xI⟩⟩=>(jJ ⟨⟨az,aA⟩,⟨aE,aF⟩⟩ ⟨⟨qV,qW⟩,⟨xH,xI⟩⟩).bind fun⟨⟨og,oh⟩,⟨Is,It⟩⟩=>some ⟨⟨og,oh⟩,⟨Is,It⟩⟩
noncomputable def jK(x0:Qr)(x1:Qr):Option (Qr):=match x0 with|⟨⟨az,aA⟩,⟨aE,aF⟩⟩=>match x1 with|⟨⟨aZ,aY⟩,⟨cI,cJ⟩⟩=>(eC ⟨⟨az,aA⟩,⟨aE,aF⟩⟩).bind fun⟨xA,xB⟩=>(eC ⟨⟨aZ,aY⟩,⟨cI,cJ⟩⟩).bind fun⟨og,oh⟩=>(gj ⟨xA,xB⟩ ⟨og,oh⟩).bind fun⟨CQ,CR⟩=>(dD ⟨⟨az,aA⟩,⟨aE,aF⟩⟩).bind fun⟨uA,uB⟩=>(dD ⟨⟨aZ,aY⟩,⟨cI,cJ⟩⟩).bind fun⟨rF,rG⟩=>(gj ⟨uA,uB⟩ ⟨rF,rG⟩).bind fun⟨wL,wM⟩=>(gp ⟨CQ,CR⟩ ⟨wL,wM⟩).bind fun⟨⟨kZ,k7⟩,⟨AJ,AK⟩⟩=>some ⟨⟨kZ,k7⟩,⟨AJ,AK⟩⟩
noncomputable def me(x0:Qr):Option (Int):=match x0 with|⟨⟨az,aA⟩,⟨aE,aF⟩⟩=>(eC ⟨⟨az,aA⟩,⟨aE,aF⟩⟩).bind fun⟨nL,nM⟩=>(c8 ⟨nL,nM⟩).bind fun x5=>some x5
noncomputable def nX(x0:Qr)(x1:Qr):Option (Int):=match x0 with|⟨⟨az,aA⟩,⟨aE,aF⟩⟩=>match x1 with|⟨⟨aZ,aY⟩,⟨cI,cJ⟩⟩=>(nW ⟨⟨az,aA⟩,⟨aE,aF⟩⟩ ⟨⟨aZ,aY⟩,⟨cI,cJ⟩⟩).bind fun⟨⟨qV,qW⟩,⟨xH,xI⟩⟩=>(me ⟨⟨qV,qW⟩,⟨xH,xI⟩⟩).bind fun x8=>some x8
end Go.Proofs.YtfoldppidpmchaaGreat
namespace Go.Proofs.YtfoldppidpmchaaGreat
open Go.Fw Go.Fw.Z Go.RowKit
theorem yS{r:Zr}(h:lD=some r):Pure Tryz.prog 137 [] (.agg (eZ r)):=by
 refine ah Tryz.func137 rfl (Nat.le_of_ble_eq_true rfl) (fun b9 M vs hvs=>?_)
 unfold lD at h
 refine sr<|al (cs:=[.v (.bool false),slc 1 (List.map ak [])]) (by exact⟨SV.aa _,imp_nil,trivial⟩) rfl<|dn<|sr ?_
 obtain⟨⟨aZ,aY⟩,h1,h⟩:=bS h
 refine cl (nj h1) ⟨rfl,trivial⟩<|so rfl rfl rfl<|dn<|aj ?_
 obtain rfl:=O h
 exact RZ (.agg rfl rfl (.cons rfl (.cons rfl (.nil))) rfl (.nil))
theorem gu{x0:Qr}{r:Zr}(h:dD x0=some r):Pure Tryz.prog 109 [.agg (eQ x0)] (.agg (eZ r)):=by
 obtain⟨⟨az,aA⟩,⟨aE,aF⟩⟩:=x0
 refine ah Tryz.func109 rfl (Nat.le_of_ble_eq_true rfl) (fun b9 M vs hvs=>?_)
 unfold dD at h
 refine sr<|bx rfl<|al (cs:=[.v (.bool false),slc 1 (List.map ak [])]) (by exact⟨SV.aa _,imp_nil,trivial⟩) rfl<|dn<|qq<|sr<|fa rfl rfl<|ld rfl rfl (.cons rfl (.cons rfl (.nil)))<|bE h fun x5 h5 h=>cl (fm h5) ⟨rfl,trivial⟩<|lE h fun x6 h6 h=>eq _ rfl rfl (Bb (p:=x5) (q:=0) h6)<|dn ?_
 cases x6
 refine fs<|sr<|fa rfl rfl<|ld rfl rfl (.cons rfl (.cons rfl (.nil))) ?_
 obtain⟨⟨lP,lQ⟩,ep,h⟩:=bS (F h)
 refine cl (F9 ep) ⟨rfl,trivial⟩<|so rfl rfl rfl<|dn<|aj ?_
 obtain rfl:=O h
 exact RZ (.agg rfl rfl (.cons rfl (.cons rfl (.nil))) rfl (.nil))
 refine cT<|sr ?_
 obtain⟨⟨qV,qW⟩,h7,h⟩:=bS (V h)
 refine cl (yS h7) trivial<|so rfl rfl rfl<|dn<|aj<|ae.r ?_
 obtain rfl:=O h
 exact RZ (.agg rfl rfl (.cons rfl (.cons rfl (.nil))) rfl (.nil))
theorem iM{x0:Qr}{r:Zr}(h:eC x0=some r):Pure Tryz.prog 108 [.agg (eQ x0)] (.agg (eZ r)):=by
 obtain⟨⟨az,aA⟩,⟨aE,aF⟩⟩:=x0
 refine ah Tryz.func108 rfl (Nat.le_of_ble_eq_true rfl) (fun b9 M vs hvs=>?_)
 unfold eC at h
 refine sr<|bx rfl<|al (cs:=[.v (.bool false),slc 1 (List.map ak [])]) (by exact⟨SV.aa _,imp_nil,trivial⟩) rfl<|dn<|qq<|sr<|fa rfl rfl<|ld rfl rfl (.cons rfl (.cons rfl (.nil)))<|bE h fun x5 h5 h=>cl (fm h5) ⟨rfl,trivial⟩<|lE h fun x6 h6 h=>ls _ rfl rfl h6<|dn ?_
 cases x6
 refine fs<|sr<|fa rfl rfl<|ld rfl rfl (.cons rfl (.cons rfl (.nil))) ?_
 obtain⟨⟨jA,ji⟩,dH,h⟩:=bS (F h)
 refine cl (va dH) ⟨rfl,trivial⟩<|so rfl rfl rfl<|dn<|aj ?_
 obtain rfl:=O h
 exact RZ (.agg rfl rfl (.cons rfl (.cons rfl (.nil))) rfl (.nil))
 refine cT<|sr<|fa rfl rfl<|ld rfl rfl (.cons rfl (.cons rfl (.nil))) ?_
 obtain⟨⟨CQ,CR⟩,h9,h⟩:=bS (V h)
 refine cl (yQ h9) ⟨rfl,trivial⟩<|so rfl rfl rfl<|dn<|aj<|ae.r ?_
 obtain rfl:=O h
 exact RZ (.agg rfl rfl (.cons rfl (.cons rfl (.nil))) rfl (.nil))
theorem nk{x0:Zr}{x1:Zr}{r:Qr}(h:gp x0 x1=some r):Pure Tryz.prog 106 [.agg (eZ x0),.agg (eZ x1)] (.agg (eQ r)):=by
 obtain⟨az,aA⟩:=x0
 obtain⟨aZ,aY⟩:=x1
 refine ah Tryz.func106 rfl (Nat.le_of_ble_eq_true rfl) (fun b9 M vs hvs=>?_)
 unfold gp at h
 refine sr<|bx rfl<|bx rfl<|al (cs:=[.v (.bool false),slc 1 (List.map ak []),.v (.bool false),slc 1 (List.map ak [])]) (by exact⟨SV.aa _,imp_nil,SV.aa _,imp_nil,trivial⟩) rfl<|dn<|sr<|ld rfl rfl (.cons rfl (.cons rfl (.nil)))<|ld rfl rfl (.cons rfl (.cons rfl (.nil))) ?_
 obtain⟨⟨wL,wM⟩,fT,h⟩:=bS h
 refine cl (Gb fT) ⟨rfl,rfl,trivial⟩<|al (cs:=[.v (.bool false),slc 1 (List.map ak [])]) (by exact⟨SV.aa _,imp_nil,trivial⟩) rfl<|so rfl rfl rfl<|dn<|sr<|ld rfl rfl (.cons rfl (.cons rfl (.nil)))<|ld rfl rfl (.cons rfl (.cons rfl (.nil))) ?_
 obtain⟨⟨⟨iF,iG⟩,⟨lW,lX⟩,af8⟩,iS,h⟩:=bS h
 refine cl (yR iS) ⟨rfl,rfl,trivial⟩<|mv rfl<|ex rfl rfl<|ex rfl rfl<|ex rfl rfl<|al (cs:=[.v (.bool false),slc 1 (List.map ak [])]) (by exact⟨SV.aa _,imp_nil,trivial⟩) rfl<|al (cs:=[.v (.bool false),slc 1 (List.map ak [])]) (by exact⟨SV.aa _,imp_nil,trivial⟩) rfl<|so rfl rfl rfl<|so rfl rfl rfl<|ag rfl<|dn<|sr<|ld rfl rfl (.cons rfl (.cons rfl (.nil))) ?_
 refine ld rfl rfl (.cons rfl (.cons rfl (.nil))) ?_
 obtain⟨⟨⟨Gc,Ge⟩,⟨XA,XB⟩,af9⟩,lS,h⟩:=bS h
 refine cl (yR lS) ⟨rfl,rfl,trivial⟩<|mv rfl<|ex rfl rfl<|ex rfl rfl<|ex rfl rfl<|al (cs:=[.v (.bool false),slc 1 (List.map ak [])]) (by exact⟨SV.aa _,imp_nil,trivial⟩) rfl<|al (cs:=[.v (.bool false),slc 1 (List.map ak [])]) (by exact⟨SV.aa _,imp_nil,trivial⟩) rfl<|so rfl rfl rfl<|so rfl rfl rfl<|ag rfl<|dn<|qq<|qq<|ai mixed<|ld rfl rfl (.cons rfl (.cons rfl (.nil))) ?_
 obtain⟨⟨qp,qt⟩,zX,h⟩:=bS h
 refine cl (yS zX) trivial<|bE h fun ny xU h=>cl (F8 xU) ⟨rfl,rfl,trivial⟩<|lE h fun fI mZ h=>eq _ rfl rfl (Bb (p:=ny) (q:=0) mZ) ?_
 refine RT.done ⟨by kernel_rfl,?_⟩
 refine ae.n ?_
 cases fI
 refine fs<|sr<|ld rfl rfl (.cons rfl (.cons rfl (.nil)))<|ld rfl rfl (.cons rfl (.cons rfl (.nil)))<|bI (cs:=[_,_,_,_]) (cs':=[.v (.bool iF),slc 1 (List.map ak iG),.v (.bool Gc),slc 1 (List.map ak Ge)]) (.agg rfl (.agg rfl (.nil))) ⟨SV.aa _,SV.aa _,SV.aa _,SV.aa _,trivial⟩<|so rfl rfl rfl<|dn<|aj ?_
 obtain rfl:=O (F h)
 exact RZ (.agg rfl rfl (.cons rfl (.cons rfl (.cons rfl (.cons rfl (.nil))))) rfl (.nil))
 refine cT<|sr<|ld rfl rfl (.cons rfl (.cons rfl (.nil)))<|bI (cs:=[_,_,_,_]) (cs':=[.v (.bool iF),slc 1 (List.map ak iG),.v (.bool false),slc 1 (List.map ak [])]) (.agg rfl (.nil)) ⟨SV.aa _,SV.aa _,SV.aa _,imp_nil,trivial⟩<|so rfl rfl rfl<|dn<|aj<|ae.r ?_
 obtain rfl:=O (V h)
 exact RZ (.agg rfl rfl (.cons rfl (.cons rfl (.cons rfl (.cons rfl (.nil))))) rfl (.nil))
theorem jL{x0:Qr}{r:Qr}(h:dY x0=some r):Pure Tryz.prog 76 [.agg (eQ x0)] (.agg (eQ r)):=by
 obtain⟨⟨az,aA⟩,⟨aE,aF⟩⟩:=x0
 refine ah Tryz.func76 rfl (Nat.le_of_ble_eq_true rfl) (fun b9 M vs hvs=>?_)
 unfold dY at h
 refine sr<|bx rfl<|al (cs:=[.v (.bool false),slc 1 (List.map ak []),.v (.bool false),slc 1 (List.map ak [])]) (by exact⟨SV.aa _,imp_nil,SV.aa _,imp_nil,trivial⟩) rfl<|dn<|qq<|ai mixed<|ld rfl rfl (.cons rfl (.cons rfl (.cons rfl (.cons rfl (.nil))))) ?_
 obtain⟨⟨nL,nM⟩,h4,h⟩:=bS h
 refine cl (iM h4) ⟨rfl,trivial⟩<|ld rfl rfl (.cons rfl (.cons rfl (.cons rfl (.cons rfl (.nil))))) ?_
 obtain⟨⟨xA,xB⟩,h6,h⟩:=bS h
 refine cl (gu h6) ⟨rfl,trivial⟩ ?_
 obtain⟨⟨⟨qV,qW⟩,⟨xH,xI⟩⟩,h7,h⟩:=bS h
 refine cl (nk h7) ⟨rfl,rfl,trivial⟩<|so rfl rfl rfl ?_
 refine RT.done ⟨by kernel_rfl,?_⟩
 refine ae.n<|aj ?_
 obtain rfl:=O h
 exact RZ (.agg rfl rfl (.cons rfl (.cons rfl (.cons rfl (.cons rfl (.nil))))) rfl (.nil))
theorem IC{x0:Qr}{x1:Qr}{r:Bool}(h:m8 x0 x1=some r):Pure Tryz.prog 110 [.agg (eQ x0),.agg (eQ x1)] (.v (.bool r)):=by
 obtain⟨⟨az,aA⟩,⟨aE,aF⟩⟩:=x0
 obtain⟨⟨aZ,aY⟩,⟨cI,cJ⟩⟩:=x1
 refine ah Tryz.func110 rfl (Nat.le_of_ble_eq_true rfl) (fun b9 M vs hvs=>?_)
 unfold m8 at h
 refine sr<|bx rfl<|bx rfl<|ag rfl<|dn<|qq ?_
 refine aH h (fun j3=>AS.bw 17 [(4,.sv (.v (.bool j3)))] [] []) (fun h=>?_) (fun aaW h=>?_)
 refine af<|fa rfl rfl<|ld rfl rfl (.cons rfl (.cons rfl (.nil)))<|fa rfl rfl<|ld rfl rfl (.cons rfl (.cons rfl (.nil)))<|bE h fun x9 h9 h=>cl (wO h9) ⟨rfl,rfl,trivial⟩<|mv rfl<|bE h fun Vf lK h=>?_
 cases x9
 obtain rfl:=O (F lK)
 exact ww<|ww<|ww<|ww<|ww<|pF rfl<|ag rfl<|dn<|⟨false,h,wR []⟩
 refine RT.fieldAddr (.some rfl rfl) rfl T rfl<|gl rfl rfl (.cons rfl (.cons rfl (.nil)))<|RT.fieldAddr (.some rfl rfl) rfl T rfl<|gl rfl rfl (.cons rfl (.cons rfl (.nil)))<|bE (V lK) fun cE fS lK=>gc (wO fS) ⟨rfl,rfl,trivial⟩ ?_
 obtain rfl:=O lK
 exact pT rfl<|ag rfl<|dn<|⟨cE,h,wR []⟩
 try dsimp only
 refine ae.n<|aj ?_
 obtain rfl:=O h
 exact R1 rfl
theorem oL{x0:Int}{r:Qr}(h:iv x0=some r):Pure Tryz.prog 13 [.v (.int .i64 x0)] (.agg (eQ r)):=by
 refine ah Tryz.func13 rfl (Nat.le_of_ble_eq_true rfl) (fun b9 M vs hvs=>?_)
 unfold iv at h
 refine sr<|al (cs:=[.v (.bool false),slc 1 (List.map ak []),.v (.bool false),slc 1 (List.map ak [])]) (by exact⟨SV.aa _,imp_nil,SV.aa _,imp_nil,trivial⟩) rfl<|dn<|sr<|mv rfl ?_
 obtain⟨⟨nL,nM⟩,h4,h⟩:=bS h
 refine cl (nj h4) ⟨rfl,trivial⟩<|bI (cs:=[_,_,_,_]) (cs':=[.v (.bool nL),slc 1 (List.map ak nM),.v (.bool false),slc 1 (List.map ak [])]) (.agg rfl (.nil)) ⟨SV.aa _,SV.aa _,SV.aa _,imp_nil,trivial⟩<|so rfl rfl rfl<|dn<|aj ?_
 obtain rfl:=O h
 exact RZ (.agg rfl rfl (.cons rfl (.cons rfl (.cons rfl (.cons rfl (.nil))))) rfl (.nil))
theorem ID{x0:Int}{x1:Int}{r:Qr}(h:pN x0 x1=some r):Pure Tryz.prog 43 [.v (.int .i64 x0),.v (.int .i64 x1)] (.agg (eQ r)):=by
 refine ah Tryz.func43 rfl (Nat.le_of_ble_eq_true rfl) (fun b9 M vs hvs=>?_)
 unfold pN at h
 refine sr<|al (cs:=[.v (.bool false),slc 1 (List.map ak []),.v (.bool false),slc 1 (List.map ak [])]) (by exact⟨SV.aa _,imp_nil,SV.aa _,imp_nil,trivial⟩) rfl<|dn<|sr<|mv rfl ?_
 obtain⟨⟨xA,xB⟩,h6,h⟩:=bS h
 refine cl (nj h6) ⟨rfl,trivial⟩<|mv rfl ?_
 obtain⟨⟨og,oh⟩,h8,h⟩:=bS h
 refine cl (nj h8) ⟨rfl,trivial⟩<|bI (cs:=[_,_,_,_]) (cs':=[.v (.bool xA),slc 1 (List.map ak xB),.v (.bool og),slc 1 (List.map ak oh)]) (.agg rfl (.agg rfl (.nil))) ⟨SV.aa _,SV.aa _,SV.aa _,SV.aa _,trivial⟩ ?_
 obtain⟨⟨⟨lP,lQ⟩,⟨Cx,Cy⟩⟩,ep,h⟩:=bS h
 refine cl (jL ep) ⟨rfl,trivial⟩<|so rfl rfl rfl<|dn<|aj ?_
 obtain rfl:=O h
 exact RZ (.agg rfl rfl (.cons rfl (.cons rfl (.cons rfl (.cons rfl (.nil))))) rfl (.nil))
theorem sM{x0:Qr}{x1:Qr}{r:Qr}(h:jJ x0 x1=some r):Pure Tryz.prog 141 [.agg (eQ x0),.agg (eQ x1)] (.agg (eQ r)):=by
 obtain⟨⟨az,aA⟩,⟨aE,aF⟩⟩:=x0
 obtain⟨⟨aZ,aY⟩,⟨cI,cJ⟩⟩:=x1
 refine ah Tryz.func141 rfl (Nat.le_of_ble_eq_true rfl) (fun b9 M vs hvs=>?_)
 unfold jJ at h
 refine sr<|bx rfl<|bx rfl<|al (cs:=[.v (.bool false),slc 1 (List.map ak []),.v (.bool false),slc 1 (List.map ak [])]) (by exact⟨SV.aa _,imp_nil,SV.aa _,imp_nil,trivial⟩) rfl<|dn<|qq<|ai mixed<|ld rfl rfl (.cons rfl (.cons rfl (.cons rfl (.cons rfl (.nil))))) ?_
 obtain⟨⟨og,oh⟩,h8,h⟩:=bS h
 refine cl (iM h8) ⟨rfl,trivial⟩<|ld rfl rfl (.cons rfl (.cons rfl (.cons rfl (.cons rfl (.nil))))) ?_
 obtain⟨⟨lP,lQ⟩,ep,h⟩:=bS h
 refine cl (gu ep) ⟨rfl,trivial⟩ ?_
 obtain⟨⟨uA,uB⟩,jS,h⟩:=bS h
 refine cl (mc jS) ⟨rfl,rfl,trivial⟩<|ld rfl rfl (.cons rfl (.cons rfl (.cons rfl (.cons rfl (.nil))))) ?_
 obtain⟨⟨rF,rG⟩,jn,h⟩:=bS h
 refine cl (iM jn) ⟨rfl,trivial⟩<|ld rfl rfl (.cons rfl (.cons rfl (.cons rfl (.cons rfl (.nil))))) ?_
 obtain⟨⟨kZ,k7⟩,fS,h⟩:=bS h
 refine cl (gu fS) ⟨rfl,trivial⟩ ?_
 obtain⟨⟨iq,ir⟩,gZ,h⟩:=bS h
 refine cl (mc gZ) ⟨rfl,rfl,trivial⟩<|al (cs:=[.v (.bool false),slc 1 (List.map ak [])]) (by exact⟨SV.aa _,imp_nil,trivial⟩) rfl<|al (cs:=[.v (.bool false),slc 1 (List.map ak [])]) (by exact⟨SV.aa _,imp_nil,trivial⟩) rfl<|so rfl rfl rfl<|so rfl rfl rfl ?_
 refine RT.done ⟨by kernel_rfl,?_⟩
 refine ae.n<|qq<|ai mixed<|ld rfl rfl (.cons rfl (.cons rfl (.nil)))<|ld rfl rfl (.cons rfl (.cons rfl (.nil))) ?_
 obtain⟨⟨jk,jl⟩,kp,h⟩:=bS h
 refine cl (Ga kp) ⟨rfl,rfl,trivial⟩<|ld rfl rfl (.cons rfl (.cons rfl (.cons rfl (.cons rfl (.nil))))) ?_
 obtain⟨⟨ve,vf⟩,jT,h⟩:=bS h
 refine cl (gu jT) ⟨rfl,trivial⟩<|ld rfl rfl (.cons rfl (.cons rfl (.cons rfl (.cons rfl (.nil))))) ?_
 obtain⟨⟨oC,oD⟩,kN,h⟩:=bS h
 refine cl (gu kN) ⟨rfl,trivial⟩ ?_
 obtain⟨⟨qy,qA⟩,mI,h⟩:=bS h
 refine cl (mc mI) ⟨rfl,rfl,trivial⟩ ?_
 obtain⟨⟨⟨qo,o7⟩,⟨C4,C5⟩⟩,lS,h⟩:=bS h
 refine cl (nk lS) ⟨rfl,rfl,trivial⟩<|so rfl rfl rfl ?_
 refine RT.done ⟨by kernel_rfl,?_⟩
 refine ae.n<|aj ?_
 obtain rfl:=O h
 exact RZ (.agg rfl rfl (.cons rfl (.cons rfl (.cons rfl (.cons rfl (.nil))))) rfl (.nil))
theorem oM{x0:Qr}{r:Qr}(h:iw x0=some r):Pure Tryz.prog 71 [.agg (eQ x0)] (.agg (eQ r)):=by
 obtain⟨⟨az,aA⟩,⟨aE,aF⟩⟩:=x0
 refine ah Tryz.func71 rfl (Nat.le_of_ble_eq_true rfl) (fun b9 M vs hvs=>?_)
 unfold iw at h
 refine sr<|bx rfl<|al (cs:=[.v (.bool false),slc 1 (List.map ak []),.v (.bool false),slc 1 (List.map ak [])]) (by exact⟨SV.aa _,imp_nil,SV.aa _,imp_nil,trivial⟩) rfl<|dn<|qq<|ai mixed<|ld rfl rfl (.cons rfl (.cons rfl (.cons rfl (.cons rfl (.nil))))) ?_
 obtain⟨⟨nL,nM⟩,h4,h⟩:=bS h
 refine cl (iM h4) ⟨rfl,trivial⟩ ?_
 obtain⟨⟨v8,yD⟩,h5,h⟩:=bS h
 refine cl (yQ h5) ⟨rfl,trivial⟩<|ld rfl rfl (.cons rfl (.cons rfl (.cons rfl (.cons rfl (.nil))))) ?_
 obtain⟨⟨qV,qW⟩,h7,h⟩:=bS h
 refine cl (gu h7) ⟨rfl,trivial⟩ ?_
 obtain⟨⟨⟨og,oh⟩,⟨Is,It⟩⟩,h8,h⟩:=bS h
 refine cl (nk h8) ⟨rfl,rfl,trivial⟩<|so rfl rfl rfl ?_
 refine RT.done ⟨by kernel_rfl,?_⟩
 refine ae.n<|aj ?_
 obtain rfl:=O h
 exact RZ (.agg rfl rfl (.cons rfl (.cons rfl (.cons rfl (.cons rfl (.nil))))) rfl (.nil))
theorem Gf{x0:Qr}{x1:Qr}{r:Qr}(h:nW x0 x1=some r):Pure Tryz.prog 122 [.agg (eQ x0),.agg (eQ x1)] (.agg (eQ r)):=by
 obtain⟨⟨az,aA⟩,⟨aE,aF⟩⟩:=x0
 obtain⟨⟨aZ,aY⟩,⟨cI,cJ⟩⟩:=x1
 refine ah Tryz.func122 rfl (Nat.le_of_ble_eq_true rfl) (fun b9 M vs hvs=>?_)
 unfold nW at h
 refine sr<|bx rfl<|bx rfl<|al (cs:=[.v (.bool false),slc 1 (List.map ak []),.v (.bool false),slc 1 (List.map ak [])]) (by exact⟨SV.aa _,imp_nil,SV.aa _,imp_nil,trivial⟩) rfl<|dn<|qq<|ai mixed<|ld rfl rfl (.cons rfl (.cons rfl (.cons rfl (.cons rfl (.nil)))))<|ld rfl rfl (.cons rfl (.cons rfl (.cons rfl (.cons rfl (.nil))))) ?_
 obtain⟨⟨⟨qV,qW⟩,⟨xH,xI⟩⟩,h7,h⟩:=bS h
 refine cl (oM h7) ⟨rfl,trivial⟩ ?_
 obtain⟨⟨⟨og,oh⟩,⟨Is,It⟩⟩,h8,h⟩:=bS h
 refine cl (sM h8) ⟨rfl,rfl,trivial⟩<|so rfl rfl rfl ?_
 refine RT.done ⟨by kernel_rfl,?_⟩
 refine ae.n<|aj ?_
 obtain rfl:=O h
 exact RZ (.agg rfl rfl (.cons rfl (.cons rfl (.cons rfl (.cons rfl (.nil))))) rfl (.nil))
theorem sN{x0:Qr}{x1:Qr}{r:Qr}(h:jK x0 x1=some r):Pure Tryz.prog 142 [.agg (eQ x0),.agg (eQ x1)] (.agg (eQ r)):=by
 obtain⟨⟨az,aA⟩,⟨aE,aF⟩⟩:=x0
 obtain⟨⟨aZ,aY⟩,⟨cI,cJ⟩⟩:=x1
 refine ah Tryz.func142 rfl (Nat.le_of_ble_eq_true rfl) (fun b9 M vs hvs=>?_)
 unfold jK at h
 refine sr<|bx rfl<|bx rfl<|al (cs:=[.v (.bool false),slc 1 (List.map ak []),.v (.bool false),slc 1 (List.map ak [])]) (by exact⟨SV.aa _,imp_nil,SV.aa _,imp_nil,trivial⟩) rfl<|dn<|qq<|ai mixed<|ld rfl rfl (.cons rfl (.cons rfl (.cons rfl (.cons rfl (.nil))))) ?_
 obtain⟨⟨xA,xB⟩,h6,h⟩:=bS h
 refine cl (iM h6) ⟨rfl,trivial⟩<|ld rfl rfl (.cons rfl (.cons rfl (.cons rfl (.cons rfl (.nil))))) ?_
 obtain⟨⟨og,oh⟩,h8,h⟩:=bS h
 refine cl (iM h8) ⟨rfl,trivial⟩ ?_
 obtain⟨⟨CQ,CR⟩,h9,h⟩:=bS h
 refine cl (mc h9) ⟨rfl,rfl,trivial⟩<|ld rfl rfl (.cons rfl (.cons rfl (.cons rfl (.cons rfl (.nil))))) ?_
 obtain⟨⟨uA,uB⟩,jS,h⟩:=bS h
 refine cl (gu jS) ⟨rfl,trivial⟩<|ld rfl rfl (.cons rfl (.cons rfl (.cons rfl (.cons rfl (.nil))))) ?_
 obtain⟨⟨rF,rG⟩,jn,h⟩:=bS h
 refine cl (gu jn) ⟨rfl,trivial⟩ ?_
 obtain⟨⟨wL,wM⟩,fT,h⟩:=bS h
 refine cl (mc fT) ⟨rfl,rfl,trivial⟩ ?_
 obtain⟨⟨⟨kZ,k7⟩,⟨AJ,AK⟩⟩,fS,h⟩:=bS h
 refine cl (nk fS) ⟨rfl,rfl,trivial⟩<|so rfl rfl rfl ?_
 refine RT.done ⟨by kernel_rfl,?_⟩
 refine ae.n<|aj ?_
 obtain rfl:=O h
 exact RZ (.agg rfl rfl (.cons rfl (.cons rfl (.cons rfl (.cons rfl (.nil))))) rfl (.nil))
theorem D8{x0:Qr}{r:Int}(h:me x0=some r):Pure Tryz.prog 121 [.agg (eQ x0)] (.v (.int .i64 r)):=by
 obtain⟨⟨az,aA⟩,⟨aE,aF⟩⟩:=x0
 refine ah Tryz.func121 rfl (Nat.le_of_ble_eq_true rfl) (fun b9 M vs hvs=>?_)
 unfold me at h
 refine sr<|bx rfl<|ag rfl<|dn<|sr<|ld rfl rfl (.cons rfl (.cons rfl (.cons rfl (.cons rfl (.nil))))) ?_
 obtain⟨⟨nL,nM⟩,h4,h⟩:=bS h
 refine cl (iM h4) ⟨rfl,trivial⟩<|bE h fun x5 h5 h=>cl (fm h5) ⟨rfl,trivial⟩<|ag rfl<|dn<|aj ?_
 obtain rfl:=O h
 exact R1 rfl
theorem Gg{x0:Qr}{x1:Qr}{r:Int}(h:nX x0 x1=some r):Pure Tryz.prog 92 [.agg (eQ x0),.agg (eQ x1)] (.v (.int .i64 r)):=by
 obtain⟨⟨az,aA⟩,⟨aE,aF⟩⟩:=x0
 obtain⟨⟨aZ,aY⟩,⟨cI,cJ⟩⟩:=x1
 refine ah Tryz.func92 rfl (Nat.le_of_ble_eq_true rfl) (fun b9 M vs hvs=>?_)
 unfold nX at h
 refine sr<|bx rfl<|bx rfl<|ag rfl<|dn<|sr<|ld rfl rfl (.cons rfl (.cons rfl (.cons rfl (.cons rfl (.nil)))))<|ld rfl rfl (.cons rfl (.cons rfl (.cons rfl (.cons rfl (.nil))))) ?_
 obtain⟨⟨⟨qV,qW⟩,⟨xH,xI⟩⟩,h7,h⟩:=bS h
 refine cl (Gf h7) ⟨rfl,rfl,trivial⟩<|bE h fun x8 h8 h=>cl (D8 h8) ⟨rfl,trivial⟩<|ag rfl<|dn<|aj ?_
 obtain rfl:=O h
 exact R1 rfl
end Go.Proofs.YtfoldppidpmchaaGreat
namespace Go.Proofs.YtfoldppidpmchaaGreat
open Go.Fw
noncomputable def fL(x0:List Qr)(x1:Int):Option (Qr):=bD (fun(uP:Bool)=>(bif uP then(bR x0 x1).bind fun⟨⟨kZ,k7⟩,⟨AJ,AK⟩⟩=>some ⟨⟨kZ,k7⟩,⟨AJ,AK⟩⟩else some ⟨⟨false,[]⟩,⟨false,[]⟩⟩)) fun K3=>(some (decide ((0:Int)≤x1))).bind fun x6=>(bif x6 then(some (x0.length:Int)).bind fun cn=>(some (decide ((x1:Int)<cn))).bind fun eE=>some eE else some false).bind fun Ib=>K3 Ib
noncomputable def kQ(x0:List Qr)(x1:List Qr):Option (Bool):=(some (x0.length:Int)).bind fun x7=>(some (x1.length:Int)).bind fun x9=>(some (decide ((x7:Int)≠x9))).bind fun cn=>(bif cn then some false else(bk (fun(kL:Int)=>(show Option ((Int)⊕((Unit)⊕(Bool)))from(some (x0.length:Int)).bind fun fR=>(some (decide ((kL:Int)<fR))).bind fun cG=>(bif cG then(bR x0 kL).bind fun⟨⟨jk,jl⟩,⟨tB,tC⟩⟩=>(bR x1 kL).bind fun⟨⟨oC,oD⟩,⟨wP,wQ⟩⟩=>(m8 ⟨⟨jk,jl⟩,⟨tB,tC⟩⟩ ⟨⟨oC,oD⟩,⟨wP,wQ⟩⟩).bind fun gC=>(some (!gC)).bind fun gJ=>(bif gJ then some (.inr (.inr false))else(some (IntKind.i64.wrap (kL+1))).bind fun dz=>some (.inl dz))else some (.inr (.inl ()))))) 0).bind fun e6=>match e6 with|.inr v6=>some v6|.inl _=>some true)
noncomputable def iT(x0:Qr)(x1:List Qr)(x2:List Qr):Option (List Qr):=match x0 with|⟨⟨az,aA⟩,⟨aE,aF⟩⟩=>(bk (fun(qc:Int×(List Qr))=>match qc with|⟨Kl,jI⟩=>(show Option ((Int×(List Qr))⊕((List Qr)))from bD (fun(Km:Bool)=>(bif Km then(fL x1 Kl).bind fun⟨⟨qo,o7⟩,⟨C4,C5⟩⟩=>(jK ⟨⟨az,aA⟩,⟨aE,aF⟩⟩ ⟨⟨qo,o7⟩,⟨C4,C5⟩⟩).bind fun⟨⟨qB,qC⟩,⟨qD,qE⟩⟩=>(fL x2 Kl).bind fun⟨⟨Il,Im⟩,⟨Io,Ip⟩⟩=>(jJ ⟨⟨qB,qC⟩,⟨qD,qE⟩⟩ ⟨⟨Il,Im⟩,⟨Io,Ip⟩⟩).bind fun⟨⟨qp,qt⟩,⟨LO,LP⟩⟩=>(mH 64 jI [⟨⟨qp,qt⟩,⟨LO,LP⟩⟩]).bind fun fI=>(some (IntKind.i64.wrap (Kl+1))).bind fun ik=>some (.inl (ik,fI))else some (.inr jI))) fun Ce=>(some (x1.length:Int)).bind fun eE=>(some (decide ((Kl:Int)<eE))).bind fun bV=>(bif bV then some true else(some (x2.length:Int)).bind fun dz=>(some (decide ((Kl:Int)<dz))).bind fun cX=>some cX).bind fun Qa=>Ce Qa)) (0,[])).bind fun fK=>some fK
noncomputable def iY(x0:Qr)(x1:List Qr):Option (List Qr):=match x0 with|⟨⟨az,aA⟩,⟨aE,aF⟩⟩=>(iT ⟨⟨az,aA⟩,⟨aE,aF⟩⟩ x1 []).bind fun x7=>some x7
noncomputable def lF(x0:List Qr)(x1:List Qr):Option (Int):=(bk (fun(xJ:Int)=>(show Option ((Int)⊕((Unit)⊕(Int)))from bD (fun(xE:Bool)=>(bif xE then(fL x0 xJ).bind fun⟨⟨ve,vf⟩,⟨AW,AX⟩⟩=>(fL x1 xJ).bind fun⟨⟨qy,qA⟩,⟨uS,uT⟩⟩=>(nX ⟨⟨ve,vf⟩,⟨AW,AX⟩⟩ ⟨⟨qy,qA⟩,⟨uS,uT⟩⟩).bind fun gC=>(some (decide ((gC:Int)≠0))).bind fun fF=>(bif fF then some (.inr (.inr gC))else(some (IntKind.i64.wrap (xJ+1))).bind fun c6=>some (.inl c6))else some (.inr (.inl ())))) fun Ce=>(some (x0.length:Int)).bind fun x9=>(some (decide ((xJ:Int)<x9))).bind fun cn=>(bif cn then some true else(some (x1.length:Int)).bind fun cG=>(some (decide ((xJ:Int)<cG))).bind fun cE=>some cE).bind fun CW=>Ce CW)) 0).bind fun Bd=>match Bd with|.inr v10=>some v10|.inl _=>some 0
noncomputable def dh(x0:List Qr)(x1:Int):Option (List Qr):=(bk (fun(qc:Int×(List Qr))=>match qc with|⟨tN,jI⟩=>(show Option ((Int×(List Qr))⊕((List Qr)))from bD (fun(xK:Bool)=>(bif xK then(fL x0 tN).bind fun⟨⟨jk,jl⟩,⟨tB,tC⟩⟩=>(dY ⟨⟨jk,jl⟩,⟨tB,tC⟩⟩).bind fun⟨⟨pA,pB⟩,⟨tq,tu⟩⟩=>(mH 64 jI [⟨⟨pA,pB⟩,⟨tq,tu⟩⟩]).bind fun fu=>(some (IntKind.i64.wrap (tN+1))).bind fun cE=>some (.inl (cE,fu))else some (.inr jI))) fun Ce=>(some (decide ((tN:Int)<x1))).bind fun x9=>(bif x9 then(some (decide ((tN:Int)<65536))).bind fun bV=>some bV else some false).bind fun C6=>Ce C6)) (0,[])).bind fun fK=>some fK
end Go.Proofs.YtfoldppidpmchaaGreat
namespace Go.Proofs.YtfoldppidpmchaaGreat
open Go.Fw Go.Fw.Z Go.RowKit
theorem jM{x0:List Qr}{x1:Int}{r:Qr}(h:fL x0 x1=some r):Pure Tryz.prog 87 [slc 4 (List.map eQ x0),.v (.int .i64 x1)] (.agg (eQ r)):=by
 refine ah Tryz.func87 rfl (Nat.le_of_ble_eq_true rfl) (fun b9 M vs hvs=>?_)
 unfold fL at h
 refine sr<|al (cs:=[.v (.bool false),slc 1 (List.map ak []),.v (.bool false),slc 1 (List.map ak [])]) (by exact⟨SV.aa _,imp_nil,SV.aa _,imp_nil,trivial⟩) rfl<|dn<|qq<|qq ?_
 refine aH h (fun j3=>AS.bw 18 [(0,.sv (slc 4 (List.map eQ x0))),(1,.sv (.v (.int .i64 x1))),(4,.ptr 4 0),(12,.sv (.v (.bool j3)))] [(4,⟨36,[.sv (.v (.bool false)),.sv (slc 1 (List.map ak [])),.sv (.v (.bool false)),.sv (slc 1 (List.map ak []))]⟩)] []) (fun h=>?_) (fun uP h=>?_)
 refine af<|mv rfl<|lE h fun x6 h6 h=>ge _ rfl rfl h6<|mv rfl<|bE h fun Ib lK h=>?_
 cases x6
 obtain rfl:=O (F lK)
 exact ww<|ww<|ww<|ww<|pF rfl<|dn<|⟨false,h,wR []⟩
 refine gm rfl<|gm rfl<|lE (V lK) fun cn ep lK=>gn rfl ep<|lE lK fun eE jS lK=>RT.lss (.some rfl rfl) _ rfl rfl T jS ?_
 obtain rfl:=O lK
 exact pT rfl<|dn<|⟨eE,h,wR []⟩
 try dsimp only
 refine ae.n ?_
 cases uP
 refine fs<|sr<|bI (cs:=[_,_,_,_]) (cs':=[.v (.bool false),slc 1 (List.map ak []),.v (.bool false),slc 1 (List.map ak [])]) (.nil) ⟨SV.aa _,imp_nil,SV.aa _,imp_nil,trivial⟩<|so rfl rfl rfl<|dn<|aj ?_
 obtain rfl:=O (F h)
 exact RZ (.agg rfl rfl (.cons rfl (.cons rfl (.cons rfl (.cons rfl (.nil))))) rfl (.nil))
 refine cT<|sr<|mv rfl<|mv rfl ?_
 obtain⟨⟨⟨kZ,k7⟩,⟨AJ,AK⟩⟩,fS,h⟩:=bS (V h)
 refine ix rfl rfl fS<|RT.nv (cs:=[_,_,_,_]) .none rfl T rfl rfl<|so rfl rfl rfl<|dn<|aj<|ae.r ?_
 obtain rfl:=O h
 exact RZ (.agg rfl rfl (.cons rfl (.cons rfl (.cons rfl (.cons rfl (.nil))))) rfl (.nil))
theorem AY{x0:List Qr}{x1:List Qr}{r:Bool}(h:kQ x0 x1=some r):Pure Tryz.prog 73 [slc 4 (List.map eQ x0),slc 4 (List.map eQ x1)] (.v (.bool r)):=by
 refine ah Tryz.func73 rfl (Nat.le_of_ble_eq_true rfl) (fun b9 M vs hvs=>?_)
 unfold kQ at h
 refine sr<|ag rfl<|dn<|qq<|sr<|mv rfl<|lE h fun x7 h7 h=>ln rfl h7<|mv rfl<|lE h fun x9 h9 h=>ln rfl h9<|lE h fun cn ep h=>ne _ rfl rfl (DJ (p:=x7) (q:=x9) ep)<|dn ?_
 cases cn
 refine fs<|qq<|sr<|ag rfl<|dn<|bE (F h) fun e6 xj jh=>?_
 refine aL (fun(Cm:Unit)=>AS.bw 27 [] [] []) (fun Cm=>.inl Cm=e6) ?_ (fun Cm xk=>?_)
 refine aq ?_
 refine aM xj (fun s6=>AS.bw 27 [(0,.sv (slc 4 (List.map eQ x0))),(1,.sv (slc 4 (List.map eQ x1))),(5,.sv (.v (.int .i64 s6)))] [] []) (wR []) (fun kL y6 G6 h xl sx=>?_)
 try dsimp only
 refine qq<|sr<|mv rfl<|mv rfl<|lE h fun fR jn h=>ln rfl jn<|lE h fun cG fT h=>ls _ rfl rfl fT<|dn ?_
 cases cG
 refine cF<|aS<|ae.x<|ae.x<|aD.x<|ae.n ?_
 obtain rfl:=O (F h)
 exact⟨(),sx _ rfl,wR []⟩
 refine cT<|aC<|ae.n<|qq<|aq<|qq<|ai mixed<|mv rfl<|mv rfl ?_
 obtain⟨⟨⟨jk,jl⟩,⟨tB,tC⟩⟩,kp,h⟩:=bS (V h)
 refine ix rfl rfl kp<|RT.nv (cs:=[_,_,_,_]) .none rfl T rfl rfl<|mv rfl<|mv rfl ?_
 obtain⟨⟨⟨oC,oD⟩,⟨wP,wQ⟩⟩,kN,h⟩:=bS h
 refine ix rfl rfl kN<|RT.nv (cs:=[_,_,_,_]) .none rfl T rfl rfl<|bE h fun gC lS h=>cl (IC lS) ⟨rfl,rfl,trivial⟩<|lE h fun gJ mY h=>nt rfl _ mY ?_
 refine RT.done ⟨by kernel_rfl,?_⟩
 refine ae.n ?_
 cases gJ
 refine cF<|aC<|aD.n<|ae.n<|af<|mv rfl<|lE (F h) fun dz gZ h=>ad _ rfl rfl gZ<|ag rfl<|RT.done ?_
 obtain rfl:=O h
 exact ae.n ⟨dz,xl _ rfl,wR []⟩
 refine cT<|sr<|ag rfl<|dn<|aj<|aD.r<|ae.r ?_
 obtain rfl:=O (V h)
 have JX:=sx _ rfl
 subst JX
 refine ae.r<|aD.r<|ae.r<|ae.r ?_
 obtain rfl:=O jh
 exact R1 rfl
 subst xk
 try dsimp only
 refine ae.n<|sr<|ag rfl<|dn<|aj ?_
 obtain rfl:=O jh
 exact R1 rfl
 refine cT<|sr<|ag rfl<|dn<|aj<|ae.r ?_
 obtain rfl:=O (V h)
 exact R1 rfl
theorem Ae{x0:Qr}{x1:List Qr}{x2:List Qr}{r:List Qr}(h:iT x0 x1 x2=some r):Pure Tryz.prog 111 [.agg (eQ x0),slc 4 (List.map eQ x1),slc 4 (List.map eQ x2)] (slc 4 (List.map eQ r)):=by
 obtain⟨⟨az,aA⟩,⟨aE,aF⟩⟩:=x0
 refine ah Tryz.func111 rfl (Nat.le_of_ble_eq_true rfl) (fun b9 M vs hvs=>?_)
 unfold iT at h
 refine sr<|bx rfl<|aI rfl (imp_nil (n:=4) (e:=eQ))<|dn<|sr<|ag rfl<|dn<|aK (cY 7 304 36 4 rfl rfl T)<|qq<|sr<|ag rfl<|dn<|bE h fun Bd sq mL=>?_
 refine aL (fun(fK:(List Qr))=>AS.bw 34 [(7,.row 306)] [] [(306,TR 36 4 eQ fK)]) (fun fK=>fK=Bd) ?_ (fun fK su=>?_)
 refine aq ?_
 refine aM sq (fun qc=>AS.bw 34 [(1,.sv (slc 4 (List.map eQ x1))),(2,.sv (slc 4 (List.map eQ x2))),(3,.ptr 3 0),(7,.row 306),(8,.sv (.v (.int .i64 qc.1)))] [(3,⟨36,[.sv (.v (.bool az)),.sv (slc 1 (List.map ak aA)),.sv (.v (.bool aE)),.sv (slc 1 (List.map ak aF))]⟩)] [(306,TR 36 4 eQ qc.2)]) (bK (fun i=>bif Nat.beq i 306 then 304 else i) rfl rfl rfl rfl rfl ⟨.sv (SV.aa _),.sv (SV.aa _),.ptr,.row rfl,.sv (SV.aa _),trivial⟩ ⟨⟨_,rfl,⟨.sv (SV.aa _),.sv (SV.aa _),.sv (SV.aa _),.sv (SV.aa _),trivial⟩⟩,trivial⟩ ⟨⟨_,rfl,bB.refl _⟩,trivial⟩ (fun i hi=>by rw[bf (show i≠306 by omega)];rfl)) (fun qc Su Sv h sw o8=>?_)
 obtain⟨Kl,jI⟩:=qc
 try dsimp only
 refine qq<|qq ?_
 refine aH h (fun Ck=>AS.bw 34 [(1,.sv (slc 4 (List.map eQ x1))),(2,.sv (slc 4 (List.map eQ x2))),(3,.ptr 3 0),(7,.row 306),(8,.sv (.v (.int .i64 Kl))),(18,.sv (.v (.bool Ck)))] [(3,⟨36,[.sv (.v (.bool az)),.sv (slc 1 (List.map ak aA)),.sv (.v (.bool aE)),.sv (slc 1 (List.map ak aF))]⟩)] [(306,TR 36 4 eQ jI)]) (fun h=>?_) (fun Km h=>?_)
 refine af<|mv rfl<|mv rfl<|lE h fun eE jS h=>ln rfl jS<|lE h fun bV dH h=>ls _ rfl rfl dH<|mv rfl<|bE h fun Qa bZ h=>?_
 cases bV
 refine gm rfl<|gm rfl<|lE (F bZ) fun dz gZ bZ=>gn rfl gZ<|lE bZ fun cX jd bZ=>RT.lss (.some rfl rfl) _ rfl rfl T jd ?_
 obtain rfl:=O bZ
 exact pF rfl<|dn<|⟨cX,h,wR []⟩
 obtain rfl:=O (V bZ)
 exact ww<|ww<|ww<|ww<|pT rfl<|dn<|⟨true,h,wR []⟩
 try dsimp only
 refine ae.n ?_
 cases Km
 refine cF<|aS<|ae.x<|ae.x<|aD.x<|ae.n ?_
 obtain rfl:=O (F h)
 exact⟨jI,o8 _ rfl,wR []⟩
 refine cT<|aC<|ae.n<|qq<|aq<|ai mixed<|mo (s:=.row _) rfl<|ld rfl rfl (.cons rfl (.cons rfl (.cons rfl (.cons rfl (.nil)))))<|mv rfl<|mv rfl ?_
 obtain⟨⟨⟨qo,o7⟩,⟨C4,C5⟩⟩,lS,h⟩:=bS (V h)
 refine cl (jM lS) ⟨rfl,rfl,trivial⟩ ?_
 obtain⟨⟨⟨qB,qC⟩,⟨qD,qE⟩⟩,mY,h⟩:=bS h
 refine cl (sN mY) ⟨rfl,rfl,trivial⟩<|mv rfl<|mv rfl ?_
 obtain⟨⟨⟨Il,Im⟩,⟨Io,Ip⟩⟩,lJ,h⟩:=bS h
 refine cl (jM lJ) ⟨rfl,rfl,trivial⟩ ?_
 obtain⟨⟨⟨qp,qt⟩,⟨LO,LP⟩⟩,zX,h⟩:=bS h
 refine cl (sM zX) ⟨rfl,rfl,trivial⟩<|bl (l:=[⟨⟨qp,qt⟩,⟨LO,LP⟩⟩]) (e:=eQ) (.agg rfl (.nil)) rfl rfl rfl rfl rfl rfl<|bE h fun fI mZ h=>aR (k:=[⟨⟨qp,qt⟩,⟨LO,LP⟩⟩]) (e:=eQ) rfl rfl rfl mZ<|an (s:=.row _) rfl ?_
 refine RT.done ⟨by kernel_rfl,?_⟩
 refine aD.n<|ae.n<|af<|mv rfl<|lE h fun ik nF h=>ad _ rfl rfl nF<|ag rfl<|RT.done ?_
 obtain rfl:=O h
 exact ae.n ⟨(ik,fI),sw _ rfl,bK (fun i=>bif Nat.beq i 306 then 32 else i) rfl rfl rfl rfl rfl ⟨.sv (SV.aa _),.sv (SV.aa _),.ptr,.row rfl,.sv (SV.aa _),trivial⟩ ⟨⟨_,rfl,⟨.sv (SV.aa _),.sv (SV.aa _),.sv (SV.aa _),.sv (SV.aa _),trivial⟩⟩,trivial⟩ ⟨⟨_,rfl,bB.refl _⟩,trivial⟩ (fun i hi=>by rw[bf (show i≠306 by omega)];rfl)⟩
 subst su
 try dsimp only
 refine ae.n<|sr<|mo (s:=.row _) rfl<|an (s:=.row _) rfl<|dn<|aK (bh (i:=306) (E1:=36) (n:=4) (e:=eQ) (l:=fK) rfl)<|aj ?_
 obtain rfl:=O mL
 exact R1 rfl
theorem vg{x0:Qr}{x1:List Qr}{r:List Qr}(h:iY x0 x1=some r):Pure Tryz.prog 77 [.agg (eQ x0),slc 4 (List.map eQ x1)] (slc 4 (List.map eQ r)):=by
 obtain⟨⟨az,aA⟩,⟨aE,aF⟩⟩:=x0
 refine ah Tryz.func77 rfl (Nat.le_of_ble_eq_true rfl) (fun b9 M vs hvs=>?_)
 unfold iY at h
 refine sr<|bx rfl<|aI rfl (imp_nil (n:=4) (e:=eQ))<|dn<|sr<|ld rfl rfl (.cons rfl (.cons rfl (.cons rfl (.cons rfl (.nil)))))<|mv rfl<|bE h fun x7 h7 h=>cl ((Ae h7).w (args':=[_,_,_]) ⟨(SV.aa _),(SV.aa _),imp_nil,trivial⟩) ⟨rfl,rfl,rfl,trivial⟩<|ag rfl<|dn<|aj ?_
 obtain rfl:=O h
 exact R1 rfl
theorem yT{x0:List Qr}{x1:List Qr}{r:Int}(h:lF x0 x1=some r):Pure Tryz.prog 53 [slc 4 (List.map eQ x0),slc 4 (List.map eQ x1)] (.v (.int .i64 r)):=by
 refine ah Tryz.func53 rfl (Nat.le_of_ble_eq_true rfl) (fun b9 M vs hvs=>?_)
 unfold lF at h
 refine sr<|ag rfl<|dn<|qq<|sr<|ag rfl<|dn<|bE h fun Bd sq mL=>?_
 refine aL (fun(C7:Unit)=>AS.bw 29 [] [] []) (fun C7=>.inl C7=Bd) ?_ (fun C7 su=>?_)
 refine aq ?_
 refine aM sq (fun qc=>AS.bw 29 [(0,.sv (slc 4 (List.map eQ x0))),(1,.sv (slc 4 (List.map eQ x1))),(5,.sv (.v (.int .i64 qc)))] [] []) (wR []) (fun xJ Su Sv h sw o8=>?_)
 try dsimp only
 refine qq<|qq ?_
 refine aH h (fun Ck=>AS.bw 29 [(0,.sv (slc 4 (List.map eQ x0))),(1,.sv (slc 4 (List.map eQ x1))),(5,.sv (.v (.int .i64 xJ))),(16,.sv (.v (.bool Ck)))] [] []) (fun h=>?_) (fun xE h=>?_)
 refine af<|mv rfl<|mv rfl<|lE h fun x9 h9 h=>ln rfl h9<|lE h fun cn ep h=>ls _ rfl rfl ep<|mv rfl<|bE h fun CW bZ h=>?_
 cases cn
 refine gm rfl<|gm rfl<|lE (F bZ) fun cG fT bZ=>gn rfl fT<|lE bZ fun cE fS bZ=>RT.lss (.some rfl rfl) _ rfl rfl T fS ?_
 obtain rfl:=O bZ
 exact pF rfl<|dn<|⟨cE,h,wR []⟩
 obtain rfl:=O (V bZ)
 exact ww<|ww<|ww<|ww<|pT rfl<|dn<|⟨true,h,wR []⟩
 try dsimp only
 refine ae.n ?_
 cases xE
 refine cF<|aS<|ae.x<|ae.x<|aD.x<|ae.n ?_
 obtain rfl:=O (F h)
 exact⟨(),o8 _ rfl,wR []⟩
 refine cT<|aC<|ae.n<|qq<|aq<|sr<|mv rfl<|mv rfl ?_
 obtain⟨⟨⟨ve,vf⟩,⟨AW,AX⟩⟩,jT,h⟩:=bS (V h)
 refine cl (jM jT) ⟨rfl,rfl,trivial⟩<|mv rfl<|mv rfl ?_
 obtain⟨⟨⟨qy,qA⟩,⟨uS,uT⟩⟩,mI,h⟩:=bS h
 refine cl (jM mI) ⟨rfl,rfl,trivial⟩<|bE h fun gC lS h=>cl (Gg lS) ⟨rfl,rfl,trivial⟩<|ag rfl<|dn<|sr<|mv rfl<|lE h fun fF mR h=>ne _ rfl rfl (DJ (p:=gC) (q:=0) mR)<|dn ?_
 cases fF
 refine cF<|aC<|aD.n<|ae.n<|af<|mv rfl<|lE (F h) fun c6 iS h=>ad _ rfl rfl iS<|ag rfl<|RT.done ?_
 obtain rfl:=O h
 exact ae.n ⟨c6,sw _ rfl,wR []⟩
 refine cT<|sr<|mv rfl<|ag rfl<|dn<|aj<|aD.r<|ae.r ?_
 obtain rfl:=O (V h)
 have Qb:=o8 _ rfl
 subst Qb
 refine ae.r<|aD.r<|ae.r<|ae.r ?_
 obtain rfl:=O mL
 exact R1 rfl
 subst su
 try dsimp only
 refine ae.n<|sr<|ag rfl<|dn<|aj ?_
 obtain rfl:=O mL
 exact R1 rfl
theorem iN{x0:List Qr}{x1:Int}{r:List Qr}(h:dh x0 x1=some r):Pure Tryz.prog 47 [slc 4 (List.map eQ x0),.v (.int .i64 x1)] (slc 4 (List.map eQ r)):=by
 refine ah Tryz.func47 rfl (Nat.le_of_ble_eq_true rfl) (fun b9 M vs hvs=>?_)
 unfold dh at h
 refine sr<|aI rfl (imp_nil (n:=4) (e:=eQ))<|dn<|sr<|ag rfl<|dn<|aK (cY 5 304 36 4 rfl rfl T)<|qq<|sr<|ag rfl<|dn<|bE h fun Bd sq mL=>?_
 refine aL (fun(fK:(List Qr))=>AS.bw 24 [(5,.row 306)] [] [(306,TR 36 4 eQ fK)]) (fun fK=>fK=Bd) ?_ (fun fK su=>?_)
 refine aq ?_
 refine aM sq (fun qc=>AS.bw 24 [(0,.sv (slc 4 (List.map eQ x0))),(1,.sv (.v (.int .i64 x1))),(5,.row 306),(6,.sv (.v (.int .i64 qc.1)))] [] [(306,TR 36 4 eQ qc.2)]) (bK (fun i=>bif Nat.beq i 306 then 304 else i) rfl rfl rfl rfl rfl ⟨.sv (SV.aa _),.sv (SV.aa _),.row rfl,.sv (SV.aa _),trivial⟩ trivial ⟨⟨_,rfl,bB.refl _⟩,trivial⟩ (fun i hi=>by rw[bf (show i≠306 by omega)];rfl)) (fun qc Su Sv h sw o8=>?_)
 obtain⟨tN,jI⟩:=qc
 try dsimp only
 refine qq<|qq ?_
 refine aH h (fun Ck=>AS.bw 24 [(0,.sv (slc 4 (List.map eQ x0))),(1,.sv (.v (.int .i64 x1))),(5,.row 306),(6,.sv (.v (.int .i64 tN))),(13,.sv (.v (.bool Ck)))] [] [(306,TR 36 4 eQ jI)]) (fun h=>?_) (fun xK h=>?_)
 refine af<|mv rfl<|mv rfl<|lE h fun x9 h9 h=>ls _ rfl rfl h9<|mv rfl<|bE h fun C6 bZ h=>?_
 cases x9
 obtain rfl:=O (F bZ)
 exact ww<|ww<|pF rfl<|dn<|⟨false,h,wR []⟩
 refine gm rfl<|lE (V bZ) fun bV dH bZ=>RT.lss (.some rfl rfl) _ rfl rfl T dH ?_
 obtain rfl:=O bZ
 exact pT rfl<|dn<|⟨bV,h,wR []⟩
 try dsimp only
 refine ae.n ?_
 cases xK
 refine cF<|aS<|ae.x<|ae.x<|aD.x<|ae.n ?_
 obtain rfl:=O (F h)
 exact⟨jI,o8 _ rfl,wR []⟩
 refine cT<|aC<|ae.n<|qq<|aq<|af<|mo (s:=.row _) rfl<|mv rfl<|mv rfl ?_
 obtain⟨⟨⟨jk,jl⟩,⟨tB,tC⟩⟩,kp,h⟩:=bS (V h)
 refine cl (jM kp) ⟨rfl,rfl,trivial⟩ ?_
 obtain⟨⟨⟨pA,pB⟩,⟨tq,tu⟩⟩,nF,h⟩:=bS h
 refine cl (jL nF) ⟨rfl,trivial⟩<|bl (l:=[⟨⟨pA,pB⟩,⟨tq,tu⟩⟩]) (e:=eQ) (.agg rfl (.nil)) rfl rfl rfl rfl rfl rfl<|bE h fun fu kM h=>aR (k:=[⟨⟨pA,pB⟩,⟨tq,tu⟩⟩]) (e:=eQ) rfl rfl rfl kM<|an (s:=.row _) rfl<|RT.done<|aD.n<|ae.n<|af<|mv rfl<|lE h fun cE fS h=>ad _ rfl rfl fS<|ag rfl<|RT.done ?_
 obtain rfl:=O h
 exact ae.n ⟨(cE,fu),sw _ rfl,bK (fun i=>bif Nat.beq i 306 then 22 else i) rfl rfl rfl rfl rfl ⟨.sv (SV.aa _),.sv (SV.aa _),.row rfl,.sv (SV.aa _),trivial⟩ trivial ⟨⟨_,rfl,bB.refl _⟩,trivial⟩ (fun i hi=>by rw[bf (show i≠306 by omega)];rfl)⟩
 subst su
 try dsimp only
 refine ae.n<|sr<|mo (s:=.row _) rfl<|an (s:=.row _) rfl<|dn<|aK (bh (i:=306) (E1:=36) (n:=4) (e:=eQ) (l:=fK) rfl)<|aj ?_
 obtain rfl:=O mL
 exact R1 rfl
end Go.Proofs.YtfoldppidpmchaaGreat
namespace Go.Proofs.YtfoldppidpmchaaGreat
open Go.Fw
noncomputable def eU(x0:List (List Qr)):Option (Int):=(bk (fun(s6:Int×Int)=>match s6 with|⟨kn,m7⟩=>(show Option ((Int×Int)⊕(Int))from(some (x0.length:Int)).bind fun x7=>(some (decide ((m7:Int)<x7))).bind fun x8=>(bif x8 then(bR x0 m7).bind fun cG=>(some (cG.length:Int)).bind fun dz=>(some (max (kn:Int) dz)).bind fun cX=>(some (IntKind.i64.wrap (m7+1))).bind fun cn=>some (.inl (cX,cn))else some (.inr kn)))) (0,0)).bind fun rI=>some rI
noncomputable def eN(x0:List (List Qr))(x1:Int)(x2:Int):Option (Qr):=bD (fun(Qc:Bool)=>(bif Qc then some ⟨⟨false,[]⟩,⟨false,[]⟩⟩else(bR x0 x1).bind fun c6=>(fL c6 x2).bind fun⟨⟨ve,vf⟩,⟨AW,AX⟩⟩=>(dY ⟨⟨ve,vf⟩,⟨AW,AX⟩⟩).bind fun⟨⟨k8,lf⟩,⟨lj,lp⟩⟩=>some ⟨⟨k8,lf⟩,⟨lj,lp⟩⟩)) fun K3=>(some (decide ((x1:Int)<0))).bind fun x8=>(bif x8 then some true else(some (x0.length:Int)).bind fun bV=>(some (decide ((bV:Int)≤x1))).bind fun fR=>some fR).bind fun Vg=>K3 Vg
noncomputable def kx(x0:Nat)(x1:Qr)(x2:List (List Qr))(x3:List (List Qr))(x4:Int)(x5:Int):Option (Qr):=match x1 with|⟨⟨aZ,aY⟩,⟨cI,cJ⟩⟩=>(some (decide ((x0:Nat)=1))).bind fun cX=>(bif cX then(eN x2 x5 x4).bind fun⟨⟨ve,vf⟩,⟨AW,AX⟩⟩=>some ⟨⟨ve,vf⟩,⟨AW,AX⟩⟩else(some (decide ((x0:Nat)=2))).bind fun fy=>(bif fy then(bk (fun(uZ:Int×Bool×(List Nat)×Bool×(List Nat))=>match uZ with|⟨C8,yU,yV,yW,yX⟩=>(show Option ((Int×Bool×(List Nat)×Bool×(List Nat))⊕(Bool×(List Nat)×Bool×(List Nat)))from(eU x2).bind fun fF=>(some (decide ((C8:Int)<fF))).bind fun jr=>(bif jr then(eN x2 x4 C8).bind fun⟨⟨LQ,LR⟩,⟨LS,IE⟩⟩=>(eN x3 C8 x5).bind fun⟨⟨uV,uW⟩,⟨Iq,Ir⟩⟩=>(jK ⟨⟨LQ,LR⟩,⟨LS,IE⟩⟩ ⟨⟨uV,uW⟩,⟨Iq,Ir⟩⟩).bind fun⟨⟨ur,uu⟩,⟨AL,AM⟩⟩=>(jJ ⟨⟨yU,yV⟩,⟨yW,yX⟩⟩ ⟨⟨ur,uu⟩,⟨AL,AM⟩⟩).bind fun⟨⟨EB,EC⟩,⟨Qd,Qe⟩⟩=>(some (IntKind.i64.wrap (C8+1))).bind fun uf=>some (.inl (uf,EB,EC,Qd,Qe))else some (.inr (yU,yV,yW,yX))))) (0,false,[],false,[])).bind fun IA=>match IA with|⟨IF,IG,II,IJ⟩=>some ⟨⟨IF,IG⟩,⟨II,IJ⟩⟩else(some (decide ((x0:Nat)=3))).bind fun yu=>(bif yu then(eU x2).bind fun tg=>(some (decide ((x5:Int)<tg))).bind fun ug=>(bif ug then(eN x2 x4 x5).bind fun⟨⟨IK,IL⟩,⟨IM,IN⟩⟩=>some ⟨⟨IK,IL⟩,⟨IM,IN⟩⟩else(eU x2).bind fun NO=>(some (IntKind.i64.wrap (x5-NO))).bind fun Ss=>(eN x3 x4 Ss).bind fun⟨⟨Vh,Vi⟩,⟨Vj,Vk⟩⟩=>some ⟨⟨Vh,Vi⟩,⟨Vj,Vk⟩⟩)else(eN x2 x4 x5).bind fun⟨⟨Vl,Vm⟩,⟨Vn,Vo⟩⟩=>(jK ⟨⟨aZ,aY⟩,⟨cI,cJ⟩⟩ ⟨⟨Vl,Vm⟩,⟨Vn,Vo⟩⟩).bind fun⟨⟨Vp,Vq⟩,⟨Vr,Vs⟩⟩=>some ⟨⟨Vp,Vq⟩,⟨Vr,Vs⟩⟩)))
noncomputable def jX(x0:Int)(x1:Int)(x2:Nat)(x3:Qr)(x4:List (List Qr))(x5:List (List Qr)):Option (List (List Qr)):=match x3 with|⟨⟨mM,mN⟩,⟨vh,vi⟩⟩=>(bk (fun(uZ:Int×(List (List Qr)))=>match uZ with|⟨EK,Af⟩=>(show Option ((Int×(List (List Qr)))⊕((List (List Qr))))from(some (decide ((EK:Int)<x0))).bind fun iC=>(bif iC then(bk (fun(CX:Int×(List Qr))=>match CX with|⟨Gh,BA⟩=>(show Option ((Int×(List Qr))⊕((List Qr)))from(some (decide ((Gh:Int)<x1))).bind fun eI=>(bif eI then(kx x2 ⟨⟨mM,mN⟩,⟨vh,vi⟩⟩ x4 x5 EK Gh).bind fun⟨⟨AF,AG⟩,⟨LU,LV⟩⟩=>(mH 64 BA [⟨⟨AF,AG⟩,⟨LU,LV⟩⟩]).bind fun qm=>(some (IntKind.i64.wrap (Gh+1))).bind fun gJ=>some (.inl (gJ,qm))else some (.inr BA)))) (0,[])).bind fun oN=>(mH 24 Af [oN]).bind fun nA=>(some (IntKind.i64.wrap (EK+1))).bind fun eH=>some (.inl (eH,nA))else some (.inr Af)))) (0,[])).bind fun sO=>some sO
noncomputable def jN(x0:Int):Option (Int):=(some (max (x0:Int) 0)).bind fun x4=>(some (min (x4:Int) 1024)).bind fun x5=>some x5
noncomputable def nY(x0:List (List Qr))(x1:Int)(x2:Int):Option (List (List Qr)):=(jN x1).bind fun x8=>(jN x2).bind fun cn=>(iv 1).bind fun⟨⟨uA,uB⟩,⟨Vt,Vu⟩⟩=>(jX x8 cn 0 ⟨⟨uA,uB⟩,⟨Vt,Vu⟩⟩ x0 []).bind fun fR=>some fR
noncomputable def kz(x0:Qr)(x1:List (List Qr)):Option (List (List Qr)):=match x0 with|⟨⟨az,aA⟩,⟨aE,aF⟩⟩=>(bk (fun(s6:Int×(List (List Qr)))=>match s6 with|⟨pz,iK⟩=>(show Option ((Int×(List (List Qr)))⊕((List (List Qr))))from(some (x1.length:Int)).bind fun x9=>(some (decide ((pz:Int)<x9))).bind fun cn=>(bif cn then(bR x1 pz).bind fun cX=>(iY ⟨⟨az,aA⟩,⟨aE,aF⟩⟩ cX).bind fun iC=>(mH 24 iK [iC]).bind fun eH=>(some (IntKind.i64.wrap (pz+1))).bind fun bV=>some (.inl (bV,eH))else some (.inr iK)))) (0,[])).bind fun cz=>some cz
noncomputable def lG(x0:List (List Qr))(x1:Int):Option (List Qr):=(some (x0.length:Int)).bind fun x7=>(some (decide ((x1:Int)<x7))).bind fun x8=>(bif x8 then(bR x0 x1).bind fun eE=>some eE else some [])
noncomputable def jY(x0:List (List Qr))(x1:List (List Qr)):Option (Bool):=(bk (fun(xJ:Int)=>(show Option ((Int)⊕((Unit)⊕(Bool)))from bD (fun(xD:Bool)=>(bif xD then(lG x0 xJ).bind fun ik=>(lG x1 xJ).bind fun fy=>(lF ik fy).bind fun eI=>(some (decide ((eI:Int)≠0))).bind fun gC=>(bif gC then some (.inr (.inr false))else(some (IntKind.i64.wrap (xJ+1))).bind fun cX=>some (.inl cX))else some (.inr (.inl ())))) fun Ce=>(some (x0.length:Int)).bind fun x8=>(some (decide ((xJ:Int)<x8))).bind fun x9=>(bif x9 then some true else(some (x1.length:Int)).bind fun fR=>(some (decide ((xJ:Int)<fR))).bind fun cG=>some cG).bind fun CU=>Ce CU)) 0).bind fun Bd=>match Bd with|.inr v10=>some v10|.inl _=>some true
noncomputable def iZ(x0:List (List Qr))(x1:Int):Option (Bool):=(eU x0).bind fun x6=>(some (decide ((x6:Int)≤x1))).bind fun x8=>some x8
noncomputable def iy(x0:Lr):Option (Bool):=match x0 with|⟨az,aA,aE,aF⟩=>bD (fun(Kn:Bool)=>(bif Kn then some false else bD (fun(HN:Bool)=>some HN) fun K24=>(iZ aA az).bind fun rV=>(bif rV then(iZ aE az).bind fun ug=>some ug else some false).bind fun Qf=>K24 Qf)) fun K21=>(some (decide ((az:Int)<0))).bind fun x5=>(bif x5 then some true else(some (decide ((64:Int)<az))).bind fun x9=>some x9).bind fun Qg=>(bif Qg then some true else(some (aA.length:Int)).bind fun cG=>(some (decide ((cG:Int)<1))).bind fun cE=>some cE).bind fun XC=>(bif XC then some true else(some (aA.length:Int)).bind fun ik=>(some (decide ((4:Int)<ik))).bind fun eH=>some eH).bind fun XD=>(bif XD then some true else(some (aE.length:Int)).bind fun gJ=>(some (decide ((128:Int)<gJ))).bind fun fF=>some fF).bind fun XE=>(bif XE then some true else(some (aF.length:Int)).bind fun fI=>(some (aE.length:Int)).bind fun oB=>(some (decide ((fI:Int)≠oB))).bind fun qm=>some qm).bind fun XF=>K21 XF
noncomputable def mg(x0:List (List Qr))(x1:Int):Option (List (List Qr)):=(iv (-1)).bind fun⟨⟨v8,yD⟩,⟨z6,Bg⟩⟩=>(some (x0.length:Int)).bind fun x8=>(nY x0 x8 x1).bind fun cn=>(kz ⟨⟨v8,yD⟩,⟨z6,Bg⟩⟩ cn).bind fun eE=>some eE
noncomputable def gw(x0:Lr):Option (Lr×Int):=match x0 with|⟨az,aA,aE,aF⟩=>bD (fun(Qh:Bool)=>(bif Qh then some (⟨0,[],[],[]⟩,1)else(some (aE.length:Int)).bind fun gC=>(some (aE.length:Int)).bind fun ny=>(mg [aF] ny).bind fun fI=>(bk (fun(CX:Int×(List (List Qr))×(List Qr))=>match CX with|⟨C9,vF,vG⟩=>(show Option ((Int×(List (List Qr))×(List Qr))⊕((List (List Qr))×(List Qr)))from(some (decide ((C9:Int)<az))).bind fun oU=>(bif oU then(bk (fun(M3:Int×(List Qr))=>match M3 with|⟨LW,BB⟩=>(show Option ((Int×(List Qr))⊕((List Qr)))from(some (aE.length:Int)).bind fun zQ=>(some (decide ((LW:Int)<zQ))).bind fun yu=>(bif yu then(eN aE LW C9).bind fun⟨⟨IK,IL⟩,⟨IM,IN⟩⟩=>(iw ⟨⟨IK,IL⟩,⟨IM,IN⟩⟩).bind fun⟨⟨LX,LY⟩,⟨LZ,L0⟩⟩=>(mH 64 BB [⟨⟨LX,LY⟩,⟨LZ,L0⟩⟩]).bind fun yq=>(some (IntKind.i64.wrap (LW+1))).bind fun q9=>some (.inl (q9,yq))else some (.inr BB)))) (0,[])).bind fun oO=>(mH 24 vF [oO]).bind fun DV=>(eN aA 0 C9).bind fun⟨⟨Vv,Vw⟩,⟨Vx,Vy⟩⟩=>(iw ⟨⟨Vv,Vw⟩,⟨Vx,Vy⟩⟩).bind fun⟨⟨L1,L2⟩,⟨L3,L4⟩⟩=>(mH 64 vG [⟨⟨L1,L2⟩,⟨L3,L4⟩⟩]).bind fun Wv=>(some (IntKind.i64.wrap (C9+1))).bind fun nB=>some (.inl (nB,DV,Wv))else some (.inr (vF,vG))))) (0,[],[])).bind fun Xy=>match Xy with|⟨Gi,Gj⟩=>some (⟨gC,fI,Gi,Gj⟩,0))) fun K6=>(iy ⟨az,aA,aE,aF⟩).bind fun x9=>(some (!x9)).bind fun cn=>(bif cn then some true else(some (aE.length:Int)).bind fun cG=>(some (decide ((64:Int)<cG))).bind fun cE=>some cE).bind fun Qi=>(bif Qi then some true else(some (decide ((128:Int)<az))).bind fun ik=>some ik).bind fun XG=>K6 XG
noncomputable def nZ(x0:Lr):Option (Lr):=match x0 with|⟨az,aA,aE,aF⟩=>(bk (fun(s6:Int×(List (List Qr)))=>match s6 with|⟨m7,iK⟩=>(show Option ((Int×(List (List Qr)))⊕((List (List Qr))))from(some (aA.length:Int)).bind fun bV=>(some (decide ((m7:Int)<bV))).bind fun fR=>(bif fR then(bR aA m7).bind fun eH=>(bR aA m7).bind fun gJ=>(some (gJ.length:Int)).bind fun jr=>(dh eH jr).bind fun fQ=>(mH 24 iK [fQ]).bind fun ny=>(some (IntKind.i64.wrap (m7+1))).bind fun cE=>some (.inl (cE,ny))else some (.inr iK)))) (0,[])).bind fun cz=>(bk (fun(xT:Int×(List (List Qr)))=>match xT with|⟨Da,Gk⟩=>(show Option ((Int×(List (List Qr)))⊕((List (List Qr))))from(some (aE.length:Int)).bind fun qm=>(some (decide ((Da:Int)<qm))).bind fun oU=>(bif oU then(bR aE Da).bind fun AD=>(bR aE Da).bind fun xb=>(some (xb.length:Int)).bind fun xS=>(dh AD xS).bind fun GX=>(mH 24 Gk [GX]).bind fun yq=>(some (IntKind.i64.wrap (Da+1))).bind fun nB=>some (.inl (nB,yq))else some (.inr Gk)))) (0,[])).bind fun sP=>(some (aF.length:Int)).bind fun M4=>(dh aF M4).bind fun SB=>some ⟨az,cz,sP,SB⟩
noncomputable def gx(x0:Lr)(x1:Int):Option (Lr×Int):=match x0 with|⟨az,aA,aE,aF⟩=>bD (fun(Qj:Bool)=>(bif Qj then some (⟨0,[],[],[]⟩,1)else(nZ ⟨az,aA,aE,aF⟩).bind fun⟨oC,oD,wP,wQ⟩=>(some (IntKind.i64.wrap (x1+1))).bind fun jr=>(vX oD x1 jr).bind fun fQ=>some (⟨oC,fQ,wP,wQ⟩,0))) fun K6=>(iy ⟨az,aA,aE,aF⟩).bind fun x8=>(some (!x8)).bind fun x9=>(bif x9 then some true else(some (decide ((x1:Int)<0))).bind fun bV=>some bV).bind fun Vz=>(bif Vz then some true else(some (aA.length:Int)).bind fun c6=>(some (decide ((c6:Int)≤x1))).bind fun iC=>some iC).bind fun XH=>K6 XH
noncomputable def oP(x0:List Qr)(x1:Int):Option (List Qr):=(bk (fun(qc:Int×(List Qr))=>match qc with|⟨tN,Db⟩=>(show Option ((Int×(List Qr))⊕((List Qr)))from bD (fun(xK:Bool)=>(bif xK then(fL x0 tN).bind fun⟨⟨jk,jl⟩,⟨tB,tC⟩⟩=>(dY ⟨⟨jk,jl⟩,⟨tB,tC⟩⟩).bind fun⟨⟨pA,pB⟩,⟨tq,tu⟩⟩=>(mH 64 Db [⟨⟨pA,pB⟩,⟨tq,tu⟩⟩]).bind fun fu=>(some (IntKind.i64.wrap (tN+1))).bind fun cE=>some (.inl (cE,fu))else some (.inr Db))) fun Ce=>(some (decide ((tN:Int)<x1))).bind fun x9=>(bif x9 then(some (decide ((tN:Int)<65536))).bind fun bV=>some bV else some false).bind fun C6=>Ce C6)) (0,[])).bind fun Ag=>some Ag
noncomputable def mh(x0:Lr):Option (Int×(List (List Qr))×(List (List Qr))×(List Qr)):=match x0 with|⟨az,aA,aE,aF⟩=>(bk (fun(s6:Int×(List (List Qr)))=>match s6 with|⟨m7,Gl⟩=>(show Option ((Int×(List (List Qr)))⊕((List (List Qr))))from(some (aA.length:Int)).bind fun bV=>(some (decide ((m7:Int)<bV))).bind fun fR=>(bif fR then(bR aA m7).bind fun eH=>(bR aA m7).bind fun gJ=>(some (gJ.length:Int)).bind fun jr=>(dh eH jr).bind fun fQ=>(mH 24 Gl [fQ]).bind fun ny=>(some (IntKind.i64.wrap (m7+1))).bind fun cE=>some (.inl (cE,ny))else some (.inr Gl)))) (0,[])).bind fun pO=>(bk (fun(xT:Int×(List (List Qr)))=>match xT with|⟨Da,Gm⟩=>(show Option ((Int×(List (List Qr)))⊕((List (List Qr))))from(some (aE.length:Int)).bind fun qm=>(some (decide ((Da:Int)<qm))).bind fun oU=>(bif oU then(bR aE Da).bind fun AD=>(bR aE Da).bind fun xb=>(some (xb.length:Int)).bind fun xS=>(dh AD xS).bind fun GX=>(mH 24 Gm [GX]).bind fun yq=>(some (IntKind.i64.wrap (Da+1))).bind fun nB=>some (.inl (nB,yq))else some (.inr Gm)))) (0,[])).bind fun vH=>(some (aF.length:Int)).bind fun M4=>(oP aF M4).bind fun SB=>some (az,pO,vH,SB)
noncomputable def eV(x0:Lr)(x1:List Qr)(x2:Qr):Option (Lr×Int):=match x0 with|⟨az,aA,aE,aF⟩=>match x2 with|⟨⟨jy,jz⟩,⟨nJ,nK⟩⟩=>(mh ⟨az,aA,aE,aF⟩).bind fun⟨lP,lQ,Cx,Cy⟩=>(some (x1.length:Int)).bind fun cE=>(dh x1 cE).bind fun dz=>(mH 24 Cx [dz]).bind fun c6=>(dY ⟨⟨jy,jz⟩,⟨nJ,nK⟩⟩).bind fun⟨⟨oC,oD⟩,⟨wP,wQ⟩⟩=>(mH 64 Cy [⟨⟨oC,oD⟩,⟨wP,wQ⟩⟩]).bind fun gC=>bD (fun(C0:Bool)=>(bif C0 then some (⟨0,[],[],[]⟩,1)else some (⟨lP,lQ,c6,gC⟩,0))) fun K3=>(iy ⟨az,aA,aE,aF⟩).bind fun jr=>(some (!jr)).bind fun fQ=>(bif fQ then some true else(iy ⟨lP,lQ,c6,gC⟩).bind fun fI=>(some (!fI)).bind fun lI=>some lI).bind fun VA=>K3 VA
noncomputable def gG(x0:Lr)(x1:List Qr)(x2:Qr):Option (Lr×Int):=match x0 with|⟨az,aA,aE,aF⟩=>match x2 with|⟨⟨jy,jz⟩,⟨nJ,nK⟩⟩=>(eV ⟨az,aA,aE,aF⟩ x1 ⟨⟨jy,jz⟩,⟨nJ,nK⟩⟩).bind fun⟨⟨Qk,Ql,Qm,Qn⟩,SF⟩=>(some (decide ((SF:Int)≠0))).bind fun c6=>(bif c6 then some (⟨0,[],[],[]⟩,SF)else(iv (-1)).bind fun⟨⟨k8,lf⟩,⟨lj,lp⟩⟩=>(iY ⟨⟨k8,lf⟩,⟨lj,lp⟩⟩ x1).bind fun eI=>(iw ⟨⟨jy,jz⟩,⟨nJ,nK⟩⟩).bind fun⟨⟨qB,qC⟩,⟨qD,qE⟩⟩=>(eV ⟨Qk,Ql,Qm,Qn⟩ eI ⟨⟨qB,qC⟩,⟨qD,qE⟩⟩).bind fun⟨⟨Qo,Qp,Qq,Qs⟩,aaX⟩=>some (⟨Qo,Qp,Qq,Qs⟩,aaX))
noncomputable def mm(x0:Lr)(x1:Lr):Option (Bool):=match x0 with|⟨az,aA,aE,aF⟩=>match x1 with|⟨aZ,aY,cI,cJ⟩=>bD (fun(Qt:Bool)=>(bif Qt then some false else bD (fun(VB:Bool)=>some VB) fun Z7=>(jY aA aY).bind fun wI=>(bif wI then(jY aE cI).bind fun tg=>some tg else some false).bind fun Qu=>(bif Qu then(lF aF cJ).bind fun DZ=>(some (decide ((DZ:Int)=0))).bind fun yq=>some yq else some false).bind fun XI=>Z7 XI)) fun YZ=>(some (decide ((az:Int)≠aZ))).bind fun x9=>(bif x9 then some true else(some (aA.length:Int)).bind fun fR=>(some (aY.length:Int)).bind fun dz=>(some (decide ((fR:Int)≠dz))).bind fun cX=>some cX).bind fun Qv=>(bif Qv then some true else(some (aE.length:Int)).bind fun fu=>(some (cI.length:Int)).bind fun gC=>(some (decide ((fu:Int)≠gC))).bind fun gJ=>some gJ).bind fun XJ=>(bif XJ then some true else(some (aF.length:Int)).bind fun ny=>(some (cJ.length:Int)).bind fun oA=>(some (decide ((ny:Int)≠oA))).bind fun oB=>some oB).bind fun XK=>YZ XK
noncomputable def fo(x0:List (List Qr)):Option (Bool):=(bk (fun(kn:Int)=>(show Option ((Int)⊕((Unit)⊕(Bool)))from(some (x0.length:Int)).bind fun x6=>(some (decide ((kn:Int)<x6))).bind fun x7=>(bif x7 then(bR x0 kn).bind fun bV=>(bR x0 kn).bind fun dz=>(bR x0 kn).bind fun ik=>(some (ik.length:Int)).bind fun fu=>(dh dz fu).bind fun fy=>(kQ bV fy).bind fun eI=>(some (!eI)).bind fun gC=>(bif gC then some (.inr (.inr false))else(some (IntKind.i64.wrap (kn+1))).bind fun x9=>some (.inl x9))else some (.inr (.inl ()))))) 0).bind fun e6=>match e6 with|.inr v6=>some v6|.inl _=>some true
noncomputable def dQ(x0:Lr)(x1:Lr):Option (Bool):=match x0 with|⟨az,aA,aE,aF⟩=>match x1 with|⟨aZ,aY,cI,cJ⟩=>bD (fun(Qw:Bool)=>(bif Qw then some false else bD (fun(VC:Bool)=>some VC) fun Ce=>(fo aA).bind fun iC=>(bif iC then(fo aY).bind fun fy=>some fy else some false).bind fun Qx=>(bif Qx then(fo aE).bind fun jr=>some jr else some false).bind fun XL=>(bif XL then(fo cI).bind fun lI=>some lI else some false).bind fun XM=>Ce XM)) fun K3=>(mm ⟨az,aA,aE,aF⟩ ⟨aZ,aY,cI,cJ⟩).bind fun x7=>(some (!x7)).bind fun x8=>(bif x8 then some true else(kQ aF cJ).bind fun cG=>(some (!cG)).bind fun cE=>some cE).bind fun Qy=>K3 Qy
end Go.Proofs.YtfoldppidpmchaaGreat
namespace Go.Proofs.YtfoldppidpmchaaGreat
open Go.Fw Go.Fw.Z Go.RowKit
theorem kA{x0:List (List Qr)}{r:Int}(h:eU x0=some r):Pure Tryz.prog 86 [slc 1 (List.map (eS 4 eQ) x0)] (.v (.int .i64 r)):=by
 refine ah Tryz.func86 rfl (Nat.le_of_ble_eq_true rfl) (fun b9 M vs hvs=>?_)
 unfold eU at h
 refine sr<|ag rfl<|dn<|sr<|ag rfl<|dn<|qq<|sr<|ag rfl<|dn<|bE h fun e6 xj jh=>?_
 refine aL (fun(rI:Int)=>AS.bw 19 [(3,.sv (.v (.int .i64 rI)))] [] []) (fun rI=>rI=e6) ?_ (fun rI xk=>?_)
 refine aq ?_
 refine aM xj (fun s6=>AS.bw 19 [(0,.sv (slc 1 (List.map (eS 4 eQ) x0))),(3,.sv (.v (.int .i64 s6.1))),(4,.sv (.v (.int .i64 s6.2)))] [] []) (wR []) (fun s6 y6 G6 h xl sx=>?_)
 obtain⟨kn,m7⟩:=s6
 try dsimp only
 refine qq<|sr<|mv rfl<|mv rfl<|lE h fun x7 h7 h=>ln rfl h7<|lE h fun x8 h8 h=>ls _ rfl rfl h8<|dn ?_
 cases x8
 refine cF<|aS<|ae.x<|ae.x<|aD.x<|ae.n ?_
 obtain rfl:=O (F h)
 exact⟨kn,sx _ rfl,wR []⟩
 refine cT<|aC<|ae.n<|qq<|aq<|af<|mv rfl<|mv rfl<|mv rfl<|bE (V h) fun cG fT h=>ix rfl rfl fT<|lr rfl rfl<|lE h fun dz gZ h=>ln rfl gZ<|lE h fun cX jd h=>RT.max .none _ rfl rfl T (Ow (p:=kn) (q:=dz) jd)<|ag rfl<|RT.done<|aD.n<|ae.n<|af<|mv rfl<|lE h fun cn ep h=>ad _ rfl rfl ep<|ag rfl<|RT.done ?_
 obtain rfl:=O h
 exact ae.n ⟨(cX,cn),xl _ rfl,wR []⟩
 subst xk
 try dsimp only
 refine ae.n<|sr<|mv rfl<|ag rfl<|dn<|aj ?_
 obtain rfl:=O jh
 exact R1 rfl
theorem iz{x0:List (List Qr)}{x1:Int}{x2:Int}{r:Qr}(h:eN x0 x1 x2=some r):Pure Tryz.prog 72 [slc 1 (List.map (eS 4 eQ) x0),.v (.int .i64 x1),.v (.int .i64 x2)] (.agg (eQ r)):=by
 refine ah Tryz.func72 rfl (Nat.le_of_ble_eq_true rfl) (fun b9 M vs hvs=>?_)
 unfold eN at h
 refine sr<|al (cs:=[.v (.bool false),slc 1 (List.map ak []),.v (.bool false),slc 1 (List.map ak [])]) (by exact⟨SV.aa _,imp_nil,SV.aa _,imp_nil,trivial⟩) rfl<|dn<|qq<|qq ?_
 refine aH h (fun j3=>AS.bw 23 [(0,.sv (slc 1 (List.map (eS 4 eQ) x0))),(1,.sv (.v (.int .i64 x1))),(2,.sv (.v (.int .i64 x2))),(6,.ptr 6 0),(14,.sv (.v (.bool j3)))] [(6,⟨36,[.sv (.v (.bool false)),.sv (slc 1 (List.map ak [])),.sv (.v (.bool false)),.sv (slc 1 (List.map ak []))]⟩)] []) (fun h=>?_) (fun Qc h=>?_)
 refine af<|mv rfl<|lE h fun x8 h8 h=>ls _ rfl rfl h8<|mv rfl<|bE h fun Vg lK h=>?_
 cases x8
 refine gm rfl<|gm rfl<|lE (F lK) fun bV dH lK=>gn rfl dH<|lE lK fun fR jn lK=>RT.geq (.some rfl rfl) _ rfl rfl T jn ?_
 obtain rfl:=O lK
 exact pF rfl<|dn<|⟨fR,h,wR []⟩
 obtain rfl:=O (V lK)
 exact ww<|ww<|ww<|ww<|pT rfl<|dn<|⟨true,h,wR []⟩
 try dsimp only
 refine ae.n ?_
 cases Qc
 refine fs<|sr<|mv rfl<|mv rfl<|bE (F h) fun c6 iS h=>ix rfl rfl iS<|lr rfl rfl<|mv rfl ?_
 obtain⟨⟨⟨ve,vf⟩,⟨AW,AX⟩⟩,jT,h⟩:=bS h
 refine cl (jM jT) ⟨rfl,rfl,trivial⟩ ?_
 obtain⟨⟨⟨k8,lf⟩,⟨lj,lp⟩⟩,kM,h⟩:=bS h
 refine cl (jL kM) ⟨rfl,trivial⟩<|so rfl rfl rfl<|dn<|aj ?_
 obtain rfl:=O h
 exact RZ (.agg rfl rfl (.cons rfl (.cons rfl (.cons rfl (.cons rfl (.nil))))) rfl (.nil))
 refine cT<|sr<|bI (cs:=[_,_,_,_]) (cs':=[.v (.bool false),slc 1 (List.map ak []),.v (.bool false),slc 1 (List.map ak [])]) (.nil) ⟨SV.aa _,imp_nil,SV.aa _,imp_nil,trivial⟩<|so rfl rfl rfl<|dn<|aj<|ae.r ?_
 obtain rfl:=O (V h)
 exact RZ (.agg rfl rfl (.cons rfl (.cons rfl (.cons rfl (.cons rfl (.nil))))) rfl (.nil))
theorem Dc{x0:Nat}{x1:Qr}{x2:List (List Qr)}{x3:List (List Qr)}{x4:Int}{x5:Int}{r:Qr}(h:kx x0 x1 x2 x3 x4 x5=some r):Pure Tryz.prog 150 [.v (.int .u8 ((x0:Nat):Int)),.agg (eQ x1),slc 1 (List.map (eS 4 eQ) x2),slc 1 (List.map (eS 4 eQ) x3),.v (.int .i64 x4),.v (.int .i64 x5)] (.agg (eQ r)):=by
 obtain⟨⟨aZ,aY⟩,⟨cI,cJ⟩⟩:=x1
 refine ah Tryz.func150 rfl (Nat.le_of_ble_eq_true rfl) (fun b9 M vs hvs=>?_)
 unfold kx at h
 refine sr<|bx rfl<|al (cs:=[.v (.bool false),slc 1 (List.map ak []),.v (.bool false),slc 1 (List.map ak [])]) (by exact⟨SV.aa _,imp_nil,SV.aa _,imp_nil,trivial⟩) rfl<|dn<|qq<|sr<|mv rfl<|dn<|aq<|sr<|lE h fun cX jd h=>eq _ rfl rfl (YR (p:=x0) (q:=1) jd)<|ag rfl<|dn ?_
 cases cX
 refine cF<|sr<|lE (F h) fun fy kN h=>eq _ rfl rfl (YR (p:=x0) (q:=2) kN)<|ag rfl<|dn ?_
 cases fy
 refine cF<|sr<|lE (F h) fun yu FI h=>eq _ rfl rfl (YR (p:=x0) (q:=3) FI)<|ag rfl<|dn ?_
 cases yu
 refine cF<|aC<|aD.n<|ae.n<|qq<|ai mixed<|ld rfl rfl (.cons rfl (.cons rfl (.cons rfl (.cons rfl (.nil)))))<|mv rfl<|mv rfl<|mv rfl ?_
 obtain⟨⟨⟨Vl,Vm⟩,⟨Vn,Vo⟩⟩,Qz,h⟩:=bS (F h)
 refine cl (iz Qz) ⟨rfl,rfl,rfl,trivial⟩ ?_
 obtain⟨⟨⟨Vp,Vq⟩,⟨Vr,Vs⟩⟩,Up,h⟩:=bS h
 refine cl (sN Up) ⟨rfl,rfl,trivial⟩<|so rfl rfl rfl ?_
 refine RT.done ⟨by kernel_rfl,?_⟩
 refine ae.n<|aj ?_
 obtain rfl:=O h
 exact RZ (.agg rfl rfl (.cons rfl (.cons rfl (.cons rfl (.cons rfl (.nil))))) rfl (.nil))
 refine cT<|qq<|sr<|mv rfl<|mv rfl<|bE (V h) fun tg zY h=>cl (kA zY) ⟨rfl,trivial⟩<|lE h fun ug h48 h=>ls _ rfl rfl h48<|dn ?_
 cases ug
 refine fs<|sr<|mv rfl<|mv rfl<|mv rfl<|mv rfl<|bE (F h) fun NO WR h=>cl (kA WR) ⟨rfl,trivial⟩<|lE h fun Ss h58 h=>sb _ rfl rfl h58 ?_
 obtain⟨⟨⟨Vh,Vi⟩,⟨Vj,Vk⟩⟩,Sx,h⟩:=bS h
 refine cl (iz Sx) ⟨rfl,rfl,rfl,trivial⟩<|so rfl rfl rfl<|dn<|aj<|aD.r<|ae.r ?_
 obtain rfl:=O h
 exact RZ (.agg rfl rfl (.cons rfl (.cons rfl (.cons rfl (.cons rfl (.nil))))) rfl (.nil))
 refine cT<|sr<|mv rfl<|mv rfl<|mv rfl ?_
 obtain⟨⟨⟨IK,IL⟩,⟨IM,IN⟩⟩,Be,h⟩:=bS (V h)
 refine cl (iz Be) ⟨rfl,rfl,rfl,trivial⟩<|so rfl rfl rfl<|dn<|aj<|ae.r<|aD.r<|ae.r ?_
 obtain rfl:=O h
 exact RZ (.agg rfl rfl (.cons rfl (.cons rfl (.cons rfl (.cons rfl (.nil))))) rfl (.nil))
 refine cT<|sr<|bI (cs:=[_,_,_,_]) (cs':=[.v (.bool false),slc 1 (List.map ak []),.v (.bool false),slc 1 (List.map ak [])]) (.nil) ⟨SV.aa _,imp_nil,SV.aa _,imp_nil,trivial⟩<|al (cs:=[.v (.bool false),slc 1 (List.map ak []),.v (.bool false),slc 1 (List.map ak [])]) (by exact⟨SV.aa _,imp_nil,SV.aa _,imp_nil,trivial⟩) rfl<|so rfl rfl rfl<|dn<|qq<|sr<|ag rfl<|dn<|bE (V h) fun IA Ab vc=>?_
 refine aL (fun(wj:Bool×(List Nat)×Bool×(List Nat))=>AS.bw 66 [(12,.ptr 12 0),(13,.ptr 13 0)] [(13,⟨36,[.sv (.v (.bool wj.1)),.sv (slc 1 (List.map ak wj.2.1)),.sv (.v (.bool wj.2.2.1)),.sv (slc 1 (List.map ak wj.2.2.2))]⟩),(12,⟨36,[.sv (.v (.bool false)),.sv (slc 1 (List.map ak [])),.sv (.v (.bool false)),.sv (slc 1 (List.map ak []))]⟩)] []) (fun wj=>wj=IA) ?_ (fun wj xG=>?_)
 refine aq ?_
 refine aM Ab (fun uZ=>AS.bw 66 [(2,.sv (slc 1 (List.map (eS 4 eQ) x2))),(3,.sv (slc 1 (List.map (eS 4 eQ) x3))),(4,.sv (.v (.int .i64 x4))),(5,.sv (.v (.int .i64 x5))),(12,.ptr 12 0),(13,.ptr 13 0),(14,.sv (.v (.int .i64 uZ.1)))] [(13,⟨36,[.sv (.v (.bool uZ.2.1)),.sv (slc 1 (List.map ak uZ.2.2.1)),.sv (.v (.bool uZ.2.2.2.1)),.sv (slc 1 (List.map ak uZ.2.2.2.2))]⟩),(12,⟨36,[.sv (.v (.bool false)),.sv (slc 1 (List.map ak [])),.sv (.v (.bool false)),.sv (slc 1 (List.map ak []))]⟩)] []) (wR []) (fun uZ y16 G16 h C1 Ad=>?_)
 obtain⟨C8,yU,yV,yW,yX⟩:=uZ
 try dsimp only
 refine qq<|sr<|mv rfl<|mv rfl<|bE h fun fF mR h=>cl (kA mR) ⟨rfl,trivial⟩<|lE h fun jr o9 h=>ls _ rfl rfl o9<|dn ?_
 cases jr
 refine cF<|aS<|ae.x<|ae.x<|aD.x<|ae.n ?_
 obtain rfl:=O (F h)
 exact⟨(yU,yV,yW,yX),Ad _ rfl,wR []⟩
 refine cT<|aC<|ae.n<|qq<|aq<|ai mixed<|ld rfl rfl (.cons rfl (.cons rfl (.cons rfl (.cons rfl (.nil)))))<|mv rfl<|mv rfl<|mv rfl ?_
 obtain⟨⟨⟨LQ,LR⟩,⟨LS,IE⟩⟩,xm,h⟩:=bS (V h)
 refine cl (iz xm) ⟨rfl,rfl,rfl,trivial⟩<|mv rfl<|mv rfl<|mv rfl ?_
 obtain⟨⟨⟨uV,uW⟩,⟨Iq,Ir⟩⟩,xp,h⟩:=bS h
 refine cl (iz xp) ⟨rfl,rfl,rfl,trivial⟩ ?_
 obtain⟨⟨⟨ur,uu⟩,⟨AL,AM⟩⟩,tO,h⟩:=bS h
 refine cl (sN tO) ⟨rfl,rfl,trivial⟩ ?_
 obtain⟨⟨⟨EB,EC⟩,⟨Qd,Qe⟩⟩,FE,h⟩:=bS h
 refine cl (sM FE) ⟨rfl,rfl,trivial⟩<|so rfl rfl rfl ?_
 refine RT.done ⟨by kernel_rfl,?_⟩
 refine aD.n<|ae.n<|af<|mv rfl<|lE h fun uf zX h=>ad _ rfl rfl zX<|ag rfl<|RT.done ?_
 obtain rfl:=O h
 exact ae.n ⟨(uf,EB,EC,Qd,Qe),C1 _ rfl,wR []⟩
 subst xG
 obtain⟨IF,IG,II,IJ⟩:=wj
 try dsimp only
 refine ae.n<|sr<|ld rfl rfl (.cons rfl (.cons rfl (.cons rfl (.cons rfl (.nil)))))<|so rfl rfl rfl<|dn<|aj<|aD.r<|ae.r ?_
 obtain rfl:=O vc
 exact RZ (.agg rfl rfl (.cons rfl (.cons rfl (.cons rfl (.cons rfl (.nil))))) rfl (.nil))
 refine cT<|sr<|mv rfl<|mv rfl<|mv rfl ?_
 obtain⟨⟨⟨ve,vf⟩,⟨AW,AX⟩⟩,jT,h⟩:=bS (V h)
 refine cl (iz jT) ⟨rfl,rfl,rfl,trivial⟩<|so rfl rfl rfl<|dn<|aj<|aD.r<|ae.r ?_
 obtain rfl:=O h
 exact RZ (.agg rfl rfl (.cons rfl (.cons rfl (.cons rfl (.cons rfl (.nil))))) rfl (.nil))
theorem D9{x0:Int}{x1:Int}{x2:Nat}{x3:Qr}{x4:List (List Qr)}{x5:List (List Qr)}{r:List (List Qr)}(h:jX x0 x1 x2 x3 x4 x5=some r):Pure Tryz.prog 132 [.v (.int .i64 x0),.v (.int .i64 x1),.v (.int .u8 ((x2:Nat):Int)),.agg (eQ x3),slc 1 (List.map (eS 4 eQ) x4),slc 1 (List.map (eS 4 eQ) x5)] (slc 1 (List.map (eS 4 eQ) r)):=by
 obtain⟨⟨mM,mN⟩,⟨vh,vi⟩⟩:=x3
 refine ah Tryz.func132 rfl (Nat.le_of_ble_eq_true rfl) (fun b9 M vs hvs=>?_)
 unfold jX at h
 refine sr<|bx rfl<|aI rfl (imp_nil (n:=1) (e:=(eS 4 eQ)))<|dn<|sr<|ag rfl<|dn<|aK (cY 13 304 24 1 rfl rfl T)<|qq<|sr<|ag rfl<|dn<|bE h fun IA Ab vc=>?_
 refine aL (fun(sO:(List (List Qr)))=>AS.bw 42 [(13,.row 311)] [] [(311,TR 24 1 (eS 4 eQ) sO)]) (fun sO=>sO=IA) ?_ (fun sO xG=>?_)
 refine aq ?_
 refine aM Ab (fun uZ=>AS.bw 42 [(0,.sv (.v (.int .i64 x0))),(1,.sv (.v (.int .i64 x1))),(2,.sv (.v (.int .u8 ((x2:Nat):Int)))),(4,.sv (slc 1 (List.map (eS 4 eQ) x4))),(5,.sv (slc 1 (List.map (eS 4 eQ) x5))),(9,.ptr 9 0),(13,.row 311),(14,.sv (.v (.int .i64 uZ.1)))] [(9,⟨36,[.sv (.v (.bool mM)),.sv (slc 1 (List.map ak mN)),.sv (.v (.bool vh)),.sv (slc 1 (List.map ak vi))]⟩)] [(311,TR 24 1 (eS 4 eQ) uZ.2)]) (bK (fun i=>bif Nat.beq i 311 then 304 else i) rfl rfl rfl rfl rfl ⟨.sv (SV.aa _),.sv (SV.aa _),.sv (SV.aa _),.sv (SV.aa _),.sv (SV.aa _),.ptr,.row rfl,.sv (SV.aa _),trivial⟩ ⟨⟨_,rfl,⟨.sv (SV.aa _),.sv (SV.aa _),.sv (SV.aa _),.sv (SV.aa _),trivial⟩⟩,trivial⟩ ⟨⟨_,rfl,bB.refl _⟩,trivial⟩ (fun i hi=>by rw[bf (show i≠311 by omega)];rfl)) (fun uZ y16 G16 h C1 Ad=>?_)
 obtain⟨EK,Af⟩:=uZ
 try dsimp only
 refine qq<|sr<|mv rfl<|mv rfl<|lE h fun iC kp h=>ls _ rfl rfl kp<|dn ?_
 cases iC
 refine cF<|aS<|ae.x<|ae.x<|aD.x<|ae.n ?_
 obtain rfl:=O (F h)
 exact⟨Af,Ad _ rfl,wR []⟩
 refine cT<|aC<|ae.n<|qq<|aq<|sr<|ag rfl<|dn<|aK (cY 15 321 36 4 rfl rfl T)<|qq<|sr<|ag rfl<|dn<|bE (V h) fun Xy P5 C2=>?_
 refine aL (fun(oN:(List Qr))=>AS.bw 42 [(0,.sv (.v (.int .i64 x0))),(1,.sv (.v (.int .i64 x1))),(2,.sv (.v (.int .u8 ((x2:Nat):Int)))),(4,.sv (slc 1 (List.map (eS 4 eQ) x4))),(5,.sv (slc 1 (List.map (eS 4 eQ) x5))),(9,.ptr 9 0),(13,.row 311),(14,.sv (.v (.int .i64 EK))),(15,.row 323)] [(9,⟨36,[.sv (.v (.bool mM)),.sv (slc 1 (List.map ak mN)),.sv (.v (.bool vh)),.sv (slc 1 (List.map ak vi))]⟩)] [(311,TR 24 1 (eS 4 eQ) Af),(323,TR 36 4 eQ oN)]) (fun oN=>oN=Xy) ?_ (fun oN P6=>?_)
 refine aq ?_
 refine aM P5 (fun CX=>AS.bw 42 [(0,.sv (.v (.int .i64 x0))),(1,.sv (.v (.int .i64 x1))),(2,.sv (.v (.int .u8 ((x2:Nat):Int)))),(4,.sv (slc 1 (List.map (eS 4 eQ) x4))),(5,.sv (slc 1 (List.map (eS 4 eQ) x5))),(9,.ptr 9 0),(13,.row 311),(14,.sv (.v (.int .i64 EK))),(15,.row 323),(16,.sv (.v (.int .i64 CX.1)))] [(9,⟨36,[.sv (.v (.bool mM)),.sv (slc 1 (List.map ak mN)),.sv (.v (.bool vh)),.sv (slc 1 (List.map ak vi))]⟩)] [(311,TR 24 1 (eS 4 eQ) Af),(323,TR 36 4 eQ CX.2)]) (bK (fun i=>bif Nat.beq i 323 then 321 else i) rfl rfl rfl rfl rfl ⟨.sv (SV.aa _),.sv (SV.aa _),.sv (SV.aa _),.sv (SV.aa _),.sv (SV.aa _),.ptr,.row rfl,.sv (SV.aa _),.row rfl,.sv (SV.aa _),trivial⟩ ⟨⟨_,rfl,⟨.sv (SV.aa _),.sv (SV.aa _),.sv (SV.aa _),.sv (SV.aa _),trivial⟩⟩,trivial⟩ ⟨⟨_,rfl,bB.refl _⟩,⟨_,rfl,bB.refl _⟩,trivial⟩ (fun i hi=>by rw[bf (show i≠323 by omega)];rfl)) (fun CX y22 G22 h P7 P8=>?_)
 obtain⟨Gh,BA⟩:=CX
 try dsimp only
 refine qq<|sr<|mv rfl<|mv rfl<|lE h fun eI mI h=>ls _ rfl rfl mI<|dn ?_
 cases eI
 refine cF<|aS<|ae.x<|ae.x<|aD.x<|ae.n ?_
 obtain rfl:=O (F h)
 exact⟨BA,P8 _ rfl,wR []⟩
 refine cT<|aC<|ae.n<|qq<|aq<|af<|mo (s:=.row _) rfl<|mv rfl<|ld rfl rfl (.cons rfl (.cons rfl (.cons rfl (.cons rfl (.nil)))))<|mv rfl<|mv rfl<|mv rfl<|mv rfl ?_
 obtain⟨⟨⟨AF,AG⟩,⟨LU,LV⟩⟩,tK,h⟩:=bS (V h)
 refine cl (Dc tK) ⟨rfl,rfl,rfl,rfl,rfl,rfl,trivial⟩<|bl (l:=[⟨⟨AF,AG⟩,⟨LU,LV⟩⟩]) (e:=eQ) (.agg rfl (.nil)) rfl rfl rfl rfl rfl rfl<|bE h fun qm vZ h=>aR (k:=[⟨⟨AF,AG⟩,⟨LU,LV⟩⟩]) (e:=eQ) rfl rfl rfl vZ<|an (s:=.row _) rfl<|RT.done<|aD.n<|ae.n<|af<|mv rfl<|lE h fun gJ mY h=>ad _ rfl rfl mY<|ag rfl<|RT.done ?_
 obtain rfl:=O h
 exact ae.n ⟨(gJ,qm),P7 _ rfl,bK (fun i=>bif Nat.beq i 323 then 36 else i) rfl rfl rfl rfl rfl ⟨.sv (SV.aa _),.sv (SV.aa _),.sv (SV.aa _),.sv (SV.aa _),.sv (SV.aa _),.ptr,.row rfl,.sv (SV.aa _),.row rfl,.sv (SV.aa _),trivial⟩ ⟨⟨_,rfl,⟨.sv (SV.aa _),.sv (SV.aa _),.sv (SV.aa _),.sv (SV.aa _),trivial⟩⟩,trivial⟩ ⟨⟨_,rfl,bB.refl _⟩,⟨_,rfl,bB.refl _⟩,trivial⟩ (fun i hi=>by rw[bf (show i≠323 by omega)];rfl)⟩
 subst P6
 try dsimp only
 refine ae.n<|aK (bh (i:=323) (E1:=36) (n:=4) (e:=eQ) (l:=oN) rfl)<|af<|mo (s:=.row _) rfl<|mv rfl<|bl (l:=[oN]) (e:=(eS 4 eQ)) (.one rfl (.nil)) rfl rfl rfl rfl rfl rfl<|bE C2 fun nA tO C2=>aR (k:=[oN]) (e:=(eS 4 eQ)) rfl rfl rfl tO<|an (s:=.row _) rfl<|RT.done<|aD.n<|ae.n<|af<|mv rfl<|lE C2 fun eH jT C2=>ad _ rfl rfl jT<|ag rfl<|RT.done ?_
 obtain rfl:=O C2
 exact ae.n ⟨(eH,nA),C1 _ rfl,bK (fun i=>bif Nat.beq i 311 then 40 else i) rfl rfl rfl rfl rfl ⟨.sv (SV.aa _),.sv (SV.aa _),.sv (SV.aa _),.sv (SV.aa _),.sv (SV.aa _),.ptr,.row rfl,.sv (SV.aa _),trivial⟩ ⟨⟨_,rfl,⟨.sv (SV.aa _),.sv (SV.aa _),.sv (SV.aa _),.sv (SV.aa _),trivial⟩⟩,trivial⟩ ⟨⟨_,rfl,bB.refl _⟩,trivial⟩ (fun i hi=>by rw[bf (show i≠311 by omega)];rfl)⟩
 subst xG
 try dsimp only
 refine ae.n<|sr<|mo (s:=.row _) rfl<|an (s:=.row _) rfl<|dn<|aK (bh (i:=311) (E1:=24) (n:=1) (e:=(eS 4 eQ)) (l:=sO) rfl)<|aj ?_
 obtain rfl:=O vc
 exact R1 rfl
theorem yY{x0:Int}{r:Int}(h:jN x0=some r):Pure Tryz.prog 133 [.v (.int .i64 x0)] (.v (.int .i64 r)):=by
 refine ah Tryz.func133 rfl (Nat.le_of_ble_eq_true rfl) (fun b9 M vs hvs=>?_)
 unfold jN at h
 refine sr<|ag rfl<|dn<|sr<|mv rfl<|lE h fun x4 h4 h=>RT.max .none _ rfl rfl T (Ow (p:=x0) (q:=0) h4)<|lE h fun x5 h5 h=>RT.min .none _ rfl rfl T (MW (p:=x4) (q:=1024) h5)<|ag rfl<|dn<|aj ?_
 obtain rfl:=O h
 exact R1 rfl
theorem Gn{x0:List (List Qr)}{x1:Int}{x2:Int}{r:List (List Qr)}(h:nY x0 x1 x2=some r):Pure Tryz.prog 105 [slc 1 (List.map (eS 4 eQ) x0),.v (.int .i64 x1),.v (.int .i64 x2)] (slc 1 (List.map (eS 4 eQ) r)):=by
 refine ah Tryz.func105 rfl (Nat.le_of_ble_eq_true rfl) (fun b9 M vs hvs=>?_)
 unfold nY at h
 refine sr<|aI rfl (imp_nil (n:=1) (e:=(eS 4 eQ)))<|dn<|sr<|mv rfl<|bE h fun x8 h8 h=>cl (yY h8) ⟨rfl,trivial⟩<|mv rfl<|bE h fun cn ep h=>cl (yY ep) ⟨rfl,trivial⟩ ?_
 obtain⟨⟨⟨uA,uB⟩,⟨Vt,Vu⟩⟩,jS,h⟩:=bS h
 refine cl (oL jS) ⟨rfl,trivial⟩<|mv rfl<|bE h fun fR jn h=>cl ((D9 jn).w (args':=[_,_,_,_,_,_]) ⟨(SV.aa _),(SV.aa _),(SV.aa _),(SV.aa _),(SV.aa _),imp_nil,trivial⟩) ⟨rfl,rfl,rfl,rfl,rfl,rfl,trivial⟩<|ag rfl<|dn<|aj ?_
 obtain rfl:=O h
 exact R1 rfl
theorem Dd{x0:Qr}{x1:List (List Qr)}{r:List (List Qr)}(h:kz x0 x1=some r):Pure Tryz.prog 104 [.agg (eQ x0),slc 1 (List.map (eS 4 eQ) x1)] (slc 1 (List.map (eS 4 eQ) r)):=by
 obtain⟨⟨az,aA⟩,⟨aE,aF⟩⟩:=x0
 refine ah Tryz.func104 rfl (Nat.le_of_ble_eq_true rfl) (fun b9 M vs hvs=>?_)
 unfold kz at h
 refine sr<|bx rfl<|aI rfl (imp_nil (n:=1) (e:=(eS 4 eQ)))<|dn<|sr<|ag rfl<|dn<|aK (cY 5 304 24 1 rfl rfl T)<|qq<|sr<|ag rfl<|dn<|bE h fun e6 xj jh=>?_
 refine aL (fun(cz:(List (List Qr)))=>AS.bw 23 [(5,.row 306)] [] [(306,TR 24 1 (eS 4 eQ) cz)]) (fun cz=>cz=e6) ?_ (fun cz xk=>?_)
 refine aq ?_
 refine aM xj (fun s6=>AS.bw 23 [(1,.sv (slc 1 (List.map (eS 4 eQ) x1))),(2,.ptr 2 0),(5,.row 306),(6,.sv (.v (.int .i64 s6.1)))] [(2,⟨36,[.sv (.v (.bool az)),.sv (slc 1 (List.map ak aA)),.sv (.v (.bool aE)),.sv (slc 1 (List.map ak aF))]⟩)] [(306,TR 24 1 (eS 4 eQ) s6.2)]) (bK (fun i=>bif Nat.beq i 306 then 304 else i) rfl rfl rfl rfl rfl ⟨.sv (SV.aa _),.ptr,.row rfl,.sv (SV.aa _),trivial⟩ ⟨⟨_,rfl,⟨.sv (SV.aa _),.sv (SV.aa _),.sv (SV.aa _),.sv (SV.aa _),trivial⟩⟩,trivial⟩ ⟨⟨_,rfl,bB.refl _⟩,trivial⟩ (fun i hi=>by rw[bf (show i≠306 by omega)];rfl)) (fun s6 y6 G6 h xl sx=>?_)
 obtain⟨pz,iK⟩:=s6
 try dsimp only
 refine qq<|sr<|mv rfl<|mv rfl<|lE h fun x9 h9 h=>ln rfl h9<|lE h fun cn ep h=>ls _ rfl rfl ep<|dn ?_
 cases cn
 refine cF<|aS<|ae.x<|ae.x<|aD.x<|ae.n ?_
 obtain rfl:=O (F h)
 exact⟨iK,sx _ rfl,wR []⟩
 refine cT<|aC<|ae.n<|qq<|aq<|ai mixed<|mo (s:=.row _) rfl<|ld rfl rfl (.cons rfl (.cons rfl (.cons rfl (.cons rfl (.nil)))))<|mv rfl<|mv rfl<|bE (V h) fun cX jd h=>ix rfl rfl jd<|lr rfl rfl<|bE h fun iC kp h=>cl (vg kp) ⟨rfl,rfl,trivial⟩<|bl (l:=[iC]) (e:=(eS 4 eQ)) (.one rfl (.nil)) rfl rfl rfl rfl rfl rfl<|bE h fun eH jT h=>aR (k:=[iC]) (e:=(eS 4 eQ)) rfl rfl rfl jT ?_
 refine an (s:=.row _) rfl ?_
 refine RT.done ⟨by kernel_rfl,?_⟩
 refine aD.n<|ae.n<|af<|mv rfl<|lE h fun bV dH h=>ad _ rfl rfl dH<|ag rfl<|RT.done ?_
 obtain rfl:=O h
 exact ae.n ⟨(bV,eH),xl _ rfl,bK (fun i=>bif Nat.beq i 306 then 21 else i) rfl rfl rfl rfl rfl ⟨.sv (SV.aa _),.ptr,.row rfl,.sv (SV.aa _),trivial⟩ ⟨⟨_,rfl,⟨.sv (SV.aa _),.sv (SV.aa _),.sv (SV.aa _),.sv (SV.aa _),trivial⟩⟩,trivial⟩ ⟨⟨_,rfl,bB.refl _⟩,trivial⟩ (fun i hi=>by rw[bf (show i≠306 by omega)];rfl)⟩
 subst xk
 try dsimp only
 refine ae.n<|sr<|mo (s:=.row _) rfl<|an (s:=.row _) rfl<|dn<|aK (bh (i:=306) (E1:=24) (n:=1) (e:=(eS 4 eQ)) (l:=cz) rfl)<|aj ?_
 obtain rfl:=O jh
 exact R1 rfl
theorem yZ{x0:List (List Qr)}{x1:Int}{r:List Qr}(h:lG x0 x1=some r):Pure Tryz.prog 91 [slc 1 (List.map (eS 4 eQ) x0),.v (.int .i64 x1)] (slc 4 (List.map eQ r)):=by
 refine ah Tryz.func91 rfl (Nat.le_of_ble_eq_true rfl) (fun b9 M vs hvs=>?_)
 unfold lG at h
 refine sr<|aI rfl (imp_nil (n:=4) (e:=eQ))<|dn<|qq<|sr<|mv rfl<|mv rfl<|lE h fun x7 h7 h=>ln rfl h7<|lE h fun x8 h8 h=>ls _ rfl rfl h8<|dn ?_
 cases x8
 refine fs<|sr<|aI rfl (imp_nil (n:=4) (e:=eQ))<|dn<|aj ?_
 obtain rfl:=O (F h)
 exact R1 rfl
 refine cT<|sr<|mv rfl<|mv rfl<|bE (V h) fun eE jS h=>ix rfl rfl jS<|lr rfl rfl<|ag rfl<|dn<|aj<|ae.r ?_
 obtain rfl:=O h
 exact R1 rfl
theorem wS{x0:List (List Qr)}{x1:List (List Qr)}{r:Bool}(h:jY x0 x1=some r):Pure Tryz.prog 52 [slc 1 (List.map (eS 4 eQ) x0),slc 1 (List.map (eS 4 eQ) x1)] (.v (.bool r)):=by
 refine ah Tryz.func52 rfl (Nat.le_of_ble_eq_true rfl) (fun b9 M vs hvs=>?_)
 unfold jY at h
 refine sr<|ag rfl<|dn<|qq<|sr<|ag rfl<|dn<|bE h fun Bd sq mL=>?_
 refine aL (fun(C7:Unit)=>AS.bw 26 [] [] []) (fun C7=>.inl C7=Bd) ?_ (fun C7 su=>?_)
 refine aq ?_
 refine aM sq (fun qc=>AS.bw 26 [(0,.sv (slc 1 (List.map (eS 4 eQ) x0))),(1,.sv (slc 1 (List.map (eS 4 eQ) x1))),(5,.sv (.v (.int .i64 qc)))] [] []) (wR []) (fun xJ Su Sv h sw o8=>?_)
 try dsimp only
 refine qq<|qq ?_
 refine aH h (fun Ck=>AS.bw 26 [(0,.sv (slc 1 (List.map (eS 4 eQ) x0))),(1,.sv (slc 1 (List.map (eS 4 eQ) x1))),(5,.sv (.v (.int .i64 xJ))),(15,.sv (.v (.bool Ck)))] [] []) (fun h=>?_) (fun xD h=>?_)
 refine af<|mv rfl<|mv rfl<|lE h fun x8 h8 h=>ln rfl h8<|lE h fun x9 h9 h=>ls _ rfl rfl h9<|mv rfl<|bE h fun CU bZ h=>?_
 cases x9
 refine gm rfl<|gm rfl<|lE (F bZ) fun fR jn bZ=>gn rfl jn<|lE bZ fun cG fT bZ=>RT.lss (.some rfl rfl) _ rfl rfl T fT ?_
 obtain rfl:=O bZ
 exact pF rfl<|dn<|⟨cG,h,wR []⟩
 obtain rfl:=O (V bZ)
 exact ww<|ww<|ww<|ww<|pT rfl<|dn<|⟨true,h,wR []⟩
 try dsimp only
 refine ae.n ?_
 cases xD
 refine cF<|aS<|ae.x<|ae.x<|aD.x<|ae.n ?_
 obtain rfl:=O (F h)
 exact⟨(),o8 _ rfl,wR []⟩
 refine cT<|aC<|ae.n<|qq<|aq<|sr<|mv rfl<|mv rfl<|bE (V h) fun ik nF h=>cl (yZ nF) ⟨rfl,rfl,trivial⟩<|mv rfl<|mv rfl<|bE h fun fy kN h=>cl (yZ kN) ⟨rfl,rfl,trivial⟩<|bE h fun eI mI h=>cl (yT mI) ⟨rfl,rfl,trivial⟩<|lE h fun gC lS h=>ne _ rfl rfl (DJ (p:=eI) (q:=0) lS)<|dn ?_
 cases gC
 refine cF<|aC<|aD.n<|ae.n<|af<|mv rfl<|lE (F h) fun cX jd h=>ad _ rfl rfl jd<|ag rfl<|RT.done ?_
 obtain rfl:=O h
 exact ae.n ⟨cX,sw _ rfl,wR []⟩
 refine cT<|sr<|ag rfl<|dn<|aj<|aD.r<|ae.r ?_
 obtain rfl:=O (V h)
 have Qb:=o8 _ rfl
 subst Qb
 refine ae.r<|aD.r<|ae.r<|ae.r ?_
 obtain rfl:=O mL
 exact R1 rfl
 subst su
 try dsimp only
 refine ae.n<|sr<|ag rfl<|dn<|aj ?_
 obtain rfl:=O mL
 exact R1 rfl
theorem vk{x0:List (List Qr)}{x1:Int}{r:Bool}(h:iZ x0 x1=some r):Pure Tryz.prog 103 [slc 1 (List.map (eS 4 eQ) x0),.v (.int .i64 x1)] (.v (.bool r)):=by
 refine ah Tryz.func103 rfl (Nat.le_of_ble_eq_true rfl) (fun b9 M vs hvs=>?_)
 unfold iZ at h
 refine sr<|ag rfl<|dn<|sr<|mv rfl<|bE h fun x6 h6 h=>cl (kA h6) ⟨rfl,trivial⟩<|mv rfl<|lE h fun x8 h8 h=>RT.leq .none _ rfl rfl T h8<|ag rfl<|dn<|aj ?_
 obtain rfl:=O h
 exact R1 rfl
theorem oQ{x0:Lr}{r:Bool}(h:iy x0=some r):Pure Tryz.prog 69 [.agg (qO x0)] (.v (.bool r)):=by
 obtain⟨az,aA,aE,aF⟩:=x0
 refine ah Tryz.func69 rfl (Nat.le_of_ble_eq_true rfl) (fun b9 M vs hvs=>?_)
 unfold iy at h
 refine sr<|bx rfl<|ag rfl<|dn<|qq<|qq ?_
 refine aH h (fun j21=>AS.bw 50 [(1,.ptr 1 0),(37,.sv (.v (.bool j21)))] [(1,⟨26,[.sv (.v (.int .i64 az)),.sv (slc 1 (List.map (eS 4 eQ) aA)),.sv (slc 1 (List.map (eS 4 eQ) aE)),.sv (slc 4 (List.map eQ aF))]⟩)] []) (fun h=>?_) (fun Kn h=>?_)
 refine af<|fa rfl rfl<|lV rfl rfl rfl<|lE h fun x5 h5 h=>ls _ rfl rfl h5<|mv rfl<|bE h fun Qg De h=>?_
 cases x5
 refine RT.fieldAddr (.some rfl rfl) rfl T rfl<|RT.kV (.some rfl rfl) rfl rfl rfl T<|lE (F De) fun x9 h9 De=>gg _ rfl rfl h9 ?_
 obtain rfl:=O De
 refine pF rfl<|mv rfl<|bE h fun aga wc h=>?_
 cases x9
 refine RT.fieldAddr (.some rfl rfl) rfl T rfl<|RT.kV (.some rfl rfl) rfl rfl rfl T<|lE (F wc) fun cG fT wc=>gn rfl fT<|lE wc fun cE fS wc=>RT.lss (.some rfl rfl) _ rfl rfl T fS ?_
 obtain rfl:=O wc
 refine pF rfl<|mv rfl<|bE h fun agb we h=>?_
 cases cE
 refine RT.fieldAddr (.some rfl rfl) rfl T rfl<|RT.kV (.some rfl rfl) rfl rfl rfl T<|lE (F we) fun ik nF we=>gn rfl nF<|lE we fun eH jT we=>gg _ rfl rfl jT ?_
 obtain rfl:=O we
 refine pF rfl<|mv rfl<|bE h fun agc pE h=>?_
 cases eH
 refine RT.fieldAddr (.some rfl rfl) rfl T rfl<|RT.kV (.some rfl rfl) rfl rfl rfl T<|lE (F pE) fun gJ mY pE=>gn rfl mY<|lE pE fun fF mR pE=>gg _ rfl rfl mR ?_
 obtain rfl:=O pE
 refine pF rfl<|mv rfl<|bE h fun agd pG h=>?_
 cases fF
 refine RT.fieldAddr (.some rfl rfl) rfl T rfl<|RT.kV (.some rfl rfl) rfl rfl rfl T<|lE (F pG) fun fI mZ pG=>gn rfl mZ<|RT.fieldAddr (.some rfl rfl) rfl T rfl<|RT.kV (.some rfl rfl) rfl rfl rfl T<|lE pG fun oB xm pG=>gn rfl xm<|lE pG fun qm vZ pG=>gq _ rfl rfl (DJ (p:=fI) (q:=oB) vZ) ?_
 obtain rfl:=O pG
 exact pF rfl<|dn<|⟨qm,h,wR []⟩
 obtain rfl:=O (V pG)
 exact ww<|ww<|ww<|ww<|ww<|ww<|ww<|pT rfl<|dn<|⟨true,h,wR []⟩
 obtain rfl:=O (V pE)
 refine ww<|ww<|ww<|ww<|pT rfl<|mv rfl<|bE h fun age D2 h=>?_
 obtain rfl:=O (V D2)
 exact ww<|ww<|ww<|ww<|ww<|ww<|ww<|pT rfl<|dn<|⟨true,h,wR []⟩
 obtain rfl:=O (V we)
 refine ww<|ww<|ww<|ww<|pT rfl<|mv rfl<|bE h fun agf Xc h=>?_
 obtain rfl:=O (V Xc)
 refine ww<|ww<|ww<|ww<|pT rfl<|mv rfl<|bE h fun agh Xd h=>?_
 obtain rfl:=O (V Xd)
 exact ww<|ww<|ww<|ww<|ww<|ww<|ww<|pT rfl<|dn<|⟨true,h,wR []⟩
 obtain rfl:=O (V wc)
 refine ww<|ww<|ww<|ww<|pT rfl<|mv rfl<|bE h fun agi Xe h=>?_
 obtain rfl:=O (V Xe)
 refine ww<|ww<|ww<|ww<|pT rfl<|mv rfl<|bE h fun agj Xf h=>?_
 obtain rfl:=O (V Xf)
 refine ww<|ww<|ww<|ww<|pT rfl<|mv rfl<|bE h fun agk Xg h=>?_
 obtain rfl:=O (V Xg)
 exact ww<|ww<|ww<|ww<|ww<|ww<|ww<|pT rfl<|dn<|⟨true,h,wR []⟩
 obtain rfl:=O (V De)
 refine ww<|ww<|ww<|pT rfl<|mv rfl<|bE h fun agl xq h=>?_
 obtain rfl:=O (V xq)
 refine ww<|ww<|ww<|ww<|pT rfl<|mv rfl<|bE h fun agm uM h=>?_
 obtain rfl:=O (V uM)
 refine ww<|ww<|ww<|ww<|pT rfl<|mv rfl<|bE h fun agn yF h=>?_
 obtain rfl:=O (V yF)
 refine ww<|ww<|ww<|ww<|pT rfl<|mv rfl<|bE h fun ago HW h=>?_
 obtain rfl:=O (V HW)
 exact ww<|ww<|ww<|ww<|ww<|ww<|ww<|pT rfl<|dn<|⟨true,h,wR []⟩
 try dsimp only
 refine ae.n ?_
 cases Kn
 refine fs<|qq ?_
 refine aH (F h) (fun Ur=>AS.bw 50 [(2,.sv (.v (.bool Ur)))] [] []) (fun h=>?_) (fun HN h=>?_)
 refine af<|fa rfl rfl<|lV rfl rfl rfl<|fa rfl rfl<|lV rfl rfl rfl<|bE h fun rV D0 h=>cl (vk D0) ⟨rfl,rfl,trivial⟩<|mv rfl<|bE h fun Qf Bo h=>?_
 cases rV
 obtain rfl:=O (F Bo)
 exact ww<|ww<|ww<|ww<|ww<|pF rfl<|ag rfl<|dn<|⟨false,h,wR []⟩
 refine RT.fieldAddr (.some rfl rfl) rfl T rfl<|RT.kV (.some rfl rfl) rfl rfl rfl T<|RT.fieldAddr (.some rfl rfl) rfl T rfl<|RT.kV (.some rfl rfl) rfl rfl rfl T<|bE (V Bo) fun ug h48 Bo=>gc (vk h48) ⟨rfl,rfl,trivial⟩ ?_
 obtain rfl:=O Bo
 exact pT rfl<|ag rfl<|dn<|⟨ug,h,wR []⟩
 try dsimp only
 refine ae.n<|aj ?_
 obtain rfl:=O h
 exact R1 rfl
 refine cT<|sr<|ag rfl<|dn<|aj<|ae.r ?_
 obtain rfl:=O (V h)
 exact R1 rfl
theorem Ea{x0:List (List Qr)}{x1:Int}{r:List (List Qr)}(h:mg x0 x1=some r):Pure Tryz.prog 70 [slc 1 (List.map (eS 4 eQ) x0),.v (.int .i64 x1)] (slc 1 (List.map (eS 4 eQ) r)):=by
 refine ah Tryz.func70 rfl (Nat.le_of_ble_eq_true rfl) (fun b9 M vs hvs=>?_)
 unfold mg at h
 refine sr<|aI rfl (imp_nil (n:=1) (e:=(eS 4 eQ)))<|dn<|sr ?_
 obtain⟨⟨⟨v8,yD⟩,⟨z6,Bg⟩⟩,h5,h⟩:=bS h
 refine cl (oL h5) ⟨rfl,trivial⟩<|mv rfl<|mv rfl<|lE h fun x8 h8 h=>ln rfl h8<|mv rfl<|bE h fun cn ep h=>cl (Gn ep) ⟨rfl,rfl,rfl,trivial⟩<|bE h fun eE jS h=>cl (Dd jS) ⟨rfl,rfl,trivial⟩<|ag rfl<|dn<|aj ?_
 obtain rfl:=O h
 exact R1 rfl
set_option maxHeartbeats 4000000 in
theorem Eb{x0:Lr}{r:Lr×Int}(h:gw x0=some r):Pure Tryz.prog 25 [.agg (qO x0)] (.xV [.agg (qO r.1),.v (.int .i64 r.2)]):=by
 obtain⟨az,aA,aE,aF⟩:=x0
 refine ah Tryz.func25 rfl (Nat.le_of_ble_eq_true rfl) (fun b9 M vs hvs=>?_)
 unfold gw at h
 refine sr<|bx rfl<|al (cs:=[.v (.int .i64 0),slc 1 (List.map (eS 4 eQ) []),slc 1 (List.map (eS 4 eQ) []),slc 4 (List.map eQ [])]) (by exact⟨SV.aa _,imp_nil,imp_nil,imp_nil,trivial⟩) rfl<|ag rfl<|dn<|qq<|qq ?_
 refine aH h (fun j6=>AS.bw 73 [(1,.ptr 1 0),(2,.ptr 2 0),(21,.sv (.v (.bool j6)))] [(2,⟨26,[.sv (.v (.int .i64 0)),.sv (slc 1 (List.map (eS 4 eQ) [])),.sv (slc 1 (List.map (eS 4 eQ) [])),.sv (slc 4 (List.map eQ []))]⟩),(1,⟨26,[.sv (.v (.int .i64 az)),.sv (slc 1 (List.map (eS 4 eQ) aA)),.sv (slc 1 (List.map (eS 4 eQ) aE)),.sv (slc 4 (List.map eQ aF))]⟩)] []) (fun h=>?_) (fun Qh h=>?_)
 refine af<|ld rfl rfl (.cons rfl (.cons rfl (.cons rfl (.cons rfl (.nil)))))<|bE h fun x9 h9 h=>cl (oQ h9) ⟨rfl,trivial⟩<|lE h fun cn ep h=>nt rfl _ ep<|mv rfl<|bE h fun Qi pE h=>?_
 cases cn
 refine RT.fieldAddr (.some rfl rfl) rfl T rfl<|RT.kV (.some rfl rfl) rfl rfl rfl T<|lE (F pE) fun cG fT pE=>gn rfl fT<|lE pE fun cE fS pE=>gg _ rfl rfl fS ?_
 obtain rfl:=O pE
 refine pF rfl<|mv rfl<|bE h fun agp pG h=>?_
 cases cE
 refine RT.fieldAddr (.some rfl rfl) rfl T rfl<|RT.kV (.some rfl rfl) rfl rfl rfl T<|lE (F pG) fun ik nF pG=>gg _ rfl rfl nF ?_
 obtain rfl:=O pG
 exact pF rfl<|dn<|⟨ik,h,wR []⟩
 obtain rfl:=O (V pG)
 exact ww<|ww<|ww<|pT rfl<|dn<|⟨true,h,wR []⟩
 obtain rfl:=O (V pE)
 refine ww<|ww<|ww<|ww<|pT rfl<|mv rfl<|bE h fun agq D2 h=>?_
 obtain rfl:=O (V D2)
 exact ww<|ww<|ww<|pT rfl<|dn<|⟨true,h,wR []⟩
 try dsimp only
 refine ae.n ?_
 cases Qh
 refine fs<|qq<|ai mixed<|fa rfl rfl<|lV rfl rfl rfl<|lE (F h) fun gC lS h=>ln rfl lS<|fa rfl rfl<|lV rfl rfl rfl<|bl (l:=[aF]) (e:=(eS 4 eQ)) (.one rfl (.nil)) rfl rfl rfl rfl rfl rfl<|fa rfl rfl<|lV rfl rfl rfl<|lE h fun ny xU h=>ln rfl xU<|bE h fun fI mZ h=>cl (Ea mZ) ⟨rfl,rfl,trivial⟩<|bI (cs:=[_,_,_,_]) (cs':=[.v (.int .i64 gC),slc 1 (List.map (eS 4 eQ) fI),.v (.slice none 0 0),.v (.slice none 0 0)]) (.one rfl (.one rfl (.nil))) ⟨SV.aa _,SV.aa _,SV.aa _,SV.aa _,trivial⟩ ?_
 refine al (cs:=[.v (.int .i64 0),slc 1 (List.map (eS 4 eQ) []),.v (.slice none 0 0),.v (.slice none 0 0)]) (by exact⟨SV.aa _,imp_nil,SV.aa _,SV.aa _,trivial⟩) rfl<|so rfl rfl rfl ?_
 refine RT.done ⟨by kernel_rfl,?_⟩
 refine ae.n<|aK (eG 4 2 303 24 1 rfl rfl rfl T)<|aK (eG 4 3 304 36 4 rfl rfl rfl T)<|qq<|sr<|ag rfl<|dn<|bE h fun Xy P5 C2=>?_
 refine aL (fun(Nq:(List (List Qr))×(List Qr))=>AS.bw 73 [(2,.ptr 2 0),(4,.ptr 4 0)] [(4,⟨26,[.sv (.v (.int .i64 gC)),.sv (slc 1 (List.map (eS 4 eQ) fI)),.row 312,.row 313]⟩),(2,⟨26,[.sv (.v (.int .i64 0)),.sv (slc 1 (List.map (eS 4 eQ) [])),.sv (slc 1 (List.map (eS 4 eQ) [])),.sv (slc 4 (List.map eQ []))]⟩)] [(312,TR 24 1 (eS 4 eQ) Nq.1),(313,TR 36 4 eQ Nq.2)]) (fun Nq=>Nq=Xy) ?_ (fun Nq P6=>?_)
 refine aq ?_
 refine aM P5 (fun CX=>AS.bw 73 [(1,.ptr 1 0),(2,.ptr 2 0),(4,.ptr 4 0),(5,.sv (.v (.int .i64 CX.1)))] [(4,⟨26,[.sv (.v (.int .i64 gC)),.sv (slc 1 (List.map (eS 4 eQ) fI)),.row 312,.row 313]⟩),(2,⟨26,[.sv (.v (.int .i64 0)),.sv (slc 1 (List.map (eS 4 eQ) [])),.sv (slc 1 (List.map (eS 4 eQ) [])),.sv (slc 4 (List.map eQ []))]⟩),(1,⟨26,[.sv (.v (.int .i64 az)),.sv (slc 1 (List.map (eS 4 eQ) aA)),.sv (slc 1 (List.map (eS 4 eQ) aE)),.sv (slc 4 (List.map eQ aF))]⟩)] [(312,TR 24 1 (eS 4 eQ) CX.2.1),(313,TR 36 4 eQ CX.2.2)]) (bK (fun i=>bif Nat.beq i 312 then 303 else bif Nat.beq i 313 then 304 else i) rfl rfl rfl rfl rfl ⟨.ptr,.ptr,.ptr,.sv (SV.aa _),trivial⟩ ⟨⟨_,rfl,⟨.sv (SV.aa _),.sv (SV.aa _),.row rfl,.row rfl,trivial⟩⟩,⟨_,rfl,⟨.sv (SV.aa _),.sv (SV.aa _),.sv (SV.aa _),.sv (SV.aa _),trivial⟩⟩,⟨_,rfl,⟨.sv (SV.aa _),.sv (SV.aa _),.sv (SV.aa _),.sv (SV.aa _),trivial⟩⟩,trivial⟩ ⟨⟨_,rfl,bB.refl _⟩,⟨_,rfl,bB.refl _⟩,trivial⟩ (fun i hi=>by rw[bf (show i≠312 by omega)];rw[bf (show i≠313 by omega)];rfl)) (fun CX y22 G22 h P7 P8=>?_)
 obtain⟨C9,vF,vG⟩:=CX
 try dsimp only
 refine qq<|sr<|mv rfl<|fa rfl rfl<|lV rfl rfl rfl<|lE h fun oU Bf h=>ls _ rfl rfl Bf<|dn ?_
 cases oU
 refine cF<|aS<|ae.x<|ae.x<|aD.x<|ae.n ?_
 obtain rfl:=O (F h)
 exact⟨(vF,vG),P8 _ rfl,wR []⟩
 refine cT<|aC<|ae.n<|qq<|aq<|sr<|ag rfl<|dn<|aK (cY 6 324 36 4 rfl rfl T)<|qq<|sr<|ag rfl<|dn<|bE (V h) fun e28 WJ zV=>?_
 refine aL (fun(oO:(List Qr))=>AS.bw 73 [(1,.ptr 1 0),(2,.ptr 2 0),(4,.ptr 4 0),(5,.sv (.v (.int .i64 C9))),(6,.row 326)] [(4,⟨26,[.sv (.v (.int .i64 gC)),.sv (slc 1 (List.map (eS 4 eQ) fI)),.row 312,.row 313]⟩),(2,⟨26,[.sv (.v (.int .i64 0)),.sv (slc 1 (List.map (eS 4 eQ) [])),.sv (slc 1 (List.map (eS 4 eQ) [])),.sv (slc 4 (List.map eQ []))]⟩),(1,⟨26,[.sv (.v (.int .i64 az)),.sv (slc 1 (List.map (eS 4 eQ) aA)),.sv (slc 1 (List.map (eS 4 eQ) aE)),.sv (slc 4 (List.map eQ aF))]⟩)] [(326,TR 36 4 eQ oO),(312,TR 24 1 (eS 4 eQ) vF),(313,TR 36 4 eQ vG)]) (fun oO=>oO=e28) ?_ (fun oO WK=>?_)
 refine aq ?_
 refine aM WJ (fun M3=>AS.bw 73 [(1,.ptr 1 0),(2,.ptr 2 0),(4,.ptr 4 0),(5,.sv (.v (.int .i64 C9))),(6,.row 326),(7,.sv (.v (.int .i64 M3.1)))] [(4,⟨26,[.sv (.v (.int .i64 gC)),.sv (slc 1 (List.map (eS 4 eQ) fI)),.row 312,.row 313]⟩),(2,⟨26,[.sv (.v (.int .i64 0)),.sv (slc 1 (List.map (eS 4 eQ) [])),.sv (slc 1 (List.map (eS 4 eQ) [])),.sv (slc 4 (List.map eQ []))]⟩),(1,⟨26,[.sv (.v (.int .i64 az)),.sv (slc 1 (List.map (eS 4 eQ) aA)),.sv (slc 1 (List.map (eS 4 eQ) aE)),.sv (slc 4 (List.map eQ aF))]⟩)] [(326,TR 36 4 eQ M3.2),(312,TR 24 1 (eS 4 eQ) vF),(313,TR 36 4 eQ vG)]) (bK (fun i=>bif Nat.beq i 326 then 324 else i) rfl rfl rfl rfl rfl ⟨.ptr,.ptr,.ptr,.sv (SV.aa _),.row rfl,.sv (SV.aa _),trivial⟩ ⟨⟨_,rfl,⟨.sv (SV.aa _),.sv (SV.aa _),.row rfl,.row rfl,trivial⟩⟩,⟨_,rfl,⟨.sv (SV.aa _),.sv (SV.aa _),.sv (SV.aa _),.sv (SV.aa _),trivial⟩⟩,⟨_,rfl,⟨.sv (SV.aa _),.sv (SV.aa _),.sv (SV.aa _),.sv (SV.aa _),trivial⟩⟩,trivial⟩ ⟨⟨_,rfl,bB.refl _⟩,⟨_,rfl,bB.refl _⟩,⟨_,rfl,bB.refl _⟩,trivial⟩ (fun i hi=>by rw[bf (show i≠326 by omega)];rfl)) (fun M3 y28 G28 h WL WM=>?_)
 obtain⟨LW,BB⟩:=M3
 try dsimp only
 refine qq<|sr<|mv rfl<|fa rfl rfl<|lV rfl rfl rfl<|lE h fun zQ Jt h=>ln rfl Jt<|lE h fun yu FI h=>ls _ rfl rfl FI<|dn ?_
 cases yu
 refine cF<|aS<|ae.x<|ae.x<|aD.x<|ae.n ?_
 obtain rfl:=O (F h)
 exact⟨BB,WM _ rfl,wR []⟩
 refine cT<|aC<|ae.n<|qq<|aq<|af<|mo (s:=.row _) rfl<|fa rfl rfl<|lV rfl rfl rfl<|mv rfl<|mv rfl ?_
 obtain⟨⟨⟨IK,IL⟩,⟨IM,IN⟩⟩,Be,h⟩:=bS (V h)
 refine cl (iz Be) ⟨rfl,rfl,rfl,trivial⟩ ?_
 obtain⟨⟨⟨LX,LY⟩,⟨LZ,L0⟩⟩,O2,h⟩:=bS h
 refine cl (oM O2) ⟨rfl,trivial⟩<|bl (l:=[⟨⟨LX,LY⟩,⟨LZ,L0⟩⟩]) (e:=eQ) (.agg rfl (.nil)) rfl rfl rfl rfl rfl rfl<|bE h fun yq JZ h=>aR (k:=[⟨⟨LX,LY⟩,⟨LZ,L0⟩⟩]) (e:=eQ) rfl rfl rfl JZ<|an (s:=.row _) rfl<|RT.done<|aD.n<|ae.n<|af<|mv rfl<|lE h fun q9 h46 h=>ad _ rfl rfl h46<|ag rfl<|RT.done ?_
 obtain rfl:=O h
 exact ae.n ⟨(q9,yq),WL _ rfl,bK (fun i=>bif Nat.beq i 326 then 55 else i) rfl rfl rfl rfl rfl ⟨.ptr,.ptr,.ptr,.sv (SV.aa _),.row rfl,.sv (SV.aa _),trivial⟩ ⟨⟨_,rfl,⟨.sv (SV.aa _),.sv (SV.aa _),.row rfl,.row rfl,trivial⟩⟩,⟨_,rfl,⟨.sv (SV.aa _),.sv (SV.aa _),.sv (SV.aa _),.sv (SV.aa _),trivial⟩⟩,⟨_,rfl,⟨.sv (SV.aa _),.sv (SV.aa _),.sv (SV.aa _),.sv (SV.aa _),trivial⟩⟩,trivial⟩ ⟨⟨_,rfl,bB.refl _⟩,⟨_,rfl,bB.refl _⟩,⟨_,rfl,bB.refl _⟩,trivial⟩ (fun i hi=>by rw[bf (show i≠326 by omega)];rfl)⟩
 subst WK
 try dsimp only
 refine ae.n<|qq<|aK (bh (i:=326) (E1:=36) (n:=4) (e:=eQ) (l:=oO) rfl)<|af<|fa rfl rfl<|RT.ju .none (s:=.row _) rfl rfl rfl T<|mv rfl<|bl (l:=[oO]) (e:=(eS 4 eQ)) (.one rfl (.nil)) rfl rfl rfl rfl rfl rfl<|bE zV fun DV NQ zV=>aR (k:=[oO]) (e:=(eS 4 eQ)) rfl rfl rfl NQ<|fa rfl rfl<|RT.jc (cells:=[_,_,_,_]) .none rfl rfl rfl rfl T rfl<|dn<|ai mixed<|fa rfl rfl<|RT.ju .none (s:=.row _) rfl rfl rfl T ?_
 refine fa rfl rfl<|lV rfl rfl rfl<|mv rfl ?_
 obtain⟨⟨⟨Vv,Vw⟩,⟨Vx,Vy⟩⟩,h67,zV⟩:=bS zV
 refine cl (iz h67) ⟨rfl,rfl,rfl,trivial⟩ ?_
 obtain⟨⟨⟨L1,L2⟩,⟨L3,L4⟩⟩,h68,zV⟩:=bS zV
 refine cl (oM h68) ⟨rfl,trivial⟩<|bl (l:=[⟨⟨L1,L2⟩,⟨L3,L4⟩⟩]) (e:=eQ) (.agg rfl (.nil)) rfl rfl rfl rfl rfl rfl<|bE zV fun Wv WU zV=>aR (k:=[⟨⟨L1,L2⟩,⟨L3,L4⟩⟩]) (e:=eQ) rfl rfl rfl WU<|fa rfl rfl<|RT.jc (cells:=[_,_,_,_]) .none rfl rfl rfl rfl T rfl ?_
 refine RT.done ⟨by kernel_rfl,?_⟩
 refine aD.n<|ae.n<|af<|mv rfl<|lE zV fun nB xp zV=>ad _ rfl rfl xp<|ag rfl<|RT.done ?_
 obtain rfl:=O zV
 exact ae.n ⟨(nB,DV,Wv),P7 _ rfl,bK (fun i=>bif Nat.beq i 312 then 60 else bif Nat.beq i 313 then 70 else i) rfl rfl rfl rfl rfl ⟨.ptr,.ptr,.ptr,.sv (SV.aa _),trivial⟩ ⟨⟨_,rfl,⟨.sv (SV.aa _),.sv (SV.aa _),.row rfl,.row rfl,trivial⟩⟩,⟨_,rfl,⟨.sv (SV.aa _),.sv (SV.aa _),.sv (SV.aa _),.sv (SV.aa _),trivial⟩⟩,⟨_,rfl,⟨.sv (SV.aa _),.sv (SV.aa _),.sv (SV.aa _),.sv (SV.aa _),trivial⟩⟩,trivial⟩ ⟨⟨_,rfl,bB.refl _⟩,⟨_,rfl,bB.refl _⟩,trivial⟩ (fun i hi=>by rw[bf (show i≠312 by omega)];rw[bf (show i≠313 by omega)];rfl)⟩
 subst P6
 obtain⟨Gi,Gj⟩:=Nq
 try dsimp only
 refine ae.n<|qq<|aK (bh (i:=312) (E1:=24) (n:=1) (e:=(eS 4 eQ)) (l:=Gi) rfl)<|aK (bh (i:=313) (E1:=36) (n:=4) (e:=eQ) (l:=Gj) rfl)<|af<|ld rfl rfl (.cons rfl (.cons rfl (.cons rfl (.cons rfl (.nil)))))<|so rfl rfl rfl<|ag rfl<|dn<|aj ?_
 obtain rfl:=O C2
 exact RZ (.agg rfl rfl (.cons rfl (.cons rfl (.cons rfl (.cons rfl (.nil))))) rfl (.tmp rfl (.nil)))
 refine cT<|sr<|bI (cs:=[_,_,_,_]) (cs':=[.v (.int .i64 0),slc 1 (List.map (eS 4 eQ) []),slc 1 (List.map (eS 4 eQ) []),slc 4 (List.map eQ [])]) (.nil) ⟨SV.aa _,imp_nil,imp_nil,imp_nil,trivial⟩<|so rfl rfl rfl<|ag rfl<|dn<|aj<|ae.r ?_
 obtain rfl:=O (V h)
 exact RZ (.agg rfl rfl (.cons rfl (.cons rfl (.cons rfl (.cons rfl (.nil))))) rfl (.tmp rfl (.nil)))
set_option maxHeartbeats 4000000 in
theorem Gp{x0:Lr}{r:Lr}(h:nZ x0=some r):Pure Tryz.prog 11 [.agg (qO x0)] (.agg (qO r)):=by
 obtain⟨az,aA,aE,aF⟩:=x0
 refine ah Tryz.func11 rfl (Nat.le_of_ble_eq_true rfl) (fun b9 M vs hvs=>?_)
 unfold nZ at h
 refine sr<|bx rfl<|al (cs:=[.v (.int .i64 0),slc 1 (List.map (eS 4 eQ) []),slc 1 (List.map (eS 4 eQ) []),slc 4 (List.map eQ [])]) (by exact⟨SV.aa _,imp_nil,imp_nil,imp_nil,trivial⟩) rfl<|dn<|sr<|fa rfl rfl<|lV rfl rfl rfl<|bI (cs:=[_,_,_,_]) (cs':=[.v (.int .i64 az),.v (.slice none 0 0),.v (.slice none 0 0),slc 4 (List.map eQ [])]) (.one rfl (.nil)) ⟨SV.aa _,SV.aa _,SV.aa _,imp_nil,trivial⟩<|al (cs:=[.v (.int .i64 0),.v (.slice none 0 0),.v (.slice none 0 0),slc 4 (List.map eQ [])]) (by exact⟨SV.aa _,SV.aa _,SV.aa _,imp_nil,trivial⟩) rfl ?_
 refine so rfl rfl rfl<|dn<|aK (eG 3 1 303 24 1 rfl rfl rfl T)<|aK (eG 3 2 304 24 1 rfl rfl rfl T)<|qq<|sr<|ag rfl<|dn<|bE h fun e6 xj jh=>?_
 refine aL (fun(cz:(List (List Qr)))=>AS.bw 65 [(1,.ptr 1 0),(2,.ptr 2 0),(3,.ptr 3 0)] [(3,⟨26,[.sv (.v (.int .i64 az)),.row 306,.row 304,.sv (slc 4 (List.map eQ []))]⟩),(2,⟨26,[.sv (.v (.int .i64 0)),.sv (slc 1 (List.map (eS 4 eQ) [])),.sv (slc 1 (List.map (eS 4 eQ) [])),.sv (slc 4 (List.map eQ []))]⟩),(1,⟨26,[.sv (.v (.int .i64 az)),.sv (slc 1 (List.map (eS 4 eQ) aA)),.sv (slc 1 (List.map (eS 4 eQ) aE)),.sv (slc 4 (List.map eQ aF))]⟩)] [(306,TR 24 1 (eS 4 eQ) cz),(304,TR 24 1 (eS 4 eQ) [])]) (fun cz=>cz=e6) ?_ (fun cz xk=>?_)
 refine aq ?_
 refine aM xj (fun s6=>AS.bw 65 [(1,.ptr 1 0),(2,.ptr 2 0),(3,.ptr 3 0),(4,.sv (.v (.int .i64 s6.1)))] [(3,⟨26,[.sv (.v (.int .i64 az)),.row 306,.row 304,.sv (slc 4 (List.map eQ []))]⟩),(2,⟨26,[.sv (.v (.int .i64 0)),.sv (slc 1 (List.map (eS 4 eQ) [])),.sv (slc 1 (List.map (eS 4 eQ) [])),.sv (slc 4 (List.map eQ []))]⟩),(1,⟨26,[.sv (.v (.int .i64 az)),.sv (slc 1 (List.map (eS 4 eQ) aA)),.sv (slc 1 (List.map (eS 4 eQ) aE)),.sv (slc 4 (List.map eQ aF))]⟩)] [(306,TR 24 1 (eS 4 eQ) s6.2),(304,TR 24 1 (eS 4 eQ) [])]) (bK (fun i=>bif Nat.beq i 306 then 303 else i) rfl rfl rfl rfl rfl ⟨.ptr,.ptr,.ptr,.sv (SV.aa _),trivial⟩ ⟨⟨_,rfl,⟨.sv (SV.aa _),.row rfl,.row rfl,.sv (SV.aa _),trivial⟩⟩,⟨_,rfl,⟨.sv (SV.aa _),.sv (SV.aa _),.sv (SV.aa _),.sv (SV.aa _),trivial⟩⟩,⟨_,rfl,⟨.sv (SV.aa _),.sv (SV.aa _),.sv (SV.aa _),.sv (SV.aa _),trivial⟩⟩,trivial⟩ ⟨⟨_,rfl,bB.refl _⟩,⟨_,rfl,bB.refl _⟩,trivial⟩ (fun i hi=>by rw[bf (show i≠306 by omega)];rfl)) (fun s6 y6 G6 h xl sx=>?_)
 obtain⟨m7,iK⟩:=s6
 try dsimp only
 refine qq<|sr<|mv rfl<|fa rfl rfl<|lV rfl rfl rfl<|lE h fun bV dH h=>ln rfl dH<|lE h fun fR jn h=>ls _ rfl rfl jn<|dn ?_
 cases fR
 refine cF<|aS<|ae.x<|ae.x<|aD.x<|ae.n ?_
 obtain rfl:=O (F h)
 exact⟨iK,sx _ rfl,wR []⟩
 refine cT<|aC<|ae.n<|qq<|aq<|ai mixed<|fa rfl rfl<|RT.ju .none (s:=.row _) rfl rfl rfl T<|fa rfl rfl<|lV rfl rfl rfl<|mv rfl<|bE (V h) fun eH jT h=>ix rfl rfl jT<|lr rfl rfl<|fa rfl rfl<|lV rfl rfl rfl<|mv rfl<|bE h fun gJ mY h=>ix rfl rfl mY<|lr rfl rfl<|lE h fun jr o9 h=>ln rfl o9<|bE h fun fQ lJ h=>cl (iN lJ) ⟨rfl,rfl,trivial⟩ ?_
 refine bl (l:=[fQ]) (e:=(eS 4 eQ)) (.one rfl (.nil)) rfl rfl rfl rfl rfl rfl<|bE h fun ny xU h=>aR (k:=[fQ]) (e:=(eS 4 eQ)) rfl rfl rfl xU<|fa rfl rfl<|RT.jc (cells:=[_,_,_,_]) .none rfl rfl rfl rfl T rfl ?_
 refine RT.done ⟨by kernel_rfl,?_⟩
 refine aD.n<|ae.n<|af<|mv rfl<|lE h fun cE fS h=>ad _ rfl rfl fS<|ag rfl<|RT.done ?_
 obtain rfl:=O h
 exact ae.n ⟨(cE,ny),xl _ rfl,bK (fun i=>bif Nat.beq i 306 then 31 else i) rfl rfl rfl rfl rfl ⟨.ptr,.ptr,.ptr,.sv (SV.aa _),trivial⟩ ⟨⟨_,rfl,⟨.sv (SV.aa _),.row rfl,.row rfl,.sv (SV.aa _),trivial⟩⟩,⟨_,rfl,⟨.sv (SV.aa _),.sv (SV.aa _),.sv (SV.aa _),.sv (SV.aa _),trivial⟩⟩,⟨_,rfl,⟨.sv (SV.aa _),.sv (SV.aa _),.sv (SV.aa _),.sv (SV.aa _),trivial⟩⟩,trivial⟩ ⟨⟨_,rfl,bB.refl _⟩,⟨_,rfl,bB.refl _⟩,trivial⟩ (fun i hi=>by rw[bf (show i≠306 by omega)];rfl)⟩
 subst xk
 try dsimp only
 refine ae.n<|qq<|sr<|ag rfl<|dn<|bE jh fun Lw FF jo=>?_
 refine aL (fun(sP:(List (List Qr)))=>AS.bw 65 [(1,.ptr 1 0),(2,.ptr 2 0),(3,.ptr 3 0)] [(3,⟨26,[.sv (.v (.int .i64 az)),.row 306,.row 309,.sv (slc 4 (List.map eQ []))]⟩),(2,⟨26,[.sv (.v (.int .i64 0)),.sv (slc 1 (List.map (eS 4 eQ) [])),.sv (slc 1 (List.map (eS 4 eQ) [])),.sv (slc 4 (List.map eQ []))]⟩),(1,⟨26,[.sv (.v (.int .i64 az)),.sv (slc 1 (List.map (eS 4 eQ) aA)),.sv (slc 1 (List.map (eS 4 eQ) aE)),.sv (slc 4 (List.map eQ aF))]⟩)] [(306,TR 24 1 (eS 4 eQ) cz),(309,TR 24 1 (eS 4 eQ) sP)]) (fun sP=>sP=Lw) ?_ (fun sP J0=>?_)
 refine aq ?_
 refine aM FF (fun xT=>AS.bw 65 [(1,.ptr 1 0),(2,.ptr 2 0),(3,.ptr 3 0),(5,.sv (.v (.int .i64 xT.1)))] [(3,⟨26,[.sv (.v (.int .i64 az)),.row 306,.row 309,.sv (slc 4 (List.map eQ []))]⟩),(2,⟨26,[.sv (.v (.int .i64 0)),.sv (slc 1 (List.map (eS 4 eQ) [])),.sv (slc 1 (List.map (eS 4 eQ) [])),.sv (slc 4 (List.map eQ []))]⟩),(1,⟨26,[.sv (.v (.int .i64 az)),.sv (slc 1 (List.map (eS 4 eQ) aA)),.sv (slc 1 (List.map (eS 4 eQ) aE)),.sv (slc 4 (List.map eQ aF))]⟩)] [(306,TR 24 1 (eS 4 eQ) cz),(309,TR 24 1 (eS 4 eQ) xT.2)]) (bK (fun i=>bif Nat.beq i 309 then 304 else i) rfl rfl rfl rfl rfl ⟨.ptr,.ptr,.ptr,.sv (SV.aa _),trivial⟩ ⟨⟨_,rfl,⟨.sv (SV.aa _),.row rfl,.row rfl,.sv (SV.aa _),trivial⟩⟩,⟨_,rfl,⟨.sv (SV.aa _),.sv (SV.aa _),.sv (SV.aa _),.sv (SV.aa _),trivial⟩⟩,⟨_,rfl,⟨.sv (SV.aa _),.sv (SV.aa _),.sv (SV.aa _),.sv (SV.aa _),trivial⟩⟩,trivial⟩ ⟨⟨_,rfl,bB.refl _⟩,⟨_,rfl,bB.refl _⟩,trivial⟩ (fun i hi=>by rw[bf (show i≠309 by omega)];rfl)) (fun xT y12 G12 h FG FH=>?_)
 obtain⟨Da,Gk⟩:=xT
 try dsimp only
 refine qq<|sr<|mv rfl<|fa rfl rfl<|lV rfl rfl rfl<|lE h fun qm vZ h=>ln rfl vZ<|lE h fun oU Bf h=>ls _ rfl rfl Bf<|dn ?_
 cases oU
 refine cF<|aS<|ae.x<|ae.x<|aD.x<|ae.n ?_
 obtain rfl:=O (F h)
 exact⟨Gk,FH _ rfl,wR []⟩
 refine cT<|aC<|ae.n<|qq<|aq<|ai mixed<|fa rfl rfl<|RT.ju .none (s:=.row _) rfl rfl rfl T<|fa rfl rfl<|lV rfl rfl rfl<|mv rfl<|bE (V h) fun AD JY h=>ix rfl rfl JY<|lr rfl rfl<|fa rfl rfl<|lV rfl rfl rfl<|mv rfl<|bE h fun xb HM h=>ix rfl rfl HM<|lr rfl rfl<|lE h fun xS Be h=>ln rfl Be<|bE h fun GX O2 h=>cl (iN O2) ⟨rfl,rfl,trivial⟩ ?_
 refine bl (l:=[GX]) (e:=(eS 4 eQ)) (.one rfl (.nil)) rfl rfl rfl rfl rfl rfl<|bE h fun yq JZ h=>aR (k:=[GX]) (e:=(eS 4 eQ)) rfl rfl rfl JZ<|fa rfl rfl<|RT.jc (cells:=[_,_,_,_]) .none rfl rfl rfl rfl T rfl ?_
 refine RT.done ⟨by kernel_rfl,?_⟩
 refine aD.n<|ae.n<|af<|mv rfl<|lE h fun nB xp h=>ad _ rfl rfl xp<|ag rfl<|RT.done ?_
 obtain rfl:=O h
 exact ae.n ⟨(nB,yq),FG _ rfl,bK (fun i=>bif Nat.beq i 309 then 55 else i) rfl rfl rfl rfl rfl ⟨.ptr,.ptr,.ptr,.sv (SV.aa _),trivial⟩ ⟨⟨_,rfl,⟨.sv (SV.aa _),.row rfl,.row rfl,.sv (SV.aa _),trivial⟩⟩,⟨_,rfl,⟨.sv (SV.aa _),.sv (SV.aa _),.sv (SV.aa _),.sv (SV.aa _),trivial⟩⟩,⟨_,rfl,⟨.sv (SV.aa _),.sv (SV.aa _),.sv (SV.aa _),.sv (SV.aa _),trivial⟩⟩,trivial⟩ ⟨⟨_,rfl,bB.refl _⟩,⟨_,rfl,bB.refl _⟩,trivial⟩ (fun i hi=>by rw[bf (show i≠309 by omega)];rfl)⟩
 subst J0
 try dsimp only
 refine ae.n<|sr<|fa rfl rfl<|lV rfl rfl rfl<|fa rfl rfl<|lV rfl rfl rfl<|lE jo fun M4 Sy jo=>ln rfl Sy<|bE jo fun SB WT jo=>cl (iN WT) ⟨rfl,rfl,trivial⟩<|fa rfl rfl<|RT.mU (cells:=[_,_,_,_]) .none (s:=.sv _) rfl rfl rfl T rfl<|dn<|qq<|aK (bh (i:=306) (E1:=24) (n:=1) (e:=(eS 4 eQ)) (l:=cz) rfl)<|aK (bh (i:=309) (E1:=24) (n:=1) (e:=(eS 4 eQ)) (l:=sP) rfl) ?_
 refine af<|ld rfl rfl (.cons rfl (.cons rfl (.cons rfl (.cons rfl (.nil)))))<|so rfl rfl rfl<|dn<|aj ?_
 obtain rfl:=O jo
 exact RZ (.agg rfl rfl (.cons rfl (.cons rfl (.cons rfl (.cons rfl (.nil))))) rfl (.nil))
theorem Ec{x0:Lr}{x1:Int}{r:Lr×Int}(h:gx x0 x1=some r):Pure Tryz.prog 27 [.agg (qO x0),.v (.int .i64 x1)] (.xV [.agg (qO r.1),.v (.int .i64 r.2)]):=by
 obtain⟨az,aA,aE,aF⟩:=x0
 refine ah Tryz.func27 rfl (Nat.le_of_ble_eq_true rfl) (fun b9 M vs hvs=>?_)
 unfold gx at h
 refine sr<|bx rfl<|al (cs:=[.v (.int .i64 0),slc 1 (List.map (eS 4 eQ) []),slc 1 (List.map (eS 4 eQ) []),slc 4 (List.map eQ [])]) (by exact⟨SV.aa _,imp_nil,imp_nil,imp_nil,trivial⟩) rfl<|ag rfl<|dn<|qq<|qq ?_
 refine aH h (fun j6=>AS.bw 32 [(1,.sv (.v (.int .i64 x1))),(2,.ptr 2 0),(4,.ptr 4 0),(20,.sv (.v (.bool j6)))] [(4,⟨26,[.sv (.v (.int .i64 0)),.sv (slc 1 (List.map (eS 4 eQ) [])),.sv (slc 1 (List.map (eS 4 eQ) [])),.sv (slc 4 (List.map eQ []))]⟩),(2,⟨26,[.sv (.v (.int .i64 az)),.sv (slc 1 (List.map (eS 4 eQ) aA)),.sv (slc 1 (List.map (eS 4 eQ) aE)),.sv (slc 4 (List.map eQ aF))]⟩)] []) (fun h=>?_) (fun Qj h=>?_)
 refine af<|ld rfl rfl (.cons rfl (.cons rfl (.cons rfl (.cons rfl (.nil)))))<|bE h fun x8 h8 h=>cl (oQ h8) ⟨rfl,trivial⟩<|lE h fun x9 h9 h=>nt rfl _ h9<|mv rfl<|bE h fun Vz LM h=>?_
 cases x9
 refine gm rfl<|lE (F LM) fun bV dH LM=>RT.lss (.some rfl rfl) _ rfl rfl T dH ?_
 obtain rfl:=O LM
 refine pF rfl<|mv rfl<|bE h fun ajw Cz h=>?_
 cases bV
 refine gm rfl<|RT.fieldAddr (.some rfl rfl) rfl T rfl<|RT.kV (.some rfl rfl) rfl rfl rfl T<|lE (F Cz) fun c6 iS Cz=>gn rfl iS<|lE Cz fun iC kp Cz=>RT.geq (.some rfl rfl) _ rfl rfl T kp ?_
 obtain rfl:=O Cz
 exact pF rfl<|dn<|⟨iC,h,wR []⟩
 obtain rfl:=O (V Cz)
 exact ww<|ww<|ww<|ww<|ww<|pT rfl<|dn<|⟨true,h,wR []⟩
 obtain rfl:=O (V LM)
 refine ww<|ww<|pT rfl<|mv rfl<|bE h fun ajx hg9 h=>?_
 obtain rfl:=O (V hg9)
 exact ww<|ww<|ww<|ww<|ww<|pT rfl<|dn<|⟨true,h,wR []⟩
 try dsimp only
 refine ae.n ?_
 cases Qj
 refine fs<|sr<|ld rfl rfl (.cons rfl (.cons rfl (.cons rfl (.cons rfl (.nil))))) ?_
 obtain⟨⟨oC,oD,wP,wQ⟩,kN,h⟩:=bS (F h)
 refine cl (Gp kN) ⟨rfl,trivial⟩<|al (cs:=[.v (.int .i64 0),slc 1 (List.map (eS 4 eQ) []),slc 1 (List.map (eS 4 eQ) []),slc 4 (List.map eQ [])]) (by exact⟨SV.aa _,imp_nil,imp_nil,imp_nil,trivial⟩) rfl<|so rfl rfl rfl<|dn<|sr<|fa rfl rfl<|lV rfl rfl rfl<|mv rfl<|mv rfl<|lE h fun jr o9 h=>ad _ rfl rfl o9<|bE h fun fQ lJ h=>RT.ua .none x1 jr rfl ⟨_,rfl⟩ ⟨_,rfl⟩ T lJ<|fa rfl rfl ?_
 refine RT.mU (cells:=[_,_,_,_]) .none (s:=.sv _) rfl rfl rfl T rfl<|dn<|sr<|ld rfl rfl (.cons rfl (.cons rfl (.cons rfl (.cons rfl (.nil)))))<|so rfl rfl rfl<|ag rfl<|dn<|aj ?_
 obtain rfl:=O h
 exact RZ (.agg rfl rfl (.cons rfl (.cons rfl (.cons rfl (.cons rfl (.nil))))) rfl (.tmp rfl (.nil)))
 refine cT<|sr<|bI (cs:=[_,_,_,_]) (cs':=[.v (.int .i64 0),slc 1 (List.map (eS 4 eQ) []),slc 1 (List.map (eS 4 eQ) []),slc 4 (List.map eQ [])]) (.nil) ⟨SV.aa _,imp_nil,imp_nil,imp_nil,trivial⟩<|so rfl rfl rfl<|ag rfl<|dn<|aj<|ae.r ?_
 obtain rfl:=O (V h)
 exact RZ (.agg rfl rfl (.cons rfl (.cons rfl (.cons rfl (.cons rfl (.nil))))) rfl (.tmp rfl (.nil)))
theorem Ed{x0:List Qr}{x1:Int}{r:List Qr}(h:oP x0 x1=some r):B0 Tryz.prog 47 [slc 4 (List.map eQ x0),.v (.int .i64 x1)] (TR 36 4 eQ r):=by
 refine o4 Tryz.func47 rfl (Nat.le_of_ble_eq_true rfl) (fun b9 M vs hvs=>?_)
 unfold oP at h
 refine sr<|ag rfl<|dn<|aK (cY 4 304 36 4 rfl rfl T)<|sr<|ag rfl<|dn<|aK (cY 5 308 36 4 rfl rfl T)<|qq<|sr<|ag rfl<|dn<|bE h fun Bd sq mL=>?_
 refine aL (fun(Ag:(List Qr))=>AS.bw 24 [(5,.row 310)] [] [(310,TR 36 4 eQ Ag)]) (fun Ag=>Ag=Bd) ?_ (fun Ag su=>?_)
 refine aq ?_
 refine aM sq (fun qc=>AS.bw 24 [(0,.sv (slc 4 (List.map eQ x0))),(1,.sv (.v (.int .i64 x1))),(5,.row 310),(6,.sv (.v (.int .i64 qc.1)))] [] [(310,TR 36 4 eQ qc.2)]) (bK (fun i=>bif Nat.beq i 310 then 308 else i) rfl rfl rfl rfl rfl ⟨.sv (SV.aa _),.sv (SV.aa _),.row rfl,.sv (SV.aa _),trivial⟩ trivial ⟨⟨_,rfl,bB.refl _⟩,trivial⟩ (fun i hi=>by rw[bf (show i≠310 by omega)];rfl)) (fun qc Su Sv h sw o8=>?_)
 obtain⟨tN,Db⟩:=qc
 try dsimp only
 refine qq<|qq ?_
 refine aH h (fun Ck=>AS.bw 24 [(0,.sv (slc 4 (List.map eQ x0))),(1,.sv (.v (.int .i64 x1))),(5,.row 310),(6,.sv (.v (.int .i64 tN))),(13,.sv (.v (.bool Ck)))] [] [(310,TR 36 4 eQ Db)]) (fun h=>?_) (fun xK h=>?_)
 refine af<|mv rfl<|mv rfl<|lE h fun x9 h9 h=>ls _ rfl rfl h9<|mv rfl<|bE h fun C6 bZ h=>?_
 cases x9
 obtain rfl:=O (F bZ)
 exact ww<|ww<|pF rfl<|dn<|⟨false,h,wR []⟩
 refine gm rfl<|lE (V bZ) fun bV dH bZ=>RT.lss (.some rfl rfl) _ rfl rfl T dH ?_
 obtain rfl:=O bZ
 exact pT rfl<|dn<|⟨bV,h,wR []⟩
 try dsimp only
 refine ae.n ?_
 cases xK
 refine cF<|aS<|ae.x<|ae.x<|aD.x<|ae.n ?_
 obtain rfl:=O (F h)
 exact⟨Db,o8 _ rfl,wR []⟩
 refine cT<|aC<|ae.n<|qq<|aq<|af<|mo (s:=.row _) rfl<|mv rfl<|mv rfl ?_
 obtain⟨⟨⟨jk,jl⟩,⟨tB,tC⟩⟩,kp,h⟩:=bS (V h)
 refine cl (jM kp) ⟨rfl,rfl,trivial⟩ ?_
 obtain⟨⟨⟨pA,pB⟩,⟨tq,tu⟩⟩,nF,h⟩:=bS h
 refine cl (jL nF) ⟨rfl,trivial⟩<|bl (l:=[⟨⟨pA,pB⟩,⟨tq,tu⟩⟩]) (e:=eQ) (.agg rfl (.nil)) rfl rfl rfl rfl rfl rfl<|bE h fun fu kM h=>aR (k:=[⟨⟨pA,pB⟩,⟨tq,tu⟩⟩]) (e:=eQ) rfl rfl rfl kM<|an (s:=.row _) rfl<|RT.done<|aD.n<|ae.n<|af<|mv rfl<|lE h fun cE fS h=>ad _ rfl rfl fS<|ag rfl<|RT.done ?_
 obtain rfl:=O h
 exact ae.n ⟨(cE,fu),sw _ rfl,bK (fun i=>bif Nat.beq i 310 then 22 else i) rfl rfl rfl rfl rfl ⟨.sv (SV.aa _),.sv (SV.aa _),.row rfl,.sv (SV.aa _),trivial⟩ trivial ⟨⟨_,rfl,bB.refl _⟩,trivial⟩ (fun i hi=>by rw[bf (show i≠310 by omega)];rfl)⟩
 subst su
 try dsimp only
 refine ae.n<|sr<|mo (s:=.row _) rfl<|an (s:=.row _) rfl<|dn<|aj ?_
 obtain rfl:=O mL
 exact⟨.inr rfl,_,.tmp rfl,rfl⟩
set_option maxHeartbeats 4000000 in
theorem Ee{x0:Lr}{r:Int×(List (List Qr))×(List (List Qr))×(List Qr)}(h:mh x0=some r):Ka Tryz.prog 11 [.agg (qO x0)] [.s (.v (.int .i64 r.1)),.s (slc 1 (List.map (eS 4 eQ) r.2.1)),.r (TR 24 1 (eS 4 eQ) r.2.2.1),.r (TR 36 4 eQ r.2.2.2)]:=by
 obtain⟨az,aA,aE,aF⟩:=x0
 refine CL (t:=2) (T:=26) Tryz.func11 rfl (Nat.le_of_ble_eq_true rfl) rfl rfl (fun b9 M vs hvs=>?_)
 unfold mh at h
 refine sr<|bx rfl<|al (cs:=[.v (.int .i64 0),slc 1 (List.map (eS 4 eQ) []),.v (.slice none 0 0),.v (.slice none 0 0)]) (by exact⟨SV.aa _,imp_nil,SV.aa _,SV.aa _,trivial⟩) rfl<|dn<|aK (eG 2 2 303 24 1 rfl rfl rfl T)<|aK (eG 2 3 304 36 4 rfl rfl rfl T)<|sr<|fa rfl rfl<|lV rfl rfl rfl<|bI (cs:=[_,_,_,_]) (cs':=[.v (.int .i64 az),.v (.slice none 0 0),.v (.slice none 0 0),.v (.slice none 0 0)]) (.one rfl (.nil)) ⟨SV.aa _,SV.aa _,SV.aa _,SV.aa _,trivial⟩ ?_
 refine al (cs:=[.v (.int .i64 0),.v (.slice none 0 0),.v (.slice none 0 0),.v (.slice none 0 0)]) (by exact⟨SV.aa _,SV.aa _,SV.aa _,SV.aa _,trivial⟩) rfl<|so rfl rfl rfl<|dn<|aK (eG 3 1 308 24 1 rfl rfl rfl T)<|aK (eG 3 2 309 24 1 rfl rfl rfl T)<|aK (eG 3 3 310 36 4 rfl rfl rfl T)<|qq<|sr<|ag rfl<|dn<|bE h fun e6 xj jh=>?_
 refine aL (fun(pO:(List (List Qr)))=>AS.bw 65 [(1,.ptr 1 0),(2,.ptr 2 0),(3,.ptr 3 0)] [(3,⟨26,[.sv (.v (.int .i64 az)),.row 312,.row 309,.row 310]⟩),(2,⟨26,[.sv (.v (.int .i64 0)),.sv (slc 1 (List.map (eS 4 eQ) [])),.row 303,.row 304]⟩),(1,⟨26,[.sv (.v (.int .i64 az)),.sv (slc 1 (List.map (eS 4 eQ) aA)),.sv (slc 1 (List.map (eS 4 eQ) aE)),.sv (slc 4 (List.map eQ aF))]⟩)] [(312,TR 24 1 (eS 4 eQ) pO),(309,TR 24 1 (eS 4 eQ) []),(310,TR 36 4 eQ []),(303,TR 24 1 (eS 4 eQ) []),(304,TR 36 4 eQ [])]) (fun pO=>pO=e6) ?_ (fun pO xk=>?_)
 refine aq ?_
 refine aM xj (fun s6=>AS.bw 65 [(1,.ptr 1 0),(2,.ptr 2 0),(3,.ptr 3 0),(4,.sv (.v (.int .i64 s6.1)))] [(3,⟨26,[.sv (.v (.int .i64 az)),.row 312,.row 309,.row 310]⟩),(2,⟨26,[.sv (.v (.int .i64 0)),.sv (slc 1 (List.map (eS 4 eQ) [])),.row 303,.row 304]⟩),(1,⟨26,[.sv (.v (.int .i64 az)),.sv (slc 1 (List.map (eS 4 eQ) aA)),.sv (slc 1 (List.map (eS 4 eQ) aE)),.sv (slc 4 (List.map eQ aF))]⟩)] [(312,TR 24 1 (eS 4 eQ) s6.2),(309,TR 24 1 (eS 4 eQ) []),(310,TR 36 4 eQ []),(303,TR 24 1 (eS 4 eQ) []),(304,TR 36 4 eQ [])]) (bK (fun i=>bif Nat.beq i 312 then 308 else i) rfl rfl rfl rfl rfl ⟨.ptr,.ptr,.ptr,.sv (SV.aa _),trivial⟩ ⟨⟨_,rfl,⟨.sv (SV.aa _),.row rfl,.row rfl,.row rfl,trivial⟩⟩,⟨_,rfl,⟨.sv (SV.aa _),.sv (SV.aa _),.row rfl,.row rfl,trivial⟩⟩,⟨_,rfl,⟨.sv (SV.aa _),.sv (SV.aa _),.sv (SV.aa _),.sv (SV.aa _),trivial⟩⟩,trivial⟩ ⟨⟨_,rfl,bB.refl _⟩,⟨_,rfl,bB.refl _⟩,⟨_,rfl,bB.refl _⟩,⟨_,rfl,bB.refl _⟩,⟨_,rfl,bB.refl _⟩,trivial⟩ (fun i hi=>by rw[bf (show i≠312 by omega)];rfl)) (fun s6 y6 G6 h xl sx=>?_)
 obtain⟨m7,Gl⟩:=s6
 try dsimp only
 refine qq<|sr<|mv rfl<|fa rfl rfl<|lV rfl rfl rfl<|lE h fun bV dH h=>ln rfl dH<|lE h fun fR jn h=>ls _ rfl rfl jn<|dn ?_
 cases fR
 refine cF<|aS<|ae.x<|ae.x<|aD.x<|ae.n ?_
 obtain rfl:=O (F h)
 exact⟨Gl,sx _ rfl,wR []⟩
 refine cT<|aC<|ae.n<|qq<|aq<|ai mixed<|fa rfl rfl<|RT.ju .none (s:=.row _) rfl rfl rfl T<|fa rfl rfl<|lV rfl rfl rfl<|mv rfl<|bE (V h) fun eH jT h=>ix rfl rfl jT<|lr rfl rfl<|fa rfl rfl<|lV rfl rfl rfl<|mv rfl<|bE h fun gJ mY h=>ix rfl rfl mY<|lr rfl rfl<|lE h fun jr o9 h=>ln rfl o9<|bE h fun fQ lJ h=>cl (iN lJ) ⟨rfl,rfl,trivial⟩ ?_
 refine bl (l:=[fQ]) (e:=(eS 4 eQ)) (.one rfl (.nil)) rfl rfl rfl rfl rfl rfl<|bE h fun ny xU h=>aR (k:=[fQ]) (e:=(eS 4 eQ)) rfl rfl rfl xU<|fa rfl rfl<|RT.jc (cells:=[_,_,_,_]) .none rfl rfl rfl rfl T rfl ?_
 refine RT.done ⟨by kernel_rfl,?_⟩
 refine aD.n<|ae.n<|af<|mv rfl<|lE h fun cE fS h=>ad _ rfl rfl fS<|ag rfl<|RT.done ?_
 obtain rfl:=O h
 exact ae.n ⟨(cE,ny),xl _ rfl,bK (fun i=>bif Nat.beq i 312 then 31 else i) rfl rfl rfl rfl rfl ⟨.ptr,.ptr,.ptr,.sv (SV.aa _),trivial⟩ ⟨⟨_,rfl,⟨.sv (SV.aa _),.row rfl,.row rfl,.row rfl,trivial⟩⟩,⟨_,rfl,⟨.sv (SV.aa _),.sv (SV.aa _),.row rfl,.row rfl,trivial⟩⟩,⟨_,rfl,⟨.sv (SV.aa _),.sv (SV.aa _),.sv (SV.aa _),.sv (SV.aa _),trivial⟩⟩,trivial⟩ ⟨⟨_,rfl,bB.refl _⟩,⟨_,rfl,bB.refl _⟩,⟨_,rfl,bB.refl _⟩,⟨_,rfl,bB.refl _⟩,⟨_,rfl,bB.refl _⟩,trivial⟩ (fun i hi=>by rw[bf (show i≠312 by omega)];rfl)⟩
 subst xk
 try dsimp only
 refine ae.n<|qq<|sr<|ag rfl<|dn<|bE jh fun Lw FF jo=>?_
 refine aL (fun(vH:(List (List Qr)))=>AS.bw 65 [(1,.ptr 1 0),(2,.ptr 2 0),(3,.ptr 3 0)] [(3,⟨26,[.sv (.v (.int .i64 az)),.row 312,.row 315,.row 310]⟩),(2,⟨26,[.sv (.v (.int .i64 0)),.sv (slc 1 (List.map (eS 4 eQ) [])),.row 303,.row 304]⟩),(1,⟨26,[.sv (.v (.int .i64 az)),.sv (slc 1 (List.map (eS 4 eQ) aA)),.sv (slc 1 (List.map (eS 4 eQ) aE)),.sv (slc 4 (List.map eQ aF))]⟩)] [(312,TR 24 1 (eS 4 eQ) pO),(315,TR 24 1 (eS 4 eQ) vH),(310,TR 36 4 eQ []),(303,TR 24 1 (eS 4 eQ) []),(304,TR 36 4 eQ [])]) (fun vH=>vH=Lw) ?_ (fun vH J0=>?_)
 refine aq ?_
 refine aM FF (fun xT=>AS.bw 65 [(1,.ptr 1 0),(2,.ptr 2 0),(3,.ptr 3 0),(5,.sv (.v (.int .i64 xT.1)))] [(3,⟨26,[.sv (.v (.int .i64 az)),.row 312,.row 315,.row 310]⟩),(2,⟨26,[.sv (.v (.int .i64 0)),.sv (slc 1 (List.map (eS 4 eQ) [])),.row 303,.row 304]⟩),(1,⟨26,[.sv (.v (.int .i64 az)),.sv (slc 1 (List.map (eS 4 eQ) aA)),.sv (slc 1 (List.map (eS 4 eQ) aE)),.sv (slc 4 (List.map eQ aF))]⟩)] [(312,TR 24 1 (eS 4 eQ) pO),(315,TR 24 1 (eS 4 eQ) xT.2),(310,TR 36 4 eQ []),(303,TR 24 1 (eS 4 eQ) []),(304,TR 36 4 eQ [])]) (bK (fun i=>bif Nat.beq i 315 then 309 else i) rfl rfl rfl rfl rfl ⟨.ptr,.ptr,.ptr,.sv (SV.aa _),trivial⟩ ⟨⟨_,rfl,⟨.sv (SV.aa _),.row rfl,.row rfl,.row rfl,trivial⟩⟩,⟨_,rfl,⟨.sv (SV.aa _),.sv (SV.aa _),.row rfl,.row rfl,trivial⟩⟩,⟨_,rfl,⟨.sv (SV.aa _),.sv (SV.aa _),.sv (SV.aa _),.sv (SV.aa _),trivial⟩⟩,trivial⟩ ⟨⟨_,rfl,bB.refl _⟩,⟨_,rfl,bB.refl _⟩,⟨_,rfl,bB.refl _⟩,⟨_,rfl,bB.refl _⟩,⟨_,rfl,bB.refl _⟩,trivial⟩ (fun i hi=>by rw[bf (show i≠315 by omega)];rfl)) (fun xT y12 G12 h FG FH=>?_)
 obtain⟨Da,Gm⟩:=xT
 try dsimp only
 refine qq<|sr<|mv rfl<|fa rfl rfl<|lV rfl rfl rfl<|lE h fun qm vZ h=>ln rfl vZ<|lE h fun oU Bf h=>ls _ rfl rfl Bf<|dn ?_
 cases oU
 refine cF<|aS<|ae.x<|ae.x<|aD.x<|ae.n ?_
 obtain rfl:=O (F h)
 exact⟨Gm,FH _ rfl,wR []⟩
 refine cT<|aC<|ae.n<|qq<|aq<|ai mixed<|fa rfl rfl<|RT.ju .none (s:=.row _) rfl rfl rfl T<|fa rfl rfl<|lV rfl rfl rfl<|mv rfl<|bE (V h) fun AD JY h=>ix rfl rfl JY<|lr rfl rfl<|fa rfl rfl<|lV rfl rfl rfl<|mv rfl<|bE h fun xb HM h=>ix rfl rfl HM<|lr rfl rfl<|lE h fun xS Be h=>ln rfl Be<|bE h fun GX O2 h=>cl (iN O2) ⟨rfl,rfl,trivial⟩ ?_
 refine bl (l:=[GX]) (e:=(eS 4 eQ)) (.one rfl (.nil)) rfl rfl rfl rfl rfl rfl<|bE h fun yq JZ h=>aR (k:=[GX]) (e:=(eS 4 eQ)) rfl rfl rfl JZ<|fa rfl rfl<|RT.jc (cells:=[_,_,_,_]) .none rfl rfl rfl rfl T rfl ?_
 refine RT.done ⟨by kernel_rfl,?_⟩
 refine aD.n<|ae.n<|af<|mv rfl<|lE h fun nB xp h=>ad _ rfl rfl xp<|ag rfl<|RT.done ?_
 obtain rfl:=O h
 exact ae.n ⟨(nB,yq),FG _ rfl,bK (fun i=>bif Nat.beq i 315 then 55 else i) rfl rfl rfl rfl rfl ⟨.ptr,.ptr,.ptr,.sv (SV.aa _),trivial⟩ ⟨⟨_,rfl,⟨.sv (SV.aa _),.row rfl,.row rfl,.row rfl,trivial⟩⟩,⟨_,rfl,⟨.sv (SV.aa _),.sv (SV.aa _),.row rfl,.row rfl,trivial⟩⟩,⟨_,rfl,⟨.sv (SV.aa _),.sv (SV.aa _),.sv (SV.aa _),.sv (SV.aa _),trivial⟩⟩,trivial⟩ ⟨⟨_,rfl,bB.refl _⟩,⟨_,rfl,bB.refl _⟩,⟨_,rfl,bB.refl _⟩,⟨_,rfl,bB.refl _⟩,⟨_,rfl,bB.refl _⟩,trivial⟩ (fun i hi=>by rw[bf (show i≠315 by omega)];rfl)⟩
 subst J0
 try dsimp only
 refine ae.n<|sr<|fa rfl rfl<|lV rfl rfl rfl<|fa rfl rfl<|lV rfl rfl rfl<|lE jo fun M4 Sy jo=>ln rfl Sy<|bE jo fun SB WT jo=>cN (Ed WT) ⟨rfl,rfl,trivial⟩<|fa rfl rfl<|RT.jc (cells:=[_,_,_,_]) .none rfl rfl rfl rfl T rfl<|dn<|qq<|aK (bh (i:=312) (E1:=24) (n:=1) (e:=(eS 4 eQ)) (l:=pO) rfl)<|af<|RT.aaA .none [.val (.v (.int .i64 az)),.val (slc 1 (List.map (eS 4 eQ) pO)),.row 315,.row 62] rfl rfl rfl rfl rfl ⟨(fun _ _ q_=>One.h _ _ q_),(fun _ _ q_=>One.h _ _ q_),⟨_,rfl⟩,⟨_,rfl⟩,trivial⟩ [315,62] rfl T ?_
 refine RT.FU .none rfl rfl rfl ⟨(fun _ _ q_=>One.h _ _ q_),(fun _ _ q_=>One.h _ _ q_),⟨_,rfl⟩,⟨_,rfl⟩,trivial⟩ rfl rfl [315,62] rfl [.sv (.v (.int .i64 az)),.sv (slc 1 (List.map (eS 4 eQ) pO)),.row 315,.row 62] rfl<|dn<|aj ?_
 obtain rfl:=O jo
 exact⟨.inr rfl,2,[315,62],rfl,rfl,⟨rfl,rfl,trivial⟩,by decide⟩
theorem qX{x0:Lr}{x1:List Qr}{x2:Qr}{r:Lr×Int}(h:eV x0 x1 x2=some r):Pure Tryz.prog 29 [.agg (qO x0),slc 4 (List.map eQ x1),.agg (eQ x2)] (.xV [.agg (qO r.1),.v (.int .i64 r.2)]):=by
 obtain⟨az,aA,aE,aF⟩:=x0
 obtain⟨⟨jy,jz⟩,⟨nJ,nK⟩⟩:=x2
 refine ah Tryz.func29 rfl (Nat.le_of_ble_eq_true rfl) (fun b9 M vs hvs=>?_)
 unfold eV at h
 refine sr<|bx rfl<|bx rfl<|al (cs:=[.v (.int .i64 0),slc 1 (List.map (eS 4 eQ) []),slc 1 (List.map (eS 4 eQ) []),slc 4 (List.map eQ [])]) (by exact⟨SV.aa _,imp_nil,imp_nil,imp_nil,trivial⟩) rfl<|ag rfl<|dn<|sr<|ld rfl rfl (.cons rfl (.cons rfl (.cons rfl (.cons rfl (.nil))))) ?_
 obtain⟨⟨lP,lQ,Cx,Cy⟩,ep,h⟩:=bS h
 refine RT.Pt .none (Ee ep) [303,304] (by decide) rfl ⟨⟨rfl,T⟩,⟨rfl,T⟩,trivial⟩ rfl ⟨rfl,trivial⟩ T<|al (cs:=[.v (.int .i64 0),slc 1 (List.map (eS 4 eQ) []),.v (.slice none 0 0),.v (.slice none 0 0)]) (by exact⟨SV.aa _,imp_nil,SV.aa _,SV.aa _,trivial⟩) rfl<|RT.FU .none rfl rfl rfl ⟨(fun _ _ q_=>One.h _ _ q_),(fun _ _ q_=>One.h _ _ q_),⟨_,rfl⟩,⟨_,rfl⟩,trivial⟩ rfl rfl [303,304] rfl [.sv (.v (.int .i64 lP)),.sv (slc 1 (List.map (eS 4 eQ) lQ)),.row 303,.row 304] rfl<|dn<|qq ?_
 refine ai mixed<|fa rfl rfl<|RT.ju .none (s:=.row _) rfl rfl rfl T<|mv rfl<|mv rfl<|lE h fun cE fS h=>ln rfl fS<|bE h fun dz gZ h=>cl (iN gZ) ⟨rfl,rfl,trivial⟩<|bl (l:=[dz]) (e:=(eS 4 eQ)) (.one rfl (.nil)) rfl rfl rfl rfl rfl rfl<|bE h fun c6 iS h=>aR (k:=[dz]) (e:=(eS 4 eQ)) rfl rfl rfl iS<|fa rfl rfl<|RT.jc (cells:=[_,_,_,_]) .none rfl rfl rfl rfl T rfl ?_
 refine RT.done ⟨by kernel_rfl,?_⟩
 refine ae.n<|qq<|ai mixed<|fa rfl rfl<|RT.ju .none (s:=.row _) rfl rfl rfl T<|ld rfl rfl (.cons rfl (.cons rfl (.cons rfl (.cons rfl (.nil))))) ?_
 obtain⟨⟨⟨oC,oD⟩,⟨wP,wQ⟩⟩,kN,h⟩:=bS h
 refine cl (jL kN) ⟨rfl,trivial⟩<|bl (l:=[⟨⟨oC,oD⟩,⟨wP,wQ⟩⟩]) (e:=eQ) (.agg rfl (.nil)) rfl rfl rfl rfl rfl rfl<|bE h fun gC lS h=>aR (k:=[⟨⟨oC,oD⟩,⟨wP,wQ⟩⟩]) (e:=eQ) rfl rfl rfl lS<|fa rfl rfl<|RT.jc (cells:=[_,_,_,_]) .none rfl rfl rfl rfl T rfl ?_
 refine RT.done ⟨by kernel_rfl,?_⟩
 refine ae.n<|qq<|qq ?_
 refine aH h (fun j3=>AS.bw 37 [(6,.ptr 6 0),(8,.ptr 8 0),(34,.sv (.v (.bool j3)))] [(8,⟨26,[.sv (.v (.int .i64 lP)),.sv (slc 1 (List.map (eS 4 eQ) lQ)),.sv (slc 1 (List.map (eS 4 eQ) c6)),.sv (slc 4 (List.map eQ gC))]⟩),(6,⟨26,[.sv (.v (.int .i64 0)),.sv (slc 1 (List.map (eS 4 eQ) [])),.sv (slc 1 (List.map (eS 4 eQ) [])),.sv (slc 4 (List.map eQ []))]⟩)] []) (fun h=>?_) (fun C0 h=>?_)
 refine aK (bh (i:=18) (E1:=24) (n:=1) (e:=(eS 4 eQ)) (l:=c6) rfl)<|aK (bh (i:=25) (E1:=36) (n:=4) (e:=eQ) (l:=gC) rfl)<|af<|ld rfl rfl (.cons rfl (.cons rfl (.cons rfl (.cons rfl (.nil)))))<|bE h fun jr o9 h=>cl (oQ o9) ⟨rfl,trivial⟩<|lE h fun fQ lJ h=>nt rfl _ lJ<|mv rfl<|bE h fun VA lK h=>?_
 cases fQ
 refine gl rfl rfl (.cons rfl (.cons rfl (.cons rfl (.cons rfl (.nil)))))<|bE (F lK) fun fI mZ lK=>gc (oQ mZ) ⟨rfl,trivial⟩<|lE lK fun lI th lK=>gt_ rfl _ th ?_
 obtain rfl:=O lK
 exact pF rfl<|dn<|⟨lI,h,wR []⟩
 obtain rfl:=O (V lK)
 exact ww<|ww<|ww<|pT rfl<|dn<|⟨true,h,wR []⟩
 try dsimp only
 refine ae.n ?_
 cases C0
 refine fs<|sr<|ld rfl rfl (.cons rfl (.cons rfl (.cons rfl (.cons rfl (.nil)))))<|so rfl rfl rfl<|ag rfl<|dn<|aj ?_
 obtain rfl:=O (F h)
 exact RZ (.agg rfl rfl (.cons rfl (.cons rfl (.cons rfl (.cons rfl (.nil))))) rfl (.tmp rfl (.nil)))
 refine cT<|sr<|bI (cs:=[_,_,_,_]) (cs':=[.v (.int .i64 0),slc 1 (List.map (eS 4 eQ) []),slc 1 (List.map (eS 4 eQ) []),slc 4 (List.map eQ [])]) (.nil) ⟨SV.aa _,imp_nil,imp_nil,imp_nil,trivial⟩<|so rfl rfl rfl<|ag rfl<|dn<|aj<|ae.r ?_
 obtain rfl:=O (V h)
 exact RZ (.agg rfl rfl (.cons rfl (.cons rfl (.cons rfl (.cons rfl (.nil))))) rfl (.tmp rfl (.nil)))
theorem Df{x0:Lr}{x1:List Qr}{x2:Qr}{r:Lr×Int}(h:gG x0 x1 x2=some r):Pure Tryz.prog 31 [.agg (qO x0),slc 4 (List.map eQ x1),.agg (eQ x2)] (.xV [.agg (qO r.1),.v (.int .i64 r.2)]):=by
 obtain⟨az,aA,aE,aF⟩:=x0
 obtain⟨⟨jy,jz⟩,⟨nJ,nK⟩⟩:=x2
 refine ah Tryz.func31 rfl (Nat.le_of_ble_eq_true rfl) (fun b9 M vs hvs=>?_)
 unfold gG at h
 refine sr<|bx rfl<|bx rfl<|al (cs:=[.v (.int .i64 0),slc 1 (List.map (eS 4 eQ) []),slc 1 (List.map (eS 4 eQ) []),slc 4 (List.map eQ [])]) (by exact⟨SV.aa _,imp_nil,imp_nil,imp_nil,trivial⟩) rfl<|ag rfl<|dn<|sr<|ld rfl rfl (.cons rfl (.cons rfl (.cons rfl (.cons rfl (.nil)))))<|mv rfl<|ld rfl rfl (.cons rfl (.cons rfl (.cons rfl (.cons rfl (.nil))))) ?_
 obtain⟨⟨⟨Qk,Ql,Qm,Qn⟩,SF⟩,fT,h⟩:=bS h
 refine cl (qX fT) ⟨rfl,rfl,rfl,trivial⟩<|mv rfl<|ex rfl rfl<|ex rfl rfl<|al (cs:=[.v (.int .i64 0),slc 1 (List.map (eS 4 eQ) []),slc 1 (List.map (eS 4 eQ) []),slc 4 (List.map eQ [])]) (by exact⟨SV.aa _,imp_nil,imp_nil,imp_nil,trivial⟩) rfl<|so rfl rfl rfl<|ag rfl<|dn<|qq<|sr<|mv rfl<|lE h fun c6 iS h=>ne _ rfl rfl (DJ (p:=SF) (q:=0) iS)<|dn ?_
 cases c6
 refine fs<|qq<|ai mixed<|ld rfl rfl (.cons rfl (.cons rfl (.cons rfl (.cons rfl (.nil))))) ?_
 obtain⟨⟨⟨k8,lf⟩,⟨lj,lp⟩⟩,kM,h⟩:=bS (F h)
 refine cl (oL kM) ⟨rfl,trivial⟩<|mv rfl<|bE h fun eI mI h=>cl (vg mI) ⟨rfl,rfl,trivial⟩<|ld rfl rfl (.cons rfl (.cons rfl (.cons rfl (.cons rfl (.nil))))) ?_
 obtain⟨⟨⟨qB,qC⟩,⟨qD,qE⟩⟩,mY,h⟩:=bS h
 refine cl (oM mY) ⟨rfl,trivial⟩ ?_
 obtain⟨⟨⟨Qo,Qp,Qq,Qs⟩,aaX⟩,mR,h⟩:=bS h
 refine cl (qX mR) ⟨rfl,rfl,rfl,trivial⟩<|ex rfl rfl<|ex rfl rfl<|so rfl rfl rfl<|ag rfl ?_
 refine RT.done ⟨by kernel_rfl,?_⟩
 refine ae.n<|aj ?_
 obtain rfl:=O h
 exact RZ (.agg rfl rfl (.cons rfl (.cons rfl (.cons rfl (.cons rfl (.nil))))) rfl (.tmp rfl (.nil)))
 refine cT<|sr<|bI (cs:=[_,_,_,_]) (cs':=[.v (.int .i64 0),slc 1 (List.map (eS 4 eQ) []),slc 1 (List.map (eS 4 eQ) []),slc 4 (List.map eQ [])]) (.nil) ⟨SV.aa _,imp_nil,imp_nil,imp_nil,trivial⟩<|mv rfl<|so rfl rfl rfl<|ag rfl<|dn<|aj<|ae.r ?_
 obtain rfl:=O (V h)
 exact RZ (.agg rfl rfl (.cons rfl (.cons rfl (.cons rfl (.cons rfl (.nil))))) rfl (.tmp rfl (.nil)))
theorem Ef{x0:Lr}{x1:Lr}{r:Bool}(h:mm x0 x1=some r):Pure Tryz.prog 15 [.agg (qO x0),.agg (qO x1)] (.v (.bool r)):=by
 obtain⟨az,aA,aE,aF⟩:=x0
 obtain⟨aZ,aY,cI,cJ⟩:=x1
 refine ah Tryz.func15 rfl (Nat.le_of_ble_eq_true rfl) (fun b9 M vs hvs=>?_)
 unfold mm at h
 refine sr<|bx rfl<|bx rfl<|ag rfl<|dn<|qq<|qq ?_
 refine aH h (fun RK=>AS.bw 57 [(2,.ptr 2 0),(3,.ptr 3 0),(36,.sv (.v (.bool RK)))] [(3,⟨26,[.sv (.v (.int .i64 aZ)),.sv (slc 1 (List.map (eS 4 eQ) aY)),.sv (slc 1 (List.map (eS 4 eQ) cI)),.sv (slc 4 (List.map eQ cJ))]⟩),(2,⟨26,[.sv (.v (.int .i64 az)),.sv (slc 1 (List.map (eS 4 eQ) aA)),.sv (slc 1 (List.map (eS 4 eQ) aE)),.sv (slc 4 (List.map eQ aF))]⟩)] []) (fun h=>?_) (fun Qt h=>?_)
 refine af<|fa rfl rfl<|lV rfl rfl rfl<|fa rfl rfl<|lV rfl rfl rfl<|lE h fun x9 h9 h=>ne _ rfl rfl (DJ (p:=az) (q:=aZ) h9)<|mv rfl<|bE h fun Qv Aa h=>?_
 cases x9
 refine RT.fieldAddr (.some rfl rfl) rfl T rfl<|RT.kV (.some rfl rfl) rfl rfl rfl T<|lE (F Aa) fun fR jn Aa=>gn rfl jn<|RT.fieldAddr (.some rfl rfl) rfl T rfl<|RT.kV (.some rfl rfl) rfl rfl rfl T<|lE Aa fun dz gZ Aa=>gn rfl gZ<|lE Aa fun cX jd Aa=>gq _ rfl rfl (DJ (p:=fR) (q:=dz) jd) ?_
 obtain rfl:=O Aa
 refine pF rfl<|mv rfl<|bE h fun agr qf h=>?_
 cases cX
 refine RT.fieldAddr (.some rfl rfl) rfl T rfl<|RT.kV (.some rfl rfl) rfl rfl rfl T<|lE (F qf) fun fu kM qf=>gn rfl kM<|RT.fieldAddr (.some rfl rfl) rfl T rfl<|RT.kV (.some rfl rfl) rfl rfl rfl T<|lE qf fun gC lS qf=>gn rfl lS<|lE qf fun gJ mY qf=>gq _ rfl rfl (DJ (p:=fu) (q:=gC) mY) ?_
 obtain rfl:=O qf
 refine pF rfl<|mv rfl<|bE h fun ags ig h=>?_
 cases gJ
 refine RT.fieldAddr (.some rfl rfl) rfl T rfl<|RT.kV (.some rfl rfl) rfl rfl rfl T<|lE (F ig) fun ny xU ig=>gn rfl xU<|RT.fieldAddr (.some rfl rfl) rfl T rfl<|RT.kV (.some rfl rfl) rfl rfl rfl T<|lE ig fun oA tK ig=>gn rfl tK<|lE ig fun oB xm ig=>gq _ rfl rfl (DJ (p:=ny) (q:=oA) xm) ?_
 obtain rfl:=O ig
 exact pF rfl<|dn<|⟨oB,h,wR []⟩
 obtain rfl:=O (V ig)
 exact ww<|ww<|ww<|ww<|ww<|ww<|ww<|pT rfl<|dn<|⟨true,h,wR []⟩
 obtain rfl:=O (V qf)
 refine ww<|ww<|ww<|ww<|ww<|ww<|ww<|pT rfl<|mv rfl<|bE h fun agt nQ h=>?_
 obtain rfl:=O (V nQ)
 exact ww<|ww<|ww<|ww<|ww<|ww<|ww<|pT rfl<|dn<|⟨true,h,wR []⟩
 obtain rfl:=O (V Aa)
 refine ww<|ww<|ww<|ww<|ww<|ww<|ww<|pT rfl<|mv rfl<|bE h fun agu Bo h=>?_
 obtain rfl:=O (V Bo)
 refine ww<|ww<|ww<|ww<|ww<|ww<|ww<|pT rfl<|mv rfl<|bE h fun agv De h=>?_
 obtain rfl:=O (V De)
 exact ww<|ww<|ww<|ww<|ww<|ww<|ww<|pT rfl<|dn<|⟨true,h,wR []⟩
 try dsimp only
 refine ae.n ?_
 cases Qt
 refine fs<|qq ?_
 refine aH (F h) (fun j16=>AS.bw 57 [(4,.sv (.v (.bool j16)))] [] []) (fun h=>?_) (fun VB h=>?_)
 refine af<|fa rfl rfl<|lV rfl rfl rfl<|fa rfl rfl<|lV rfl rfl rfl<|bE h fun wI FE h=>cl (wS FE) ⟨rfl,rfl,trivial⟩<|mv rfl<|bE h fun Qu pq h=>?_
 cases wI
 obtain rfl:=O (F pq)
 refine ww<|ww<|ww<|ww<|ww<|pF rfl<|mv rfl<|bE h fun agw Iu h=>?_
 obtain rfl:=O (F Iu)
 exact ww<|ww<|ww<|ww<|ww<|ww<|pF rfl<|ag rfl<|dn<|⟨false,h,wR []⟩
 refine RT.fieldAddr (.some rfl rfl) rfl T rfl<|RT.kV (.some rfl rfl) rfl rfl rfl T<|RT.fieldAddr (.some rfl rfl) rfl T rfl<|RT.kV (.some rfl rfl) rfl rfl rfl T<|bE (V pq) fun tg zY pq=>gc (wS zY) ⟨rfl,rfl,trivial⟩ ?_
 obtain rfl:=O pq
 refine pT rfl<|mv rfl<|bE h fun agx rH h=>?_
 cases tg
 obtain rfl:=O (F rH)
 exact ww<|ww<|ww<|ww<|ww<|ww<|pF rfl<|ag rfl<|dn<|⟨false,h,wR []⟩
 refine RT.fieldAddr (.some rfl rfl) rfl T rfl<|RT.kV (.some rfl rfl) rfl rfl rfl T<|RT.fieldAddr (.some rfl rfl) rfl T rfl<|RT.kV (.some rfl rfl) rfl rfl rfl T<|bE (V rH) fun DZ GW rH=>gc (yT GW) ⟨rfl,rfl,trivial⟩<|lE rH fun yq JZ rH=>Wp _ rfl rfl (Bb (p:=DZ) (q:=0) JZ) ?_
 obtain rfl:=O rH
 exact pT rfl<|ag rfl<|dn<|⟨yq,h,wR []⟩
 try dsimp only
 refine ae.n<|aj ?_
 obtain rfl:=O h
 exact R1 rfl
 refine cT<|sr<|ag rfl<|dn<|aj<|ae.r ?_
 obtain rfl:=O (V h)
 exact R1 rfl
theorem mu{x0:List (List Qr)}{r:Bool}(h:fo x0=some r):Pure Tryz.prog 74 [slc 1 (List.map (eS 4 eQ) x0)] (.v (.bool r)):=by
 refine ah Tryz.func74 rfl (Nat.le_of_ble_eq_true rfl) (fun b9 M vs hvs=>?_)
 unfold fo at h
 refine sr<|ag rfl<|dn<|qq<|sr<|ag rfl<|dn<|bE h fun e6 xj jh=>?_
 refine aL (fun(Cm:Unit)=>AS.bw 26 [] [] []) (fun Cm=>.inl Cm=e6) ?_ (fun Cm xk=>?_)
 refine aq ?_
 refine aM xj (fun s6=>AS.bw 26 [(0,.sv (slc 1 (List.map (eS 4 eQ) x0))),(3,.sv (.v (.int .i64 s6)))] [] []) (wR []) (fun kn y6 G6 h xl sx=>?_)
 try dsimp only
 refine qq<|sr<|mv rfl<|mv rfl<|lE h fun x6 h6 h=>ln rfl h6<|lE h fun x7 h7 h=>ls _ rfl rfl h7<|dn ?_
 cases x7
 refine cF<|aS<|ae.x<|ae.x<|aD.x<|ae.n ?_
 obtain rfl:=O (F h)
 exact⟨(),sx _ rfl,wR []⟩
 refine cT<|aC<|ae.n<|qq<|aq<|qq<|ai mixed<|mv rfl<|mv rfl<|bE (V h) fun bV dH h=>ix rfl rfl dH<|lr rfl rfl<|mv rfl<|mv rfl<|bE h fun dz gZ h=>ix rfl rfl gZ<|lr rfl rfl<|mv rfl<|mv rfl<|bE h fun ik nF h=>ix rfl rfl nF<|lr rfl rfl<|lE h fun fu kM h=>ln rfl kM<|bE h fun fy kN h=>cl (iN kN) ⟨rfl,rfl,trivial⟩ ?_
 refine bE h fun eI mI h=>cl (AY mI) ⟨rfl,rfl,trivial⟩<|lE h fun gC lS h=>nt rfl _ lS ?_
 refine RT.done ⟨by kernel_rfl,?_⟩
 refine ae.n ?_
 cases gC
 refine cF<|aC<|aD.n<|ae.n<|af<|mv rfl<|lE (F h) fun x9 h9 h=>ad _ rfl rfl h9<|ag rfl<|RT.done ?_
 obtain rfl:=O h
 exact ae.n ⟨x9,xl _ rfl,wR []⟩
 refine cT<|sr<|ag rfl<|dn<|aj<|aD.r<|ae.r ?_
 obtain rfl:=O (V h)
 have JX:=sx _ rfl
 subst JX
 refine ae.r<|aD.r<|ae.r<|ae.r ?_
 obtain rfl:=O jh
 exact R1 rfl
 subst xk
 try dsimp only
 refine ae.n<|sr<|ag rfl<|dn<|aj ?_
 obtain rfl:=O jh
 exact R1 rfl
theorem qI{x0:Lr}{x1:Lr}{r:Bool}(h:dQ x0 x1=some r):Pure Tryz.prog 26 [.agg (qO x0),.agg (qO x1)] (.v (.bool r)):=by
 obtain⟨az,aA,aE,aF⟩:=x0
 obtain⟨aZ,aY,cI,cJ⟩:=x1
 refine ah Tryz.func26 rfl (Nat.le_of_ble_eq_true rfl) (fun b9 M vs hvs=>?_)
 unfold dQ at h
 refine sr<|bx rfl<|bx rfl<|ag rfl<|dn<|qq<|qq ?_
 refine aH h (fun j3=>AS.bw 35 [(2,.ptr 2 0),(3,.ptr 3 0),(16,.sv (.v (.bool j3)))] [(3,⟨26,[.sv (.v (.int .i64 aZ)),.sv (slc 1 (List.map (eS 4 eQ) aY)),.sv (slc 1 (List.map (eS 4 eQ) cI)),.sv (slc 4 (List.map eQ cJ))]⟩),(2,⟨26,[.sv (.v (.int .i64 az)),.sv (slc 1 (List.map (eS 4 eQ) aA)),.sv (slc 1 (List.map (eS 4 eQ) aE)),.sv (slc 4 (List.map eQ aF))]⟩)] []) (fun h=>?_) (fun Qw h=>?_)
 refine af<|ld rfl rfl (.cons rfl (.cons rfl (.cons rfl (.cons rfl (.nil)))))<|ld rfl rfl (.cons rfl (.cons rfl (.cons rfl (.cons rfl (.nil)))))<|bE h fun x7 h7 h=>cl (Ef h7) ⟨rfl,rfl,trivial⟩<|lE h fun x8 h8 h=>nt rfl _ h8<|mv rfl<|bE h fun Qy qf h=>?_
 cases x8
 refine RT.fieldAddr (.some rfl rfl) rfl T rfl<|RT.kV (.some rfl rfl) rfl rfl rfl T<|RT.fieldAddr (.some rfl rfl) rfl T rfl<|RT.kV (.some rfl rfl) rfl rfl rfl T<|bE (F qf) fun cG fT qf=>gc (AY fT) ⟨rfl,rfl,trivial⟩<|lE qf fun cE fS qf=>gt_ rfl _ fS ?_
 obtain rfl:=O qf
 exact pF rfl<|dn<|⟨cE,h,wR []⟩
 obtain rfl:=O (V qf)
 exact ww<|ww<|ww<|ww<|ww<|ww<|pT rfl<|dn<|⟨true,h,wR []⟩
 try dsimp only
 refine ae.n ?_
 cases Qw
 refine fs<|qq ?_
 refine aH (F h) (fun Ck=>AS.bw 35 [(4,.sv (.v (.bool Ck)))] [] []) (fun h=>?_) (fun VC h=>?_)
 refine af<|fa rfl rfl<|lV rfl rfl rfl<|bE h fun iC kp h=>cl (mu kp) ⟨rfl,trivial⟩<|mv rfl<|bE h fun Qx bZ h=>?_
 cases iC
 obtain rfl:=O (F bZ)
 refine ww<|ww<|ww<|pF rfl<|mv rfl<|bE h fun agy rH h=>?_
 obtain rfl:=O (F rH)
 refine ww<|ww<|ww<|pF rfl<|mv rfl<|bE h fun agz Iu h=>?_
 obtain rfl:=O (F Iu)
 exact ww<|ww<|ww<|pF rfl<|ag rfl<|dn<|⟨false,h,wR []⟩
 refine RT.fieldAddr (.some rfl rfl) rfl T rfl<|RT.kV (.some rfl rfl) rfl rfl rfl T<|bE (V bZ) fun fy kN bZ=>gc (mu kN) ⟨rfl,trivial⟩ ?_
 obtain rfl:=O bZ
 refine pT rfl<|mv rfl<|bE h fun agA SG h=>?_
 cases fy
 obtain rfl:=O (F SG)
 refine ww<|ww<|ww<|pF rfl<|mv rfl<|bE h fun agB pq h=>?_
 obtain rfl:=O (F pq)
 exact ww<|ww<|ww<|pF rfl<|ag rfl<|dn<|⟨false,h,wR []⟩
 refine RT.fieldAddr (.some rfl rfl) rfl T rfl<|RT.kV (.some rfl rfl) rfl rfl rfl T<|bE (V SG) fun jr o9 SG=>gc (mu o9) ⟨rfl,trivial⟩ ?_
 obtain rfl:=O SG
 refine pT rfl<|mv rfl<|bE h fun agC xC h=>?_
 cases jr
 obtain rfl:=O (F xC)
 exact ww<|ww<|ww<|pF rfl<|ag rfl<|dn<|⟨false,h,wR []⟩
 refine RT.fieldAddr (.some rfl rfl) rfl T rfl<|RT.kV (.some rfl rfl) rfl rfl rfl T<|bE (V xC) fun lI th xC=>gc (mu th) ⟨rfl,trivial⟩ ?_
 obtain rfl:=O xC
 exact pT rfl<|ag rfl<|dn<|⟨lI,h,wR []⟩
 try dsimp only
 refine ae.n<|aj ?_
 obtain rfl:=O h
 exact R1 rfl
 refine cT<|sr<|ag rfl<|dn<|aj<|ae.r ?_
 obtain rfl:=O (V h)
 exact R1 rfl
end Go.Proofs.YtfoldppidpmchaaGreat
namespace Go.Proofs.YtfoldppidpmchaaGreat
open Go.Fw
noncomputable def mw(x0:List Zr):Option (Bool):=(bk (fun(kn:Int)=>(show Option ((Int)⊕((Unit)⊕(Bool)))from(some (x0.length:Int)).bind fun x6=>(some (decide ((kn:Int)<x6))).bind fun x7=>(bif x7 then(bR x0 kn).bind fun⟨jA,ji⟩=>(some (ji.length:Int)).bind fun cE=>(some (decide ((12:Int)<cE))).bind fun dz=>(bif dz then some (.inr (.inr true))else(some (IntKind.i64.wrap (kn+1))).bind fun x9=>some (.inl x9))else some (.inr (.inl ()))))) 0).bind fun e6=>match e6 with|.inr v6=>some v6|.inl _=>some false
end Go.Proofs.YtfoldppidpmchaaGreat
namespace Go.Proofs.YtfoldppidpmchaaGreat
open Go.Fw Go.Fw.Z Go.RowKit
theorem Eg{x0:List Zr}{r:Bool}(h:mw x0=some r):Pure Tryz.prog 68 [slc 2 (List.map eZ x0)] (.v (.bool r)):=by
 refine ah Tryz.func68 rfl (Nat.le_of_ble_eq_true rfl) (fun b9 M vs hvs=>?_)
 unfold mw at h
 refine sr<|ag rfl<|dn<|qq<|sr<|ag rfl<|dn<|bE h fun e6 xj jh=>?_
 refine aL (fun(Cm:Unit)=>AS.bw 17 [] [] []) (fun Cm=>.inl Cm=e6) ?_ (fun Cm xk=>?_)
 refine aq ?_
 refine aM xj (fun s6=>AS.bw 17 [(0,.sv (slc 2 (List.map eZ x0))),(3,.sv (.v (.int .i64 s6)))] [] []) (wR []) (fun kn y6 G6 h xl sx=>?_)
 try dsimp only
 refine qq<|sr<|mv rfl<|mv rfl<|lE h fun x6 h6 h=>ln rfl h6<|lE h fun x7 h7 h=>ls _ rfl rfl h7<|dn ?_
 cases x7
 refine cF<|aS<|ae.x<|ae.x<|aD.x<|ae.n ?_
 obtain rfl:=O (F h)
 exact⟨(),sx _ rfl,wR []⟩
 refine cT<|aC<|ae.n<|qq<|aq<|sr<|mv rfl<|mv rfl ?_
 obtain⟨⟨jA,ji⟩,dH,h⟩:=bS (V h)
 refine ix rfl rfl dH<|RT.fH .none rfl T rfl<|lr rfl rfl<|lE h fun cE fS h=>ln rfl fS<|lE h fun dz gZ h=>gt _ rfl rfl gZ<|dn ?_
 cases dz
 refine cF<|aC<|aD.n<|ae.n<|af<|mv rfl<|lE (F h) fun x9 h9 h=>ad _ rfl rfl h9<|ag rfl<|RT.done ?_
 obtain rfl:=O h
 exact ae.n ⟨x9,xl _ rfl,wR []⟩
 refine cT<|sr<|ag rfl<|dn<|aj<|aD.r<|ae.r ?_
 obtain rfl:=O (V h)
 have JX:=sx _ rfl
 subst JX
 refine ae.r<|aD.r<|ae.r<|ae.r ?_
 obtain rfl:=O jh
 exact R1 rfl
 subst xk
 try dsimp only
 refine ae.n<|sr<|ag rfl<|dn<|aj ?_
 obtain rfl:=O jh
 exact R1 rfl
end Go.Proofs.YtfoldppidpmchaaGreat
namespace Go.Proofs.YtfoldppidpmchaaGreat
open Go.Fw
noncomputable def jZ(x0:List Qr):Option (Bool):=(bk (fun(wm:Int)=>(show Option ((Int)⊕((Unit)⊕(Bool)))from(some (x0.length:Int)).bind fun x6=>(some (decide ((wm:Int)<x6))).bind fun x7=>(bif x7 then bD (fun(Ko:Bool)=>(bif Ko then some (.inr (.inr true))else(some (IntKind.i64.wrap (wm+1))).bind fun x9=>some (.inl x9))) fun K22=>(bR x0 wm).bind fun⟨⟨jA,ji⟩,⟨Pd,Pe⟩⟩=>(bR x0 wm).bind fun⟨⟨nH,nI⟩,⟨tv,tw⟩⟩=>(mw [⟨jA,ji⟩,⟨tv,tw⟩]).bind fun eH=>(bif eH then some true else(bR x0 wm).bind fun⟨⟨qo,o7⟩,⟨C4,C5⟩⟩=>(some (o7.length:Int)).bind fun fQ=>(some (decide ((6:Int)<fQ))).bind fun uf=>some uf).bind fun QA=>(bif QA then some true else(bR x0 wm).bind fun⟨⟨LQ,LR⟩,⟨LS,IE⟩⟩=>(some (IE.length:Int)).bind fun nB=>(some (decide ((6:Int)<nB))).bind fun nA=>some nA).bind fun XN=>K22 XN else some (.inr (.inl ()))))) 0).bind fun IA=>match IA with|.inr fP=>some fP|.inl _=>some false
end Go.Proofs.YtfoldppidpmchaaGreat
namespace Go.Proofs.YtfoldppidpmchaaGreat
open Go.Fw Go.Fw.Z Go.RowKit
theorem wU{x0:List Qr}{r:Bool}(h:jZ x0=some r):Pure Tryz.prog 24 [slc 4 (List.map eQ x0)] (.v (.bool r)):=by
 refine ah Tryz.func24 rfl (Nat.le_of_ble_eq_true rfl) (fun b9 M vs hvs=>?_)
 unfold jZ at h
 refine sr<|ag rfl<|dn<|qq<|sr<|ag rfl<|dn<|bE h fun IA Ab vc=>?_
 refine aL (fun(wj:Unit)=>AS.bw 42 [] [] []) (fun wj=>.inl wj=IA) ?_ (fun wj xG=>?_)
 refine aq ?_
 refine aM Ab (fun uZ=>AS.bw 42 [(0,.sv (slc 4 (List.map eQ x0))),(3,.sv (.v (.int .i64 uZ)))] [] []) (wR []) (fun wm y16 G16 h C1 Ad=>?_)
 try dsimp only
 refine qq<|sr<|mv rfl<|mv rfl<|lE h fun x6 h6 h=>ln rfl h6<|lE h fun x7 h7 h=>ls _ rfl rfl h7<|dn ?_
 cases x7
 refine cF<|aS<|ae.x<|ae.x<|aD.x<|ae.n ?_
 obtain rfl:=O (F h)
 exact⟨(),Ad _ rfl,wR []⟩
 refine cT<|aC<|ae.n<|qq<|aq<|qq ?_
 refine aH (V h) (fun j22=>AS.bw 42 [(0,.sv (slc 4 (List.map eQ x0))),(3,.sv (.v (.int .i64 wm))),(41,.sv (.v (.bool j22)))] [] []) (fun h=>?_) (fun Ko h=>?_)
 refine ai mixed<|mv rfl<|mv rfl ?_
 obtain⟨⟨⟨jA,ji⟩,⟨Pd,Pe⟩⟩,dH,h⟩:=bS h
 refine ix rfl rfl dH<|RT.fH .none rfl T rfl<|RT.nv (cs:=[_,_]) .none rfl T rfl rfl<|mv rfl<|mv rfl ?_
 obtain⟨⟨⟨nH,nI⟩,⟨tv,tw⟩⟩,jd,h⟩:=bS h
 refine ix rfl rfl jd<|RT.fH .none rfl T rfl<|RT.nv (cs:=[_,_]) .none rfl T rfl rfl<|bl (l:=[⟨jA,ji⟩,⟨tv,tw⟩]) (e:=eZ) (.agg rfl (.agg rfl (.nil))) rfl rfl rfl rfl rfl rfl<|bE h fun eH jT h=>cl (Eg jT) ⟨rfl,trivial⟩<|mv rfl<|bE h fun QA ig h=>?_
 cases eH
 refine gm rfl<|gm rfl ?_
 obtain⟨⟨⟨qo,o7⟩,⟨C4,C5⟩⟩,lS,ig⟩:=bS (F ig)
 refine RT.T8 (.some rfl rfl) rfl rfl T lS<|RT.fH (.some rfl rfl) rfl T rfl<|RT.fH (.some rfl rfl) rfl T rfl<|gr rfl rfl<|lE ig fun fQ lJ ig=>gn rfl lJ<|lE ig fun uf zX ig=>gg _ rfl rfl zX ?_
 obtain rfl:=O ig
 refine pF rfl<|mv rfl<|bE h fun agD nQ h=>?_
 cases uf
 refine gm rfl<|gm rfl ?_
 obtain⟨⟨⟨LQ,LR⟩,⟨LS,IE⟩⟩,xm,nQ⟩:=bS (F nQ)
 refine RT.T8 (.some rfl rfl) rfl rfl T xm<|RT.fH (.some rfl rfl) rfl T rfl<|RT.fH (.some rfl rfl) rfl T rfl<|gr rfl rfl<|lE nQ fun nB xp nQ=>gn rfl xp<|lE nQ fun nA tO nQ=>gg _ rfl rfl tO ?_
 obtain rfl:=O nQ
 refine pF rfl ?_
 refine RT.done ⟨by kernel_rfl,?_⟩
 exact ae.n<|⟨nA,h,wR []⟩
 obtain rfl:=O (V nQ)
 refine ww<|ww<|ww<|ww<|ww<|ww<|ww<|ww<|pT rfl ?_
 refine RT.done ⟨by kernel_rfl,?_⟩
 exact ae.n<|⟨true,h,wR []⟩
 obtain rfl:=O (V ig)
 refine ww<|ww<|ww<|ww<|ww<|ww<|ww<|ww<|pT rfl<|mv rfl<|bE h fun agE Bo h=>?_
 obtain rfl:=O (V Bo)
 refine ww<|ww<|ww<|ww<|ww<|ww<|ww<|ww<|pT rfl ?_
 refine RT.done ⟨by kernel_rfl,?_⟩
 exact ae.n<|⟨true,h,wR []⟩
 try dsimp only
 refine ae.n ?_
 cases Ko
 refine cF<|aC<|aD.n<|ae.n<|af<|mv rfl<|lE (F h) fun x9 h9 h=>ad _ rfl rfl h9<|ag rfl<|RT.done ?_
 obtain rfl:=O h
 exact ae.n ⟨x9,C1 _ rfl,wR []⟩
 refine cT<|sr<|ag rfl<|dn<|aj<|aD.r<|ae.r ?_
 obtain rfl:=O (V h)
 have XO:=Ad _ rfl
 subst XO
 refine ae.r<|aD.r<|ae.r<|ae.r ?_
 obtain rfl:=O vc
 exact R1 rfl
 subst xG
 try dsimp only
 refine ae.n<|sr<|ag rfl<|dn<|aj ?_
 obtain rfl:=O vc
 exact R1 rfl
end Go.Proofs.YtfoldppidpmchaaGreat
namespace Go.Proofs.YtfoldppidpmchaaGreat
open Go.Fw
noncomputable def iO(x0:List (List Qr)):Option (Bool):=(bk (fun(yN:Int)=>(show Option ((Int)⊕((Unit)⊕(Bool)))from(some (x0.length:Int)).bind fun x6=>(some (decide ((yN:Int)<x6))).bind fun x7=>(bif x7 then bD (fun(Kp:Bool)=>(bif Kp then some (.inr (.inr true))else(some (IntKind.i64.wrap (yN+1))).bind fun x9=>some (.inl x9))) fun Ce=>(bR x0 yN).bind fun bV=>(some (bV.length:Int)).bind fun cG=>(some (decide ((20:Int)<cG))).bind fun cE=>(bif cE then some true else(bR x0 yN).bind fun iC=>(jZ iC).bind fun eH=>some eH).bind fun QB=>Ce QB else some (.inr (.inl ()))))) 0).bind fun Bd=>match Bd with|.inr v10=>some v10|.inl _=>some false
noncomputable def j0(x0:List (List (List Qr))):Option (Bool):=(bk (fun(wm:Int)=>(show Option ((Int)⊕((Unit)⊕(Bool)))from(some (x0.length:Int)).bind fun x6=>(some (decide ((wm:Int)<x6))).bind fun x7=>(bif x7 then bD (fun(Kq:Bool)=>(bif Kq then some (.inr (.inr true))else(some (IntKind.i64.wrap (wm+1))).bind fun x9=>some (.inl x9))) fun K22=>(bR x0 wm).bind fun bV=>(some (bV.length:Int)).bind fun cG=>(some (decide ((8:Int)<cG))).bind fun cE=>(bif cE then some true else(bR x0 wm).bind fun iC=>(eU iC).bind fun eH=>(some (decide ((8:Int)<eH))).bind fun fu=>some fu).bind fun QC=>(bif QC then some true else(bR x0 wm).bind fun fF=>(iO fF).bind fun fQ=>some fQ).bind fun XP=>K22 XP else some (.inr (.inl ()))))) 0).bind fun IA=>match IA with|.inr fP=>some fP|.inl _=>some false
noncomputable def nm:Option (Lr):=(ez [[3,5]]).bind fun x3=>(ez [[1,0],[0,2],[3,2]]).bind fun x8=>(cK [4,12,18]).bind fun cn=>some ⟨2,x3,x8,cn⟩
noncomputable def gH:Option (Bool):=(nm).bind fun⟨qV,qW,xH,xI⟩=>(jV ⟨qV,qW,xH,xI⟩).bind fun⟨⟨Gq,Gr,Gs,Gt⟩,Nd⟩=>(ez [[(-4),(-12),(-18)]]).bind fun cE=>(ez [[(-1),0,(-3)],[0,(-2),(-2)]]).bind fun iC=>(cK [(-3),(-5)]).bind fun eH=>(cK [2,6]).bind fun eI=>(pN 3 2).bind fun⟨⟨qB,qC⟩,⟨qD,qE⟩⟩=>(iv 1).bind fun⟨⟨yz,wJ⟩,⟨L5,L6⟩⟩=>bD (fun(VD:Bool)=>some VD) fun K36=>(iJ ⟨qV,qW,xH,xI⟩).bind fun uf=>(bif uf then(iX ⟨qV,qW,xH,xI⟩ eI).bind fun oA=>some oA else some false).bind fun QD=>(bif QD then(ku ⟨qV,qW,xH,xI⟩ eI).bind fun nB=>(cK [36]).bind fun wI=>(fg nB wI).bind fun rV=>some rV else some false).bind fun XQ=>(bif XQ then(pJ ⟨qV,qW,xH,xI⟩ eI).bind fun tg=>(cK [2,0,0]).bind fun ZO=>(fg tg ZO).bind fun xb=>some xb else some false).bind fun XR=>(bif XR then(some (decide ((Nd:Int)=0))).bind fun DZ=>some DZ else some false).bind fun QE=>(bif QE then(pK ⟨Gq,Gr,Gs,Gt⟩ ⟨3,cE,iC,eH⟩).bind fun Lu=>some Lu else some false).bind fun XS=>(bif XS then(iX ⟨Gq,Gr,Gs,Gt⟩ [⟨⟨false,[]⟩,⟨false,[]⟩⟩,⟨⟨qB,qC⟩,⟨qD,qE⟩⟩,⟨⟨yz,wJ⟩,⟨L5,L6⟩⟩]).bind fun XT=>some XT else some false).bind fun XU=>(bif XU then(ku ⟨Gq,Gr,Gs,Gt⟩ [⟨⟨false,[]⟩,⟨false,[]⟩⟩,⟨⟨qB,qC⟩,⟨qD,qE⟩⟩,⟨⟨yz,wJ⟩,⟨L5,L6⟩⟩]).bind fun YT=>(cK [(-36)]).bind fun x71=>(fg YT x71).bind fun OT=>some OT else some false).bind fun XV=>K36 XV
noncomputable def my(x0:List (List Qr)):Option (Bool):=(bk (fun(kn:Int)=>(show Option ((Int)⊕((Unit)⊕(Bool)))from(some (x0.length:Int)).bind fun x6=>(some (decide ((kn:Int)<x6))).bind fun x7=>(bif x7 then(bR x0 kn).bind fun bV=>(some (bV.length:Int)).bind fun cG=>(some (decide ((0:Int)<cG))).bind fun cE=>(bif cE then some (.inr (.inr false))else(some (IntKind.i64.wrap (kn+1))).bind fun x9=>some (.inl x9))else some (.inr (.inl ()))))) 0).bind fun e6=>match e6 with|.inr v6=>some v6|.inl _=>some true
noncomputable def n5(x0:List Qr):Option (List Qr):=(some (x0.length:Int)).bind fun x5=>(some (min (x5:Int) 20)).bind fun x6=>(vX x0 0 x6).bind fun x7=>some x7
noncomputable def mz(x0:Lr):Option (Bool):=match x0 with|⟨az,aA,aE,aF⟩=>bD (fun(VE:Bool)=>some VE) fun K59=>(some (aA.length:Int)).bind fun x5=>(some (decide ((6:Int)<x5))).bind fun x6=>(bif x6 then some true else(some (aE.length:Int)).bind fun cn=>(some (decide ((140:Int)<cn))).bind fun eE=>some eE).bind fun QF=>(bif QF then some true else(some (aF.length:Int)).bind fun dz=>(some (decide ((140:Int)<dz))).bind fun cX=>some cX).bind fun SH=>(bif SH then some true else(some (aE.length:Int)).bind fun fu=>(some (decide ((8:Int)<fu))).bind fun fy=>(bif fy then(my aE).bind fun fF=>(some (!fF)).bind fun jr=>some jr else some false).bind fun SI=>some SI).bind fun SJ=>(bif SJ then some true else(some (aE.length:Int)).bind fun oA=>(some (decide ((oA:Int)≤8))).bind fun oB=>(bif oB then(j0 [aE]).bind fun nA=>some nA else some false).bind fun SK=>some SK).bind fun SL=>(bif SL then some true else(j0 [aA]).bind fun tg=>some tg).bind fun SM=>(bif SM then some true else(n5 aF).bind fun xS=>(iO [xS]).bind fun DZ=>some DZ).bind fun SN=>K59 SN
noncomputable def eW(x0:Lr)(x1:Int)(x2:List Qr)(x3:Qr):Option (Bool):=match x0 with|⟨az,aA,aE,aF⟩=>match x3 with|⟨⟨mM,mN⟩,⟨vh,vi⟩⟩=>bD (fun(QG:Bool)=>(bif QG then(gH).bind fun gC=>some gC else(jV ⟨az,aA,aE,aF⟩).bind fun⟨⟨sy,sB,Kr,Ks⟩,XW⟩=>(gw ⟨az,aA,aE,aF⟩).bind fun⟨⟨Kt,Ku,Kv,Kw⟩,M8⟩=>bD (fun(QH:Bool)=>(bif QH then some false else(cf ⟨az,aA,aE,aF⟩ x1).bind fun⟨⟨Kx,Ky,Kz,KA⟩,XX⟩=>(gx ⟨az,aA,aE,aF⟩ x1).bind fun⟨⟨KB,KC,KD,KE⟩,XY⟩=>bD (fun(KF:Bool)=>(bif KF then some false else(dP ⟨az,aA,aE,aF⟩ x2 ⟨⟨mM,mN⟩,⟨vh,vi⟩⟩).bind fun⟨⟨KG,KH,KI,KJ⟩,XZ⟩=>(eV ⟨az,aA,aE,aF⟩ x2 ⟨⟨mM,mN⟩,⟨vh,vi⟩⟩).bind fun⟨⟨KK,KL,KM,KN⟩,X0⟩=>bD (fun(KO:Bool)=>(bif KO then some false else(fC ⟨az,aA,aE,aF⟩ x2 ⟨⟨mM,mN⟩,⟨vh,vi⟩⟩).bind fun⟨⟨QI,QJ,QK,QL⟩,X1⟩=>(gG ⟨az,aA,aE,aF⟩ x2 ⟨⟨mM,mN⟩,⟨vh,vi⟩⟩).bind fun⟨⟨L7,L8,L9,Ma⟩,QM⟩=>bD (fun(VF:Bool)=>some VF) fun K21=>(dQ ⟨QI,QJ,QK,QL⟩ ⟨L7,L8,L9,Ma⟩).bind fun DX=>(bif DX then(some (decide ((X1:Int)=QM))).bind fun X2=>some X2 else some false).bind fun Mb=>(bif Mb then(gH).bind fun M7=>some M7 else some false).bind fun SO=>K21 SO)) fun K15=>(dQ ⟨KG,KH,KI,KJ⟩ ⟨KK,KL,KM,KN⟩).bind fun x82=>(some (!x82)).bind fun x83=>(bif x83 then some true else(some (decide ((XZ:Int)≠X0))).bind fun Wx=>some Wx).bind fun QN=>K15 QN)) fun K12=>(dQ ⟨Kx,Ky,Kz,KA⟩ ⟨KB,KC,KD,KE⟩).bind fun Lu=>(some (!Lu)).bind fun DV=>(bif DV then some true else(some (decide ((XX:Int)≠XY))).bind fun XT=>some XT).bind fun QO=>K12 QO)) fun K9=>(dQ ⟨sy,sB,Kr,Ks⟩ ⟨Kt,Ku,Kv,Kw⟩).bind fun wH=>(some (!wH)).bind fun nB=>(bif nB then some true else(some (decide ((XW:Int)≠M8))).bind fun zQ=>some zQ).bind fun QS=>K9 QS)) fun K6=>(mz ⟨az,aA,aE,aF⟩).bind fun cG=>(bif cG then some true else(iO [x2]).bind fun c6=>some c6).bind fun QT=>(bif QT then some true else(jZ [⟨⟨mM,mN⟩,⟨vh,vi⟩⟩]).bind fun fy=>some fy).bind fun X3=>K6 X3
end Go.Proofs.YtfoldppidpmchaaGreat
namespace Go.Proofs.YtfoldppidpmchaaGreat
open Go.Fw Go.Fw.Z Go.RowKit
theorem ja{x0:List (List Qr)}{r:Bool}(h:iO x0=some r):Pure Tryz.prog 18 [slc 1 (List.map (eS 4 eQ) x0)] (.v (.bool r)):=by
 refine ah Tryz.func18 rfl (Nat.le_of_ble_eq_true rfl) (fun b9 M vs hvs=>?_)
 unfold iO at h
 refine sr<|ag rfl<|dn<|qq<|sr<|ag rfl<|dn<|bE h fun Bd sq mL=>?_
 refine aL (fun(C7:Unit)=>AS.bw 23 [] [] []) (fun C7=>.inl C7=Bd) ?_ (fun C7 su=>?_)
 refine aq ?_
 refine aM sq (fun qc=>AS.bw 23 [(0,.sv (slc 1 (List.map (eS 4 eQ) x0))),(3,.sv (.v (.int .i64 qc)))] [] []) (wR []) (fun yN Su Sv h sw o8=>?_)
 try dsimp only
 refine qq<|sr<|mv rfl<|mv rfl<|lE h fun x6 h6 h=>ln rfl h6<|lE h fun x7 h7 h=>ls _ rfl rfl h7<|dn ?_
 cases x7
 refine cF<|aS<|ae.x<|ae.x<|aD.x<|ae.n ?_
 obtain rfl:=O (F h)
 exact⟨(),o8 _ rfl,wR []⟩
 refine cT<|aC<|ae.n<|qq<|aq<|qq ?_
 refine aH (V h) (fun Ck=>AS.bw 23 [(0,.sv (slc 1 (List.map (eS 4 eQ) x0))),(3,.sv (.v (.int .i64 yN))),(22,.sv (.v (.bool Ck)))] [] []) (fun h=>?_) (fun Kp h=>?_)
 refine af<|mv rfl<|mv rfl<|bE h fun bV dH h=>ix rfl rfl dH<|lr rfl rfl<|lE h fun cG fT h=>ln rfl fT<|lE h fun cE fS h=>gt _ rfl rfl fS<|mv rfl<|bE h fun QB bZ h=>?_
 cases cE
 refine gm rfl<|gm rfl<|bE (F bZ) fun iC kp bZ=>RT.T8 (.some rfl rfl) rfl rfl T kp<|gr rfl rfl<|bE bZ fun eH jT bZ=>gc (wU jT) ⟨rfl,trivial⟩ ?_
 obtain rfl:=O bZ
 exact pF rfl<|dn<|⟨eH,h,wR []⟩
 obtain rfl:=O (V bZ)
 exact ww<|ww<|ww<|ww<|ww<|pT rfl<|dn<|⟨true,h,wR []⟩
 try dsimp only
 refine ae.n ?_
 cases Kp
 refine cF<|aC<|aD.n<|ae.n<|af<|mv rfl<|lE (F h) fun x9 h9 h=>ad _ rfl rfl h9<|ag rfl<|RT.done ?_
 obtain rfl:=O h
 exact ae.n ⟨x9,sw _ rfl,wR []⟩
 refine cT<|sr<|ag rfl<|dn<|aj<|aD.r<|ae.r ?_
 obtain rfl:=O (V h)
 have Qb:=o8 _ rfl
 subst Qb
 refine ae.r<|aD.r<|ae.r<|ae.r ?_
 obtain rfl:=O mL
 exact R1 rfl
 subst su
 try dsimp only
 refine ae.n<|sr<|ag rfl<|dn<|aj ?_
 obtain rfl:=O mL
 exact R1 rfl
theorem jb{x0:List (List (List Qr))}{r:Bool}(h:j0 x0=some r):Pure Tryz.prog 45 [slc 1 (List.map (eS 1 (eS 4 eQ)) x0)] (.v (.bool r)):=by
 refine ah Tryz.func45 rfl (Nat.le_of_ble_eq_true rfl) (fun b9 M vs hvs=>?_)
 unfold j0 at h
 refine sr<|ag rfl<|dn<|qq<|sr<|ag rfl<|dn<|bE h fun IA Ab vc=>?_
 refine aL (fun(wj:Unit)=>AS.bw 31 [] [] []) (fun wj=>.inl wj=IA) ?_ (fun wj xG=>?_)
 refine aq ?_
 refine aM Ab (fun uZ=>AS.bw 31 [(0,.sv (slc 1 (List.map (eS 1 (eS 4 eQ)) x0))),(3,.sv (.v (.int .i64 uZ)))] [] []) (wR []) (fun wm y16 G16 h C1 Ad=>?_)
 try dsimp only
 refine qq<|sr<|mv rfl<|mv rfl<|lE h fun x6 h6 h=>ln rfl h6<|lE h fun x7 h7 h=>ls _ rfl rfl h7<|dn ?_
 cases x7
 refine cF<|aS<|ae.x<|ae.x<|aD.x<|ae.n ?_
 obtain rfl:=O (F h)
 exact⟨(),Ad _ rfl,wR []⟩
 refine cT<|aC<|ae.n<|qq<|aq<|qq ?_
 refine aH (V h) (fun j22=>AS.bw 31 [(0,.sv (slc 1 (List.map (eS 1 (eS 4 eQ)) x0))),(3,.sv (.v (.int .i64 wm))),(30,.sv (.v (.bool j22)))] [] []) (fun h=>?_) (fun Kq h=>?_)
 refine af<|mv rfl<|mv rfl<|bE h fun bV dH h=>ix rfl rfl dH<|lr rfl rfl<|lE h fun cG fT h=>ln rfl fT<|lE h fun cE fS h=>gt _ rfl rfl fS<|mv rfl<|bE h fun QC ig h=>?_
 cases cE
 refine gm rfl<|gm rfl<|bE (F ig) fun iC kp ig=>RT.T8 (.some rfl rfl) rfl rfl T kp<|gr rfl rfl<|bE ig fun eH jT ig=>gc (kA jT) ⟨rfl,trivial⟩<|lE ig fun fu kM ig=>gg _ rfl rfl kM ?_
 obtain rfl:=O ig
 refine pF rfl<|mv rfl<|bE h fun agG nQ h=>?_
 cases fu
 refine gm rfl<|gm rfl<|bE (F nQ) fun fF mR nQ=>RT.T8 (.some rfl rfl) rfl rfl T mR<|gr rfl rfl<|bE nQ fun fQ lJ nQ=>gc (ja lJ) ⟨rfl,trivial⟩ ?_
 obtain rfl:=O nQ
 exact pF rfl<|dn<|⟨fQ,h,wR []⟩
 obtain rfl:=O (V nQ)
 exact ww<|ww<|ww<|ww<|ww<|pT rfl<|dn<|⟨true,h,wR []⟩
 obtain rfl:=O (V ig)
 refine ww<|ww<|ww<|ww<|ww<|ww<|pT rfl<|mv rfl<|bE h fun agH Bo h=>?_
 obtain rfl:=O (V Bo)
 exact ww<|ww<|ww<|ww<|ww<|pT rfl<|dn<|⟨true,h,wR []⟩
 try dsimp only
 refine ae.n ?_
 cases Kq
 refine cF<|aC<|aD.n<|ae.n<|af<|mv rfl<|lE (F h) fun x9 h9 h=>ad _ rfl rfl h9<|ag rfl<|RT.done ?_
 obtain rfl:=O h
 exact ae.n ⟨x9,C1 _ rfl,wR []⟩
 refine cT<|sr<|ag rfl<|dn<|aj<|aD.r<|ae.r ?_
 obtain rfl:=O (V h)
 have XO:=Ad _ rfl
 subst XO
 refine ae.r<|aD.r<|ae.r<|ae.r ?_
 obtain rfl:=O vc
 exact R1 rfl
 subst xG
 try dsimp only
 refine ae.n<|sr<|ag rfl<|dn<|aj ?_
 obtain rfl:=O vc
 exact R1 rfl
theorem Dg{r:Lr}(h:nm=some r):Pure Tryz.prog 40 [] (.agg (qO r)):=by
 refine ah Tryz.func40 rfl (Nat.le_of_ble_eq_true rfl) (fun b9 M vs hvs=>?_)
 unfold nm at h
 refine sr<|al (cs:=[.v (.int .i64 0),slc 1 (List.map (eS 4 eQ) []),slc 1 (List.map (eS 4 eQ) []),slc 4 (List.map eQ [])]) (by exact⟨SV.aa _,imp_nil,imp_nil,imp_nil,trivial⟩) rfl<|dn<|sr<|bl (l:=[3,5]) (e:=aV) (.one rfl (.one rfl (.nil))) rfl rfl rfl rfl rfl rfl<|bl (l:=[[3,5]]) (e:=(eS 1 aV)) (.one rfl (.nil)) rfl rfl rfl rfl rfl rfl<|bE h fun x3 h3 h=>cl (kF h3) ⟨rfl,trivial⟩<|bl (l:=[1,0]) (e:=aV) (.one rfl (.one rfl (.nil))) rfl rfl rfl rfl rfl rfl ?_
 refine bl (l:=[0,2]) (e:=aV) (.one rfl (.one rfl (.nil))) rfl rfl rfl rfl rfl rfl<|bl (l:=[3,2]) (e:=aV) (.one rfl (.one rfl (.nil))) rfl rfl rfl rfl rfl rfl<|bl (l:=[[1,0],[0,2],[3,2]]) (e:=(eS 1 aV)) (.one rfl (.one rfl (.one rfl (.nil)))) rfl rfl rfl rfl rfl rfl<|bE h fun x8 h8 h=>cl (kF h8) ⟨rfl,trivial⟩<|bl (l:=[4,12,18]) (e:=aV) (.one rfl (.one rfl (.one rfl (.nil)))) rfl rfl rfl rfl rfl rfl<|bE h fun cn ep h=>cl (eM ep) ⟨rfl,trivial⟩ ?_
 refine bI (cs:=[_,_,_,_]) (cs':=[.v (.int .i64 2),slc 1 (List.map (eS 4 eQ) x3),slc 1 (List.map (eS 4 eQ) x8),slc 4 (List.map eQ cn)]) (.one rfl (.one rfl (.one rfl (.one rfl (.nil))))) ⟨SV.aa _,SV.aa _,SV.aa _,SV.aa _,trivial⟩<|so rfl rfl rfl<|dn<|aj ?_
 obtain rfl:=O h
 exact RZ (.agg rfl rfl (.cons rfl (.cons rfl (.cons rfl (.cons rfl (.nil))))) rfl (.nil))
set_option maxHeartbeats 4000000 in
theorem vm{r:Bool}(h:gH=some r):Pure Tryz.prog 9 [] (.v (.bool r)):=by
 refine ah Tryz.func9 rfl (Nat.le_of_ble_eq_true rfl) (fun b9 M vs hvs=>?_)
 unfold gH at h
 refine sr<|ag rfl<|dn<|sr ?_
 obtain⟨⟨qV,qW,xH,xI⟩,h7,h⟩:=bS h
 refine cl (Dg h7) trivial<|al (cs:=[.v (.int .i64 0),slc 1 (List.map (eS 4 eQ) []),slc 1 (List.map (eS 4 eQ) []),slc 4 (List.map eQ [])]) (by exact⟨SV.aa _,imp_nil,imp_nil,imp_nil,trivial⟩) rfl<|so rfl rfl rfl<|dn<|sr<|ld rfl rfl (.cons rfl (.cons rfl (.cons rfl (.cons rfl (.nil))))) ?_
 obtain⟨⟨⟨Gq,Gr,Gs,Gt⟩,Nd⟩,ep,h⟩:=bS h
 refine cl (CS ep) ⟨rfl,trivial⟩<|mv rfl<|ex rfl rfl<|ex rfl rfl<|al (cs:=[.v (.int .i64 0),slc 1 (List.map (eS 4 eQ) []),slc 1 (List.map (eS 4 eQ) []),slc 4 (List.map eQ [])]) (by exact⟨SV.aa _,imp_nil,imp_nil,imp_nil,trivial⟩) rfl<|so rfl rfl rfl<|ag rfl<|dn<|sr<|bl (l:=[(-4),(-12),(-18)]) (e:=aV) (.one rfl (.one rfl (.one rfl (.nil)))) rfl rfl rfl rfl rfl rfl<|bl (l:=[[(-4),(-12),(-18)]]) (e:=(eS 1 aV)) (.one rfl (.nil)) rfl rfl rfl rfl rfl rfl ?_
 refine bE h fun cE fS h=>cl (kF fS) ⟨rfl,trivial⟩<|bl (l:=[(-1),0,(-3)]) (e:=aV) (.one rfl (.one rfl (.one rfl (.nil)))) rfl rfl rfl rfl rfl rfl<|bl (l:=[0,(-2),(-2)]) (e:=aV) (.one rfl (.one rfl (.one rfl (.nil)))) rfl rfl rfl rfl rfl rfl<|bl (l:=[[(-1),0,(-3)],[0,(-2),(-2)]]) (e:=(eS 1 aV)) (.one rfl (.one rfl (.nil))) rfl rfl rfl rfl rfl rfl<|bE h fun iC kp h=>cl (kF kp) ⟨rfl,trivial⟩<|bl (l:=[(-3),(-5)]) (e:=aV) (.one rfl (.one rfl (.nil))) rfl rfl rfl rfl rfl rfl ?_
 refine bE h fun eH jT h=>cl (eM jT) ⟨rfl,trivial⟩<|bI (cs:=[_,_,_,_]) (cs':=[.v (.int .i64 3),slc 1 (List.map (eS 4 eQ) cE),slc 1 (List.map (eS 4 eQ) iC),slc 4 (List.map eQ eH)]) (.one rfl (.one rfl (.one rfl (.one rfl (.nil))))) ⟨SV.aa _,SV.aa _,SV.aa _,SV.aa _,trivial⟩<|al (cs:=[.v (.int .i64 0),slc 1 (List.map (eS 4 eQ) []),slc 1 (List.map (eS 4 eQ) []),slc 4 (List.map eQ [])]) (by exact⟨SV.aa _,imp_nil,imp_nil,imp_nil,trivial⟩) rfl<|so rfl rfl rfl ?_
 refine dn<|sr<|bl (l:=[2,6]) (e:=aV) (.one rfl (.one rfl (.nil))) rfl rfl rfl rfl rfl rfl<|bE h fun eI mI h=>cl (eM mI) ⟨rfl,trivial⟩<|bI (cs:=[_,_,_,_]) (cs':=[.v (.bool false),slc 1 (List.map ak []),.v (.bool false),slc 1 (List.map ak [])]) (.nil) ⟨SV.aa _,imp_nil,SV.aa _,imp_nil,trivial⟩ ?_
 obtain⟨⟨⟨qB,qC⟩,⟨qD,qE⟩⟩,mY,h⟩:=bS h
 refine cl (ID mY) ⟨rfl,rfl,trivial⟩ ?_
 obtain⟨⟨⟨yz,wJ⟩,⟨L5,L6⟩⟩,mR,h⟩:=bS h
 refine cl (oL mR) ⟨rfl,trivial⟩<|bl (l:=[⟨⟨false,[]⟩,⟨false,[]⟩⟩,⟨⟨qB,qC⟩,⟨qD,qE⟩⟩,⟨⟨yz,wJ⟩,⟨L5,L6⟩⟩]) (e:=eQ) (.agg rfl (.agg rfl (.agg rfl (.nil)))) rfl rfl rfl rfl rfl rfl<|ag rfl<|ag rfl<|dn<|qq ?_
 refine aH h (fun j36=>AS.bw 74 [(0,.sv (.v (.bool j36)))] [] []) (fun h=>?_) (fun VD h=>?_)
 refine af<|ld rfl rfl (.cons rfl (.cons rfl (.cons rfl (.cons rfl (.nil)))))<|bE h fun uf zX h=>cl (nP zX) ⟨rfl,trivial⟩<|mv rfl<|bE h fun QD xq h=>?_
 cases uf
 obtain rfl:=O (F xq)
 refine ww<|ww<|ww<|pF rfl<|mv rfl<|bE h fun agI IB h=>?_
 obtain rfl:=O (F IB)
 refine ww<|ww<|ww<|ww<|ww<|ww<|pF rfl<|mv rfl<|bE h fun agJ IP h=>?_
 obtain rfl:=O (F IP)
 refine ww<|ww<|ww<|ww<|ww<|ww<|pF rfl<|mv rfl<|bE h fun agK IQ h=>?_
 obtain rfl:=O (F IQ)
 refine ww<|ww<|pF rfl<|mv rfl<|bE h fun agL Dh h=>?_
 obtain rfl:=O (F Dh)
 refine ww<|ww<|ww<|pF rfl<|mv rfl<|bE h fun agM IS h=>?_
 obtain rfl:=O (F IS)
 refine ww<|ww<|ww<|pF rfl<|mv rfl<|bE h fun agN Di h=>?_
 obtain rfl:=O (F Di)
 exact ww<|ww<|ww<|ww<|ww<|ww<|pF rfl<|ag rfl<|dn<|⟨false,h,wR []⟩
 refine gl rfl rfl (.cons rfl (.cons rfl (.cons rfl (.cons rfl (.nil)))))<|gm rfl<|bE (V xq) fun oA tK xq=>gc (uX tK) ⟨rfl,rfl,trivial⟩ ?_
 obtain rfl:=O xq
 refine pT rfl<|mv rfl<|bE h fun agO uM h=>?_
 cases oA
 obtain rfl:=O (F uM)
 refine ww<|ww<|ww<|ww<|ww<|ww<|pF rfl<|mv rfl<|bE h fun agP agQ h=>?_
 obtain rfl:=O (F agQ)
 refine ww<|ww<|ww<|ww<|ww<|ww<|pF rfl<|mv rfl<|bE h fun agR agS h=>?_
 obtain rfl:=O (F agS)
 refine ww<|ww<|pF rfl<|mv rfl<|bE h fun agT agU h=>?_
 obtain rfl:=O (F agU)
 refine ww<|ww<|ww<|pF rfl<|mv rfl<|bE h fun agV agW h=>?_
 obtain rfl:=O (F agW)
 refine ww<|ww<|ww<|pF rfl<|mv rfl<|bE h fun agX agY h=>?_
 obtain rfl:=O (F agY)
 exact ww<|ww<|ww<|ww<|ww<|ww<|pF rfl<|ag rfl<|dn<|⟨false,h,wR []⟩
 refine gl rfl rfl (.cons rfl (.cons rfl (.cons rfl (.cons rfl (.nil)))))<|gm rfl<|bE (V uM) fun nB xp uM=>gc (uY xp) ⟨rfl,rfl,trivial⟩<|RT.gK (l:=[36]) (e:=aV) (.some rfl rfl) (.one rfl (.nil)) T rfl rfl rfl rfl rfl rfl<|bE uM fun wI FE uM=>gc (eM FE) ⟨rfl,trivial⟩<|bE uM fun rV D0 uM=>gc (l6 D0) ⟨rfl,rfl,trivial⟩ ?_
 obtain rfl:=O uM
 refine pT rfl<|mv rfl<|bE h fun agZ yF h=>?_
 cases rV
 obtain rfl:=O (F yF)
 refine ww<|ww<|ww<|ww<|ww<|ww<|pF rfl<|mv rfl<|bE h fun ag0 ag1 h=>?_
 obtain rfl:=O (F ag1)
 refine ww<|ww<|pF rfl<|mv rfl<|bE h fun ag2 ag3 h=>?_
 obtain rfl:=O (F ag3)
 refine ww<|ww<|ww<|pF rfl<|mv rfl<|bE h fun ag4 ag5 h=>?_
 obtain rfl:=O (F ag5)
 refine ww<|ww<|ww<|pF rfl<|mv rfl<|bE h fun ag6 ag7 h=>?_
 obtain rfl:=O (F ag7)
 exact ww<|ww<|ww<|ww<|ww<|ww<|pF rfl<|ag rfl<|dn<|⟨false,h,wR []⟩
 refine gl rfl rfl (.cons rfl (.cons rfl (.cons rfl (.cons rfl (.nil)))))<|gm rfl<|bE (V yF) fun tg zY yF=>gc (Iv zY) ⟨rfl,rfl,trivial⟩<|RT.gK (l:=[2,0,0]) (e:=aV) (.some rfl rfl) (.one rfl (.one rfl (.one rfl (.nil)))) T rfl rfl rfl rfl rfl rfl<|bE yF fun ZO WN yF=>gc (eM WN) ⟨rfl,trivial⟩<|bE yF fun xb HM yF=>gc (l6 HM) ⟨rfl,rfl,trivial⟩ ?_
 obtain rfl:=O yF
 refine pT rfl<|mv rfl<|bE h fun ag8 HW h=>?_
 cases xb
 obtain rfl:=O (F HW)
 refine ww<|ww<|pF rfl<|mv rfl<|bE h fun ag9 aha h=>?_
 obtain rfl:=O (F aha)
 refine ww<|ww<|ww<|pF rfl<|mv rfl<|bE h fun ahb ahc h=>?_
 obtain rfl:=O (F ahc)
 refine ww<|ww<|ww<|pF rfl<|mv rfl<|bE h fun ahd ahe h=>?_
 obtain rfl:=O (F ahe)
 exact ww<|ww<|ww<|ww<|ww<|ww<|pF rfl<|ag rfl<|dn<|⟨false,h,wR []⟩
 refine gm rfl<|lE (V HW) fun DZ GW HW=>Wp _ rfl rfl (Bb (p:=Nd) (q:=0) GW) ?_
 obtain rfl:=O HW
 refine pT rfl<|mv rfl<|bE h fun ahf Ng h=>?_
 cases DZ
 obtain rfl:=O (F Ng)
 refine ww<|ww<|ww<|pF rfl<|mv rfl<|bE h fun ahg ahh h=>?_
 obtain rfl:=O (F ahh)
 refine ww<|ww<|ww<|pF rfl<|mv rfl<|bE h fun ahi ahj h=>?_
 obtain rfl:=O (F ahj)
 exact ww<|ww<|ww<|ww<|ww<|ww<|pF rfl<|ag rfl<|dn<|⟨false,h,wR []⟩
 refine gl rfl rfl (.cons rfl (.cons rfl (.cons rfl (.cons rfl (.nil)))))<|gl rfl rfl (.cons rfl (.cons rfl (.cons rfl (.cons rfl (.nil)))))<|bE (V Ng) fun Lu Sx Ng=>gc (Iw Sx) ⟨rfl,rfl,trivial⟩ ?_
 obtain rfl:=O Ng
 refine pT rfl<|mv rfl<|bE h fun ahk SP h=>?_
 cases Lu
 obtain rfl:=O (F SP)
 refine ww<|ww<|ww<|pF rfl<|mv rfl<|bE h fun ahl ahm h=>?_
 obtain rfl:=O (F ahm)
 exact ww<|ww<|ww<|ww<|ww<|ww<|pF rfl<|ag rfl<|dn<|⟨false,h,wR []⟩
 refine gl rfl rfl (.cons rfl (.cons rfl (.cons rfl (.cons rfl (.nil)))))<|gm rfl<|bE (V SP) fun XT Qz SP=>gc (uX Qz) ⟨rfl,rfl,trivial⟩ ?_
 obtain rfl:=O SP
 refine pT rfl<|mv rfl<|bE h fun ahn IT h=>?_
 cases XT
 obtain rfl:=O (F IT)
 exact ww<|ww<|ww<|ww<|ww<|ww<|pF rfl<|ag rfl<|dn<|⟨false,h,wR []⟩
 refine gl rfl rfl (.cons rfl (.cons rfl (.cons rfl (.cons rfl (.nil)))))<|gm rfl<|bE (V IT) fun YT h69 IT=>gc (uY h69) ⟨rfl,rfl,trivial⟩<|RT.gK (l:=[(-36)]) (e:=aV) (.some rfl rfl) (.one rfl (.nil)) T rfl rfl rfl rfl rfl rfl<|bE IT fun x71 h71 IT=>gc (eM h71) ⟨rfl,trivial⟩<|bE IT fun OT h72 IT=>gc (l6 h72) ⟨rfl,rfl,trivial⟩ ?_
 obtain rfl:=O IT
 exact pT rfl<|ag rfl<|dn<|⟨OT,h,wR []⟩
 try dsimp only
 refine ae.n<|aj ?_
 obtain rfl:=O h
 exact R1 rfl
theorem Eh{x0:List (List Qr)}{r:Bool}(h:my x0=some r):Pure Tryz.prog 44 [slc 1 (List.map (eS 4 eQ) x0)] (.v (.bool r)):=by
 refine ah Tryz.func44 rfl (Nat.le_of_ble_eq_true rfl) (fun b9 M vs hvs=>?_)
 unfold my at h
 refine sr<|ag rfl<|dn<|qq<|sr<|ag rfl<|dn<|bE h fun e6 xj jh=>?_
 refine aL (fun(Cm:Unit)=>AS.bw 16 [] [] []) (fun Cm=>.inl Cm=e6) ?_ (fun Cm xk=>?_)
 refine aq ?_
 refine aM xj (fun s6=>AS.bw 16 [(0,.sv (slc 1 (List.map (eS 4 eQ) x0))),(3,.sv (.v (.int .i64 s6)))] [] []) (wR []) (fun kn y6 G6 h xl sx=>?_)
 try dsimp only
 refine qq<|sr<|mv rfl<|mv rfl<|lE h fun x6 h6 h=>ln rfl h6<|lE h fun x7 h7 h=>ls _ rfl rfl h7<|dn ?_
 cases x7
 refine cF<|aS<|ae.x<|ae.x<|aD.x<|ae.n ?_
 obtain rfl:=O (F h)
 exact⟨(),sx _ rfl,wR []⟩
 refine cT<|aC<|ae.n<|qq<|aq<|sr<|mv rfl<|mv rfl<|bE (V h) fun bV dH h=>ix rfl rfl dH<|lr rfl rfl<|lE h fun cG fT h=>ln rfl fT<|lE h fun cE fS h=>gt _ rfl rfl fS<|dn ?_
 cases cE
 refine cF<|aC<|aD.n<|ae.n<|af<|mv rfl<|lE (F h) fun x9 h9 h=>ad _ rfl rfl h9<|ag rfl<|RT.done ?_
 obtain rfl:=O h
 exact ae.n ⟨x9,xl _ rfl,wR []⟩
 refine cT<|sr<|ag rfl<|dn<|aj<|aD.r<|ae.r ?_
 obtain rfl:=O (V h)
 have JX:=sx _ rfl
 subst JX
 refine ae.r<|aD.r<|ae.r<|ae.r ?_
 obtain rfl:=O jh
 exact R1 rfl
 subst xk
 try dsimp only
 refine ae.n<|sr<|ag rfl<|dn<|aj ?_
 obtain rfl:=O jh
 exact R1 rfl
theorem oR{x0:List Qr}{r:List Qr}(h:n5 x0=some r):Pure Tryz.prog 46 [slc 4 (List.map eQ x0)] (slc 4 (List.map eQ r)):=by
 refine ah Tryz.func46 rfl (Nat.le_of_ble_eq_true rfl) (fun b9 M vs hvs=>?_)
 unfold n5 at h
 refine sr<|aI rfl (imp_nil (n:=4) (e:=eQ))<|dn<|sr<|mv rfl<|mv rfl<|lE h fun x5 h5 h=>ln rfl h5<|lE h fun x6 h6 h=>RT.min .none _ rfl rfl T (MW (p:=x5) (q:=20) h6)<|bE h fun x7 h7 h=>RT.ua .none 0 x6 rfl rfl ⟨_,rfl⟩ T h7<|ag rfl<|dn<|aj ?_
 obtain rfl:=O h
 exact R1 rfl
set_option maxHeartbeats 4000000 in
theorem Ei{x0:Lr}{r:Bool}(h:mz x0=some r):Pure Tryz.prog 10 [.agg (qO x0)] (.v (.bool r)):=by
 obtain⟨az,aA,aE,aF⟩:=x0
 refine ah Tryz.func10 rfl (Nat.le_of_ble_eq_true rfl) (fun b9 M vs hvs=>?_)
 unfold mz at h
 refine sr<|bx rfl<|ag rfl<|dn<|qq ?_
 refine aH h (fun j59=>AS.bw 56 [(2,.sv (.v (.bool j59)))] [] []) (fun h=>?_) (fun VE h=>?_)
 refine af<|fa rfl rfl<|lV rfl rfl rfl<|lE h fun x5 h5 h=>ln rfl h5<|lE h fun x6 h6 h=>gt _ rfl rfl h6<|mv rfl<|bE h fun QF IP h=>?_
 cases x6
 refine RT.fieldAddr (.some rfl rfl) rfl T rfl<|RT.kV (.some rfl rfl) rfl rfl rfl T<|lE (F IP) fun cn ep IP=>gn rfl ep<|lE IP fun eE jS IP=>gg _ rfl rfl jS ?_
 obtain rfl:=O IP
 refine pF rfl<|mv rfl<|bE h fun aho IQ h=>?_
 cases eE
 refine RT.fieldAddr (.some rfl rfl) rfl T rfl<|RT.kV (.some rfl rfl) rfl rfl rfl T<|lE (F IQ) fun dz gZ IQ=>gn rfl gZ<|lE IQ fun cX jd IQ=>gg _ rfl rfl jd ?_
 obtain rfl:=O IQ
 refine pF rfl<|mv rfl<|bE h fun ahp Dh h=>?_
 cases cX
 refine RT.fieldAddr (.some rfl rfl) rfl T rfl<|RT.kV (.some rfl rfl) rfl rfl rfl T<|lE (F Dh) fun fu kM Dh=>gn rfl kM<|lE Dh fun fy kN Dh=>gg _ rfl rfl kN<|gm rfl<|bE Dh fun ahq IS Dh=>?_
 cases fy
 obtain rfl:=O (F IS)
 refine ww<|ww<|ww<|ww<|gF rfl ?_
 obtain rfl:=O Dh
 refine pF rfl<|mv rfl<|bE h fun ahr IU h=>RT.fieldAddr (.some rfl rfl) rfl T rfl<|RT.kV (.some rfl rfl) rfl rfl rfl T<|lE (F IU) fun oA tK IU=>gn rfl tK<|lE IU fun oB xm IU=>RT.leq (.some rfl rfl) _ rfl rfl T xm<|gm rfl<|bE IU fun ahs SQ IU=>?_
 cases oB
 obtain rfl:=O (F SQ)
 refine ww<|ww<|ww<|ww<|gF rfl ?_
 obtain rfl:=O IU
 refine pF rfl<|mv rfl<|bE h fun aht X5 h=>RT.fieldAddr (.some rfl rfl) rfl T rfl<|RT.kV (.some rfl rfl) rfl rfl rfl T<|RT.gK (l:=[aA]) (e:=(eS 1 (eS 4 eQ))) (.some rfl rfl) (.one rfl (.nil)) T rfl rfl rfl rfl rfl rfl<|bE (F X5) fun tg zY X5=>gc (jb zY) ⟨rfl,trivial⟩ ?_
 obtain rfl:=O X5
 refine pF rfl<|mv rfl<|bE h fun ahu Nr h=>?_
 cases tg
 refine RT.fieldAddr (.some rfl rfl) rfl T rfl<|RT.kV (.some rfl rfl) rfl rfl rfl T<|bE (F Nr) fun xS Be Nr=>gc (oR Be) ⟨rfl,trivial⟩<|RT.gK (l:=[xS]) (e:=(eS 4 eQ)) (.some rfl rfl) (.one rfl (.nil)) T rfl rfl rfl rfl rfl rfl<|bE Nr fun DZ GW Nr=>gc (ja GW) ⟨rfl,trivial⟩ ?_
 obtain rfl:=O Nr
 exact pF rfl<|ag rfl<|dn<|⟨DZ,h,wR []⟩
 obtain rfl:=O (V Nr)
 exact ww<|ww<|ww<|ww<|ww<|pT rfl<|ag rfl<|dn<|⟨true,h,wR []⟩
 refine RT.fieldAddr (.some rfl rfl) rfl T rfl<|RT.kV (.some rfl rfl) rfl rfl rfl T<|RT.gK (l:=[aE]) (e:=(eS 1 (eS 4 eQ))) (.some rfl rfl) (.one rfl (.nil)) T rfl rfl rfl rfl rfl rfl<|bE (V SQ) fun nA tO SQ=>gc (jb tO) ⟨rfl,trivial⟩ ?_
 obtain rfl:=O SQ
 refine gT rfl ?_
 obtain rfl:=O IU
 refine pF rfl<|mv rfl<|bE h fun ahv SR h=>?_
 cases nA
 refine RT.fieldAddr (.some rfl rfl) rfl T rfl<|RT.kV (.some rfl rfl) rfl rfl rfl T<|RT.gK (l:=[aA]) (e:=(eS 1 (eS 4 eQ))) (.some rfl rfl) (.one rfl (.nil)) T rfl rfl rfl rfl rfl rfl<|bE (F SR) fun tg zY SR=>gc (jb zY) ⟨rfl,trivial⟩ ?_
 obtain rfl:=O SR
 refine pF rfl<|mv rfl<|bE h fun ahw Ns h=>?_
 cases tg
 refine RT.fieldAddr (.some rfl rfl) rfl T rfl<|RT.kV (.some rfl rfl) rfl rfl rfl T<|bE (F Ns) fun xS Be Ns=>gc (oR Be) ⟨rfl,trivial⟩<|RT.gK (l:=[xS]) (e:=(eS 4 eQ)) (.some rfl rfl) (.one rfl (.nil)) T rfl rfl rfl rfl rfl rfl<|bE Ns fun DZ GW Ns=>gc (ja GW) ⟨rfl,trivial⟩ ?_
 obtain rfl:=O Ns
 exact pF rfl<|ag rfl<|dn<|⟨DZ,h,wR []⟩
 obtain rfl:=O (V Ns)
 exact ww<|ww<|ww<|ww<|ww<|pT rfl<|ag rfl<|dn<|⟨true,h,wR []⟩
 obtain rfl:=O (V SR)
 refine ww<|ww<|ww<|ww<|pT rfl<|mv rfl<|bE h fun ahx ahy h=>?_
 obtain rfl:=O (V ahy)
 exact ww<|ww<|ww<|ww<|ww<|pT rfl<|ag rfl<|dn<|⟨true,h,wR []⟩
 refine RT.fieldAddr (.some rfl rfl) rfl T rfl<|RT.kV (.some rfl rfl) rfl rfl rfl T<|bE (V IS) fun fF mR IS=>gc (Eh mR) ⟨rfl,trivial⟩<|lE IS fun jr o9 IS=>gt_ rfl _ o9 ?_
 obtain rfl:=O IS
 refine gT rfl ?_
 obtain rfl:=O Dh
 refine pF rfl<|mv rfl<|bE h fun ahz Di h=>?_
 cases jr
 refine RT.fieldAddr (.some rfl rfl) rfl T rfl<|RT.kV (.some rfl rfl) rfl rfl rfl T<|lE (F Di) fun oA tK Di=>gn rfl tK<|lE Di fun oB xm Di=>RT.leq (.some rfl rfl) _ rfl rfl T xm<|gm rfl<|bE Di fun ahA SS Di=>?_
 cases oB
 obtain rfl:=O (F SS)
 refine ww<|ww<|ww<|ww<|gF rfl ?_
 obtain rfl:=O Di
 refine pF rfl<|mv rfl<|bE h fun ahB X6 h=>RT.fieldAddr (.some rfl rfl) rfl T rfl<|RT.kV (.some rfl rfl) rfl rfl rfl T<|RT.gK (l:=[aA]) (e:=(eS 1 (eS 4 eQ))) (.some rfl rfl) (.one rfl (.nil)) T rfl rfl rfl rfl rfl rfl<|bE (F X6) fun tg zY X6=>gc (jb zY) ⟨rfl,trivial⟩ ?_
 obtain rfl:=O X6
 refine pF rfl<|mv rfl<|bE h fun ahC Nt h=>?_
 cases tg
 refine RT.fieldAddr (.some rfl rfl) rfl T rfl<|RT.kV (.some rfl rfl) rfl rfl rfl T<|bE (F Nt) fun xS Be Nt=>gc (oR Be) ⟨rfl,trivial⟩<|RT.gK (l:=[xS]) (e:=(eS 4 eQ)) (.some rfl rfl) (.one rfl (.nil)) T rfl rfl rfl rfl rfl rfl<|bE Nt fun DZ GW Nt=>gc (ja GW) ⟨rfl,trivial⟩ ?_
 obtain rfl:=O Nt
 exact pF rfl<|ag rfl<|dn<|⟨DZ,h,wR []⟩
 obtain rfl:=O (V Nt)
 exact ww<|ww<|ww<|ww<|ww<|pT rfl<|ag rfl<|dn<|⟨true,h,wR []⟩
 refine RT.fieldAddr (.some rfl rfl) rfl T rfl<|RT.kV (.some rfl rfl) rfl rfl rfl T<|RT.gK (l:=[aE]) (e:=(eS 1 (eS 4 eQ))) (.some rfl rfl) (.one rfl (.nil)) T rfl rfl rfl rfl rfl rfl<|bE (V SS) fun nA tO SS=>gc (jb tO) ⟨rfl,trivial⟩ ?_
 obtain rfl:=O SS
 refine gT rfl ?_
 obtain rfl:=O Di
 refine pF rfl<|mv rfl<|bE h fun ahD SU h=>?_
 cases nA
 refine RT.fieldAddr (.some rfl rfl) rfl T rfl<|RT.kV (.some rfl rfl) rfl rfl rfl T<|RT.gK (l:=[aA]) (e:=(eS 1 (eS 4 eQ))) (.some rfl rfl) (.one rfl (.nil)) T rfl rfl rfl rfl rfl rfl<|bE (F SU) fun tg zY SU=>gc (jb zY) ⟨rfl,trivial⟩ ?_
 obtain rfl:=O SU
 refine pF rfl<|mv rfl<|bE h fun QE Nu h=>?_
 cases tg
 refine RT.fieldAddr (.some rfl rfl) rfl T rfl<|RT.kV (.some rfl rfl) rfl rfl rfl T<|bE (F Nu) fun xS Be Nu=>gc (oR Be) ⟨rfl,trivial⟩<|RT.gK (l:=[xS]) (e:=(eS 4 eQ)) (.some rfl rfl) (.one rfl (.nil)) T rfl rfl rfl rfl rfl rfl<|bE Nu fun DZ GW Nu=>gc (ja GW) ⟨rfl,trivial⟩ ?_
 obtain rfl:=O Nu
 exact pF rfl<|ag rfl<|dn<|⟨DZ,h,wR []⟩
 obtain rfl:=O (V Nu)
 exact ww<|ww<|ww<|ww<|ww<|pT rfl<|ag rfl<|dn<|⟨true,h,wR []⟩
 obtain rfl:=O (V SU)
 refine ww<|ww<|ww<|ww<|pT rfl<|mv rfl<|bE h fun ahE ahF h=>?_
 obtain rfl:=O (V ahF)
 exact ww<|ww<|ww<|ww<|ww<|pT rfl<|ag rfl<|dn<|⟨true,h,wR []⟩
 obtain rfl:=O (V Di)
 refine ww<|ww<|ww<|ww<|ww<|wu<|wu<|wu<|wu<|ww<|pT rfl<|mv rfl<|bE h fun ahG ahH h=>?_
 obtain rfl:=O (V ahH)
 refine ww<|ww<|ww<|ww<|pT rfl<|mv rfl<|bE h fun ahI ahJ h=>?_
 obtain rfl:=O (V ahJ)
 exact ww<|ww<|ww<|ww<|ww<|pT rfl<|ag rfl<|dn<|⟨true,h,wR []⟩
 obtain rfl:=O (V Dh)
 refine ww<|ww<|ww<|ww<|ww<|wu<|wu<|wu<|wu<|ww<|pT rfl<|mv rfl<|bE h fun ahK ahL h=>?_
 obtain rfl:=O (V ahL)
 refine ww<|ww<|ww<|ww<|ww<|wu<|wu<|wu<|wu<|ww<|pT rfl<|mv rfl<|bE h fun ahM ahN h=>?_
 obtain rfl:=O (V ahN)
 refine ww<|ww<|ww<|ww<|pT rfl<|mv rfl<|bE h fun ab3 aaY h=>?_
 obtain rfl:=O (V aaY)
 exact ww<|ww<|ww<|ww<|ww<|pT rfl<|ag rfl<|dn<|⟨true,h,wR []⟩
 obtain rfl:=O (V IQ)
 refine ww<|ww<|ww<|ww<|pT rfl<|mv rfl<|bE h fun ab4 aaZ h=>?_
 obtain rfl:=O (V aaZ)
 refine ww<|ww<|ww<|ww<|ww<|wu<|wu<|wu<|wu<|ww<|pT rfl<|mv rfl<|bE h fun ab5 aa0 h=>?_
 obtain rfl:=O (V aa0)
 refine ww<|ww<|ww<|ww<|ww<|wu<|wu<|wu<|wu<|ww<|pT rfl<|mv rfl<|bE h fun ab6 aa1 h=>?_
 obtain rfl:=O (V aa1)
 refine ww<|ww<|ww<|ww<|pT rfl<|mv rfl<|bE h fun ab7 aa2 h=>?_
 obtain rfl:=O (V aa2)
 exact ww<|ww<|ww<|ww<|ww<|pT rfl<|ag rfl<|dn<|⟨true,h,wR []⟩
 obtain rfl:=O (V IP)
 refine ww<|ww<|ww<|ww<|pT rfl<|mv rfl<|bE h fun ab8 aa3 h=>?_
 obtain rfl:=O (V aa3)
 refine ww<|ww<|ww<|ww<|pT rfl<|mv rfl<|bE h fun ab9 aa4 h=>?_
 obtain rfl:=O (V aa4)
 refine ww<|ww<|ww<|ww<|ww<|wu<|wu<|wu<|wu<|ww<|pT rfl<|mv rfl<|bE h fun acd aa5 h=>?_
 obtain rfl:=O (V aa5)
 refine ww<|ww<|ww<|ww<|ww<|wu<|wu<|wu<|wu<|ww<|pT rfl<|mv rfl<|bE h fun ace aa6 h=>?_
 obtain rfl:=O (V aa6)
 refine ww<|ww<|ww<|ww<|pT rfl<|mv rfl<|bE h fun acf aa7 h=>?_
 obtain rfl:=O (V aa7)
 exact ww<|ww<|ww<|ww<|ww<|pT rfl<|ag rfl<|dn<|⟨true,h,wR []⟩
 try dsimp only
 refine ae.n<|aj ?_
 obtain rfl:=O h
 exact R1 rfl
end Go.Proofs.YtfoldppidpmchaaGreat
namespace Go.Proofs.YtfoldppidpmchaaGreat
open Go.Fw Go.Fw.Z Go.RowKit
set_option maxHeartbeats 4000000 in
theorem rN{x0:Lr}{x1:Int}{x2:List Qr}{x3:Qr}{r:Bool}(h:eW x0 x1 x2 x3=some r):Pure Tryz.prog 7 [.agg (qO x0),.v (.int .i64 x1),slc 4 (List.map eQ x2),.agg (eQ x3)] (.v (.bool r)):=by
 obtain⟨az,aA,aE,aF⟩:=x0
 obtain⟨⟨mM,mN⟩,⟨vh,vi⟩⟩:=x3
 refine ah Tryz.func7 rfl (Nat.le_of_ble_eq_true rfl) (fun b9 M vs hvs=>?_)
 unfold eW at h
 refine sr<|bx rfl<|bx rfl<|ag rfl<|dn<|qq<|qq ?_
 refine aH h (fun j6=>AS.bw 114 [(1,.sv (.v (.int .i64 x1))),(2,.sv (slc 4 (List.map eQ x2))),(4,.ptr 4 0),(7,.ptr 7 0),(24,.sv (.v (.bool j6)))] [(7,⟨36,[.sv (.v (.bool mM)),.sv (slc 1 (List.map ak mN)),.sv (.v (.bool vh)),.sv (slc 1 (List.map ak vi))]⟩),(4,⟨26,[.sv (.v (.int .i64 az)),.sv (slc 1 (List.map (eS 4 eQ) aA)),.sv (slc 1 (List.map (eS 4 eQ) aE)),.sv (slc 4 (List.map eQ aF))]⟩)] []) (fun h=>?_) (fun QG h=>?_)
 refine af<|ld rfl rfl (.cons rfl (.cons rfl (.cons rfl (.cons rfl (.nil)))))<|bE h fun cG fT h=>cl (Ei fT) ⟨rfl,trivial⟩<|mv rfl<|bE h fun QT pE h=>?_
 cases cG
 refine gm rfl<|RT.gK (l:=[x2]) (e:=(eS 4 eQ)) (.some rfl rfl) (.one rfl (.nil)) T rfl rfl rfl rfl rfl rfl<|bE (F pE) fun c6 iS pE=>gc (ja iS) ⟨rfl,trivial⟩ ?_
 obtain rfl:=O pE
 refine pF rfl<|mv rfl<|bE h fun ahO pG h=>?_
 cases c6
 refine gl rfl rfl (.cons rfl (.cons rfl (.cons rfl (.cons rfl (.nil)))))<|RT.gK (l:=[⟨⟨mM,mN⟩,⟨vh,vi⟩⟩]) (e:=eQ) (.some rfl rfl) (.agg rfl (.nil)) T rfl rfl rfl rfl rfl rfl<|bE (F pG) fun fy kN pG=>gc (wU kN) ⟨rfl,trivial⟩ ?_
 obtain rfl:=O pG
 exact pF rfl<|dn<|⟨fy,h,wR []⟩
 obtain rfl:=O (V pG)
 exact ww<|ww<|ww<|pT rfl<|dn<|⟨true,h,wR []⟩
 obtain rfl:=O (V pE)
 refine ww<|ww<|ww<|pT rfl<|mv rfl<|bE h fun ahP D2 h=>?_
 obtain rfl:=O (V D2)
 exact ww<|ww<|ww<|pT rfl<|dn<|⟨true,h,wR []⟩
 try dsimp only
 refine ae.n ?_
 cases QG
 refine fs<|sr<|ld rfl rfl (.cons rfl (.cons rfl (.cons rfl (.cons rfl (.nil))))) ?_
 obtain⟨⟨⟨sy,sB,Kr,Ks⟩,XW⟩,o9,h⟩:=bS (F h)
 refine cl (CS o9) ⟨rfl,trivial⟩<|mv rfl<|ex rfl rfl<|ex rfl rfl<|al (cs:=[.v (.int .i64 0),slc 1 (List.map (eS 4 eQ) []),slc 1 (List.map (eS 4 eQ) []),slc 4 (List.map eQ [])]) (by exact⟨SV.aa _,imp_nil,imp_nil,imp_nil,trivial⟩) rfl<|so rfl rfl rfl<|ag rfl<|dn<|sr<|ld rfl rfl (.cons rfl (.cons rfl (.cons rfl (.cons rfl (.nil))))) ?_
 obtain⟨⟨⟨Kt,Ku,Kv,Kw⟩,M8⟩,th,h⟩:=bS h
 refine cl (Eb th) ⟨rfl,trivial⟩<|mv rfl<|ex rfl rfl<|ex rfl rfl<|al (cs:=[.v (.int .i64 0),slc 1 (List.map (eS 4 eQ) []),slc 1 (List.map (eS 4 eQ) []),slc 4 (List.map eQ [])]) (by exact⟨SV.aa _,imp_nil,imp_nil,imp_nil,trivial⟩) rfl<|so rfl rfl rfl<|ag rfl<|dn<|qq<|qq ?_
 refine aH h (fun j9=>AS.bw 114 [(1,.sv (.v (.int .i64 x1))),(2,.sv (slc 4 (List.map eQ x2))),(4,.ptr 4 0),(7,.ptr 7 0),(9,.ptr 9 0),(11,.ptr 11 0),(44,.sv (.v (.bool j9)))] [(11,⟨26,[.sv (.v (.int .i64 Kt)),.sv (slc 1 (List.map (eS 4 eQ) Ku)),.sv (slc 1 (List.map (eS 4 eQ) Kv)),.sv (slc 4 (List.map eQ Kw))]⟩),(9,⟨26,[.sv (.v (.int .i64 sy)),.sv (slc 1 (List.map (eS 4 eQ) sB)),.sv (slc 1 (List.map (eS 4 eQ) Kr)),.sv (slc 4 (List.map eQ Ks))]⟩),(7,⟨36,[.sv (.v (.bool mM)),.sv (slc 1 (List.map ak mN)),.sv (.v (.bool vh)),.sv (slc 1 (List.map ak vi))]⟩),(4,⟨26,[.sv (.v (.int .i64 az)),.sv (slc 1 (List.map (eS 4 eQ) aA)),.sv (slc 1 (List.map (eS 4 eQ) aE)),.sv (slc 4 (List.map eQ aF))]⟩)] []) (fun h=>?_) (fun QH h=>?_)
 refine af<|ld rfl rfl (.cons rfl (.cons rfl (.cons rfl (.cons rfl (.nil)))))<|ld rfl rfl (.cons rfl (.cons rfl (.cons rfl (.cons rfl (.nil)))))<|bE h fun wH FD h=>cl (qI FD) ⟨rfl,rfl,trivial⟩<|lE h fun nB xp h=>nt rfl _ xp<|mv rfl<|bE h fun QS we h=>?_
 cases nB
 refine gm rfl<|gm rfl<|lE (F we) fun zQ Jt we=>gq _ rfl rfl (DJ (p:=XW) (q:=M8) Jt) ?_
 obtain rfl:=O we
 exact pF rfl<|dn<|⟨zQ,h,wR []⟩
 obtain rfl:=O (V we)
 exact ww<|ww<|ww<|pT rfl<|dn<|⟨true,h,wR []⟩
 try dsimp only
 refine ae.n ?_
 cases QH
 refine fs<|sr<|ld rfl rfl (.cons rfl (.cons rfl (.cons rfl (.cons rfl (.nil)))))<|mv rfl ?_
 obtain⟨⟨⟨Kx,Ky,Kz,KA⟩,XX⟩,h48,h⟩:=bS (F h)
 refine cl (tL h48) ⟨rfl,rfl,trivial⟩<|mv rfl<|ex rfl rfl<|ex rfl rfl<|so rfl rfl rfl<|ag rfl<|dn<|sr<|ld rfl rfl (.cons rfl (.cons rfl (.cons rfl (.cons rfl (.nil)))))<|mv rfl ?_
 obtain⟨⟨⟨KB,KC,KD,KE⟩,XY⟩,GW,h⟩:=bS h
 refine cl (Ec GW) ⟨rfl,rfl,trivial⟩<|mv rfl<|ex rfl rfl<|ex rfl rfl<|so rfl rfl rfl<|ag rfl<|dn<|qq<|qq ?_
 refine aH h (fun j12=>AS.bw 114 [(2,.sv (slc 4 (List.map eQ x2))),(4,.ptr 4 0),(7,.ptr 7 0),(9,.ptr 9 0),(11,.ptr 11 0),(65,.sv (.v (.bool j12)))] [(11,⟨26,[.sv (.v (.int .i64 KB)),.sv (slc 1 (List.map (eS 4 eQ) KC)),.sv (slc 1 (List.map (eS 4 eQ) KD)),.sv (slc 4 (List.map eQ KE))]⟩),(9,⟨26,[.sv (.v (.int .i64 Kx)),.sv (slc 1 (List.map (eS 4 eQ) Ky)),.sv (slc 1 (List.map (eS 4 eQ) Kz)),.sv (slc 4 (List.map eQ KA))]⟩),(7,⟨36,[.sv (.v (.bool mM)),.sv (slc 1 (List.map ak mN)),.sv (.v (.bool vh)),.sv (slc 1 (List.map ak vi))]⟩),(4,⟨26,[.sv (.v (.int .i64 az)),.sv (slc 1 (List.map (eS 4 eQ) aA)),.sv (slc 1 (List.map (eS 4 eQ) aE)),.sv (slc 4 (List.map eQ aF))]⟩)] []) (fun h=>?_) (fun KF h=>?_)
 refine af<|ld rfl rfl (.cons rfl (.cons rfl (.cons rfl (.cons rfl (.nil)))))<|ld rfl rfl (.cons rfl (.cons rfl (.cons rfl (.cons rfl (.nil)))))<|bE h fun Lu Sx h=>cl (qI Sx) ⟨rfl,rfl,trivial⟩<|lE h fun DV NQ h=>nt rfl _ NQ<|mv rfl<|bE h fun QO wc h=>?_
 cases DV
 refine gm rfl<|gm rfl<|lE (F wc) fun XT Qz wc=>gq _ rfl rfl (DJ (p:=XX) (q:=XY) Qz) ?_
 obtain rfl:=O wc
 exact pF rfl<|dn<|⟨XT,h,wR []⟩
 obtain rfl:=O (V wc)
 exact ww<|ww<|ww<|pT rfl<|dn<|⟨true,h,wR []⟩
 try dsimp only
 refine ae.n ?_
 cases KF
 refine fs<|sr<|ld rfl rfl (.cons rfl (.cons rfl (.cons rfl (.cons rfl (.nil)))))<|mv rfl<|ld rfl rfl (.cons rfl (.cons rfl (.cons rfl (.cons rfl (.nil))))) ?_
 obtain⟨⟨⟨KG,KH,KI,KJ⟩,XZ⟩,WU,h⟩:=bS (F h)
 refine cl (wh WU) ⟨rfl,rfl,rfl,trivial⟩<|mv rfl<|ex rfl rfl<|ex rfl rfl<|so rfl rfl rfl<|ag rfl<|dn<|sr<|ld rfl rfl (.cons rfl (.cons rfl (.cons rfl (.cons rfl (.nil)))))<|mv rfl<|ld rfl rfl (.cons rfl (.cons rfl (.cons rfl (.cons rfl (.nil))))) ?_
 obtain⟨⟨⟨KK,KL,KM,KN⟩,X0⟩,h77,h⟩:=bS h
 refine cl (qX h77) ⟨rfl,rfl,rfl,trivial⟩<|mv rfl<|ex rfl rfl<|ex rfl rfl<|so rfl rfl rfl<|ag rfl<|dn<|qq<|qq ?_
 refine aH h (fun j15=>AS.bw 114 [(2,.sv (slc 4 (List.map eQ x2))),(4,.ptr 4 0),(7,.ptr 7 0),(9,.ptr 9 0),(11,.ptr 11 0),(88,.sv (.v (.bool j15)))] [(11,⟨26,[.sv (.v (.int .i64 KK)),.sv (slc 1 (List.map (eS 4 eQ) KL)),.sv (slc 1 (List.map (eS 4 eQ) KM)),.sv (slc 4 (List.map eQ KN))]⟩),(9,⟨26,[.sv (.v (.int .i64 KG)),.sv (slc 1 (List.map (eS 4 eQ) KH)),.sv (slc 1 (List.map (eS 4 eQ) KI)),.sv (slc 4 (List.map eQ KJ))]⟩),(7,⟨36,[.sv (.v (.bool mM)),.sv (slc 1 (List.map ak mN)),.sv (.v (.bool vh)),.sv (slc 1 (List.map ak vi))]⟩),(4,⟨26,[.sv (.v (.int .i64 az)),.sv (slc 1 (List.map (eS 4 eQ) aA)),.sv (slc 1 (List.map (eS 4 eQ) aE)),.sv (slc 4 (List.map eQ aF))]⟩)] []) (fun h=>?_) (fun KO h=>?_)
 refine af<|ld rfl rfl (.cons rfl (.cons rfl (.cons rfl (.cons rfl (.nil)))))<|ld rfl rfl (.cons rfl (.cons rfl (.cons rfl (.cons rfl (.nil)))))<|bE h fun x82 h82 h=>cl (qI h82) ⟨rfl,rfl,trivial⟩<|lE h fun x83 h83 h=>nt rfl _ h83<|mv rfl<|bE h fun QN De h=>?_
 cases x83
 refine gm rfl<|gm rfl<|lE (F De) fun Wx h87 De=>gq _ rfl rfl (DJ (p:=XZ) (q:=X0) h87) ?_
 obtain rfl:=O De
 exact pF rfl<|dn<|⟨Wx,h,wR []⟩
 obtain rfl:=O (V De)
 exact ww<|ww<|ww<|pT rfl<|dn<|⟨true,h,wR []⟩
 try dsimp only
 refine ae.n ?_
 cases KO
 refine fs<|sr<|ld rfl rfl (.cons rfl (.cons rfl (.cons rfl (.cons rfl (.nil)))))<|mv rfl<|ld rfl rfl (.cons rfl (.cons rfl (.cons rfl (.cons rfl (.nil))))) ?_
 obtain⟨⟨⟨QI,QJ,QK,QL⟩,X1⟩,h93,h⟩:=bS (F h)
 refine cl (yM h93) ⟨rfl,rfl,rfl,trivial⟩<|mv rfl<|ex rfl rfl<|ex rfl rfl<|so rfl rfl rfl<|ag rfl<|dn<|sr<|ld rfl rfl (.cons rfl (.cons rfl (.cons rfl (.cons rfl (.nil)))))<|mv rfl<|ld rfl rfl (.cons rfl (.cons rfl (.cons rfl (.cons rfl (.nil))))) ?_
 obtain⟨⟨⟨L7,L8,L9,Ma⟩,QM⟩,ahQ,h⟩:=bS h
 refine cl (Df ahQ) ⟨rfl,rfl,rfl,trivial⟩<|mv rfl<|ex rfl rfl<|ex rfl rfl<|so rfl rfl rfl<|ag rfl<|dn<|qq ?_
 refine aH h (fun j21=>AS.bw 114 [(8,.sv (.v (.bool j21)))] [] []) (fun h=>?_) (fun VF h=>?_)
 refine af<|ld rfl rfl (.cons rfl (.cons rfl (.cons rfl (.cons rfl (.nil)))))<|ld rfl rfl (.cons rfl (.cons rfl (.cons rfl (.cons rfl (.nil)))))<|bE h fun DX O3 h=>cl (qI O3) ⟨rfl,rfl,trivial⟩<|mv rfl<|bE h fun Mb qf h=>?_
 cases DX
 obtain rfl:=O (F qf)
 refine ww<|ww<|ww<|pF rfl<|mv rfl<|bE h fun acg nQ h=>?_
 obtain rfl:=O (F nQ)
 exact ww<|pF rfl<|ag rfl<|dn<|⟨false,h,wR []⟩
 refine gm rfl<|gm rfl<|lE (V qf) fun X2 ahR qf=>Wp _ rfl rfl (Bb (p:=X1) (q:=QM) ahR) ?_
 obtain rfl:=O qf
 refine pT rfl<|mv rfl<|bE h fun ach ig h=>?_
 cases X2
 obtain rfl:=O (F ig)
 exact ww<|pF rfl<|ag rfl<|dn<|⟨false,h,wR []⟩
 refine bE (V ig) fun M7 WX ig=>gc (vm WX) trivial ?_
 obtain rfl:=O ig
 exact pT rfl<|ag rfl<|dn<|⟨M7,h,wR []⟩
 try dsimp only
 refine ae.n<|aj ?_
 obtain rfl:=O h
 exact R1 rfl
 refine cT<|sr<|ag rfl<|dn<|aj<|ae.r ?_
 obtain rfl:=O (V h)
 exact R1 rfl
 refine cT<|sr<|ag rfl<|dn<|aj<|ae.r ?_
 obtain rfl:=O (V h)
 exact R1 rfl
 refine cT<|sr<|ag rfl<|dn<|aj<|ae.r ?_
 obtain rfl:=O (V h)
 exact R1 rfl
 refine cT<|sr<|bE (V h) fun gC lS h=>cl (vm lS) trivial<|ag rfl<|dn<|aj<|ae.r ?_
 obtain rfl:=O h
 exact R1 rfl
end Go.Proofs.YtfoldppidpmchaaGreat
namespace Go.Fw
theorem fO{n:Nat}(h:n≤9223372036854775807):IntKind.i64.wrap (n:Int)=n:=lO (by omega)
theorem bT{x:Int}(h: -9223372036854775808≤x)(h':x≤9223372036854775807):IntKind.i64.wrap x=x:=lO ⟨h,h'⟩
theorem aW{n:Nat}(h:n<9223372036854775807):IntKind.i64.wrap ((n:Int)+1)=((n+1:Nat):Int):=by rw[lO (by omega)];simp
theorem kG{n m:Nat}(h:n+m≤9223372036854775807):IntKind.i64.wrap ((n:Int)+(m:Int))=((n+m:Nat):Int):=by rw[lO (by omega)];simp
theorem Dj{n:Nat}(h:n≤9223372036854775807):IntKind.i64.wrap (((n+1:Nat):Int)-1)=(n:Int):=by rw[lO (by omega)];omega
theorem aQ{α:Type}{l:List α}{i:Nat}{a:α}(h:l[i]? =some a):bR l (i:Int)=some a:=by simp[bR,h]
theorem vI{α:Type}{l:List α}{a:α}(h:l[0]? =some a):bR l 0=some a:=by simp[bR,h]
theorem QU{α:Type}{l:List α}{a:α}(h:l[1]? =some a):bR l 1=some a:=by simp[bR,h]
theorem eX{α:Type}{l:List α}{i:Nat}(h:i<l.length):wC l (i:Int)=some i:=by simp[wC,h]
theorem je{α:Type}{l:List α}{i:Nat}{y:α}(h:i<l.length):stM l i y=some (l.set i y):=by simp[stM,h]
theorem QV{α:Type}{b:Nat}{l k:List α}(h:(l.length+k.length)*b≤140737488355328)(h':l.length+k.length≤140737488355328):mH b l k=some (l++k):=by simp[mH,h,h']
theorem n6{α:Type}{b:Nat}{l:List α}{x:α}(hb:b≤100)(h:l.length≤1000000000000):mH b l [x]=some (l++[x]):=by
 apply QV
 ·have:(l.length+[x].length)*b≤1000000000001*100:=Nat.mul_le_mul (by simp;omega) hb
  omega
 ·simp;omega
theorem SW{α:Type}{b:Nat}{l k:List α}(hb:b≤100)(h:l.length+k.length≤1000000000000):mH b l k=some (l++k):=by
 apply QV
 ·have:(l.length+k.length)*b≤1000000000000*100:=Nat.mul_le_mul h hb
  omega
 ·omega
theorem KP{α:Type}{b:Nat}{n:Nat}(hb:b≤100)(h:n≤1000000000000):Sh (α:=α) b (n:Int)=some []:=by
 have:b*n≤100*1000000000000:=Nat.mul_le_mul hb h
 have h2:(b:Int)*(n:Int)=((b*n:Nat):Int):=by simp
 unfold Sh
 rw[h2,if_pos ⟨by omega,by omega,by omega⟩]
theorem sQ{α:Type}{b:Nat}{n:Nat}{z:α}(hb:b≤100)(h:n≤1000000000000):Ep b (n:Int) z=some (List.replicate n z):=by
 have:b*n≤100*1000000000000:=Nat.mul_le_mul hb h
 have h2:(b:Int)*(n:Int)=((b*n:Nat):Int):=by simp
 unfold Ep
 rw[h2,if_pos ⟨by omega,by omega,by omega⟩,Int.toNat_natCast]
theorem Dk{α:Type}{l:List α}{i j:Nat}(h:i≤j)(h':j≤l.length):vX l (i:Int) (j:Int)=some (cut l i j):=by
 unfold vX;rw[if_pos ⟨by omega,by omega,by omega⟩];simp
theorem oV{α:Type}{l:List α}{j:Nat}(h':j≤l.length):vX l 0 (j:Int)=some (l.take j):=by
 have:=Dk (l:=l) (i:=0) (j:=j) (by omega) h'
 simpa[cut]using this
theorem sS{M a b:Nat}(h:b≤a)(h':a<M):o5 M a b=a-b:=by
 unfold o5;rw[show(a:Int)-(b:Int)=((a-b:Nat):Int) by omega,←Int.natCast_emod,Int.toNat_natCast,Nat.mod_eq_of_lt (by omega)]
theorem y4{M a b:Nat}(h:a<b)(h':b≤M):o5 M a b=M+a-b:=by
 unfold o5
 have:((a:Int)-(b:Int))%(M:Int)=((M+a-b:Nat):Int):=by
  rw[←Int.add_emod_right (a:=(a:Int)-b),show(a:Int)-(b:Int)+(M:Int)=((M+a-b:Nat):Int) by omega,←Int.natCast_emod,Nat.mod_eq_of_lt (by omega)]
 rw[this,Int.toNat_natCast]
theorem BC{o n i:Nat}(h:i<n):RJ o n (i:Int)=some (o+i):=by simp[RJ,h]
theorem rP{α:Type}{l l':List α}(h:l'.length=l.length):wE l l'=some ():=by simp[wE,h]
theorem Gu{M a b:Nat}(h:b≠0)(h':a<M):Fp M a b=some (a/b):=by
 unfold Fp;rw[if_neg h,Nat.mod_eq_of_lt (Nat.lt_of_le_of_lt (Nat.div_le_self _ _) h')]
theorem BD{a b:Nat}(h:b≠0):DR a b=some (a%b):=by unfold DR;rw[if_neg h]
theorem aU{α β:Type}{a:α}{f:α→Option β}:Option.bind (some a) f=f a:=by
 have h:∀o,o=some a→Option.bind o f=f a:=by intro o ho;rw[ho];rfl
 exact h _ rfl
theorem dR{α:Type}{x y:α}:(bif true then x else y)=x:=by
 have h:∀b,b=true→(bif b then x else y)=x:=by intro b hb;rw[hb];rfl
 exact h _ rfl
theorem eO{α:Type}{x y:α}:(bif false then x else y)=y:=by
 have h:∀b,b=false→(bif b then x else y)=y:=by intro b hb;rw[hb];rfl
 exact h _ rfl
theorem fD{S E R:Type}{body:S→Option (S⊕E)}{s:S}{f:E→Option R}{r:R}(I:S→Prop)(Post:E→Prop)(μ:S→Nat)
  (step:∀s,I s→(∃s',body s=some (.inl s')∧I s'∧μ s'<μ s)∨(∃e,body s=some (.inr e)∧Post e)) (h:I s) (hf:∀e,Post e→f e=some r):(bk body s).bind f=some r:=by
 obtain⟨e,h1,h2⟩:=zL I Post μ step h
 rw[h1];exact hf e h2
theorem j1{S E R:Type}{body:S→Option (S⊕E)}{s:S}{f:E→Option R}{Q:R→Prop}(I:S→Prop)(Post:E→Prop)(μ:S→Nat)
  (step:∀s,I s→(∃s',body s=some (.inl s')∧I s'∧μ s'<μ s)∨(∃e,body s=some (.inr e)∧Post e)) (h:I s) (hf:∀e,Post e→∃r,f e=some r∧Q r):∃r,(bk body s).bind f=some r∧Q r:=by
 obtain⟨e,h1,h2⟩:=zL I Post μ step h
 rw[h1];exact hf e h2
theorem aJ{S E R:Type}{body:S→Option (S⊕E)}{s:S}{f:E→Option R}{r:R}(st:Nat→S)(n:Nat)(e:E)(h0:s=st 0)(hs:∀k,k<n→body (st k)=some (.inl (st (k+1))))(he:body (st n)=some (.inr e))(hf:f e=some r):(bk body s).bind f=some r:=by
 rw[h0,Ov st n hs he];exact hf
theorem sV{S R:Type}{body:Nat→S→Option S}{s:S}{f:S→Option R}{r:R}(st:Nat→S){n:Nat}(h0:s=st 0)(hs:∀k,k<n→body k (st k)=some (st (k+1)))(hf:f (st n)=some r):(qP body n s).bind f=some r:=by
 rw[h0,Eu st n hs];exact hf
theorem bind_eq{α β:Type}{x:Option α}{a:α}{f:α→Option β}{r:Option β}(h:x=some a)(hf:f a=r):x.bind f=r:=by rw[h];exact hf
theorem bn{α:Type}{b:Bool}{x y r:α}(hb:b=true)(h:x=r):(bif b then x else y)=r:=by rw[hb];exact h
theorem aX{α:Type}{b:Bool}{x y r:α}(hb:b=false)(h:y=r):(bif b then x else y)=r:=by rw[hb];exact h
end Go.Fw
namespace Go.Fw
def val(B:Nat):List Nat→Nat
 |[]=>0
 |x::l=>x+B*val B l
def dy(B:Nat):Nat→Nat→List Nat
 |0,_=>[]
 |n+1,v=>v%B::dy B n (v/B)
def jO(ws:List Nat):List Nat:=(ws.reverse.dropWhile (· ==0)).reverse
def can(B v:Nat):List Nat:=jO (dy B v v)
theorem aT(B:Nat):∀n v,(dy B n v).length=n
 |0,_=>rfl
 |n+1,v=>by simp[dy,aT B n]
theorem mA(B:Nat):∀n v,val B (dy B n v)=v%B^n
 |0,v=>by simp[dy,val,Nat.mod_one]
 |n+1,v=>by
  rw[dy,val,mA B n,Nat.pow_succ,Nat.mul_comm (B^n) B,Nat.mod_mul]
theorem oq{B:Nat}(hB:0<B):∀(n v x:Nat),x∈dy B n v→x<B
 |n+1,v,x,h=>by
  rcases List.mem_cons.1 h with rfl|h
  ·exact Nat.mod_lt _ hB
  ·exact oq hB n _ x h
theorem eY{B:Nat}:∀(l:List Nat),(∀x∈l,x<B)→val B l<B^l.length
 |[],_=>by simp[val]
 |x::l,h=>by
  have h1:=eY l (fun y hy=>h y (List.mem_cons_of_mem _ hy))
  have h2:=h x (by simp)
  rw[val,List.length_cons,Nat.pow_succ]
  calc x+B*val B l<B+B*val B l:=by omega
   _=B*(val B l+1):=by rw[Nat.mul_add];omega
   _≤B*B^l.length:=Nat.mul_le_mul_left _ h1
   _=B^l.length*B:=Nat.mul_comm _ _
theorem BE{B:Nat}:∀(l:List Nat),(∀x∈l,x<B)→dy B l.length (val B l)=l
 |[],_=>rfl
 |x::l,h=>by
  have h2:=h x (by simp)
  have hB:0<B:=by omega
  rw[List.length_cons,dy,val,Nat.add_mul_mod_self_left,Nat.mod_eq_of_lt h2,Nat.add_mul_div_left _ _ hB,Nat.div_eq_of_lt h2,Nat.zero_add,BE l (fun y hy=>h y (List.mem_cons_of_mem _ hy))]
theorem y5{B:Nat}:∀(n v j:Nat),j<n→(dy B n v)[j]? =some (v/B^j%B)
 |n+1,v,0,_=>by simp[dy]
 |n+1,v,j+1,h=>by
  rw[dy,List.getElem?_cons_succ,y5 n _ j (by omega),Nat.div_div_eq_div_mul,Nat.pow_succ,Nat.mul_comm B]
theorem Gv{B:Nat}:∀(a b:List Nat),val B (a++b)=val B a+B^a.length*val B b
 |[],b=>by simp[val]
 |x::a,b=>by
  rw[List.cons_append,val,val,Gv a b,List.length_cons,Nat.pow_succ,Nat.mul_add,Nat.add_assoc,Nat.mul_comm (B^a.length) B,Nat.mul_assoc]
theorem hG{B:Nat}:∀(n v:Nat),dy B (n+1) v=dy B n v++[v/B^n%B]
 |0,v=>by simp[dy]
 |n+1,v=>by
  rw[dy,hG n,dy,List.cons_append,Nat.div_div_eq_div_mul,Nat.pow_succ,Nat.mul_comm B]
theorem rQ(B:Nat):∀k,dy B k 0=List.replicate k 0
 |0=>rfl
 |k+1=>by rw[dy,Nat.zero_mod,Nat.zero_div,rQ B k];rfl
theorem Dl{B:Nat}(hB:0<B):∀(n k v:Nat),v<B^n→dy B (n+k) v=dy B n v++List.replicate k 0
 |0,k,v,h=>by
  have:v=0:=by simpa using h
  subst this;rw[Nat.zero_add,rQ];rfl
 |n+1,k,v,h=>by
  rw[show n+1+k=n+k+1 by omega,dy,dy,List.cons_append,Dl hB n k (v/B) (by rw[Nat.div_lt_iff_lt_mul hB];rwa[Nat.pow_succ]at h)]
theorem sW{B:Nat}(hB:2≤B):∀v,v<B^v
 |0=>by simp
 |v+1=>by
  have:=sW hB v
  rw[Nat.pow_succ]
  have h2:B^v*2≤B^v*B:=Nat.mul_le_mul_left _ hB
  omega
theorem pP(l:List Nat):jO (l++[0])=jO l:=by simp[jO]
theorem vn(l:List Nat):∀k,jO (l++List.replicate k 0)=jO l
 |0=>by simp
 |k+1=>by rw[List.replicate_succ',←List.append_assoc,pP,vn l k]
theorem sX(l:List Nat){x:Nat}(h:x≠0):jO (l++[x])=l++[x]:=by simp[jO,h]
theorem xL(xs:List Nat):xs=[]∨(∃ys,xs=ys++[0])∨(∃ys y,y≠0∧xs=ys++[y]):=by
 rcases List.eq_nil_or_concat xs with rfl|⟨ys,y,rfl⟩
 ·exact .inl rfl
 ·by_cases hy:y=0
  ·subst hy;exact .inr (.inl ⟨ys,by simp⟩)
  ·exact .inr (.inr ⟨ys,y,hy,by simp⟩)
theorem Ah:∀(n:Nat) (l:List Nat),l.length=n→∃k,l=jO l++List.replicate k 0:=by
 intro n
 induction n with
 |zero=>intro l h;obtain rfl:=List.length_eq_zero_iff.1 h;exact⟨0,rfl⟩
 |succ n ih=>
  intro l h
  rcases xL l with rfl|⟨ys,rfl⟩|⟨ys,y,hy,rfl⟩
  ·simp at h
  ·obtain⟨k,hk⟩:=ih ys (by simpa using h)
   refine⟨k+1,?_⟩
   rw[pP,List.replicate_succ',←List.append_assoc,←hk]
  ·exact⟨0,by rw[sX _ hy];simp⟩
theorem Nv{l:List Nat}{x:Nat}(h:x∈jO l):x∈l:=by
 obtain⟨k,hk⟩:=Ah _ l rfl
 rw[hk];exact List.mem_append_left _ h
theorem EM(l:List Nat):(jO l).length≤l.length:=by
 obtain⟨k,hk⟩:=Ah _ l rfl
 have:=congrArg List.length hk
 rw[List.length_append]at this;omega
theorem EN(B:Nat):∀k,val B (List.replicate k 0)=0
 |0=>rfl
 |k+1=>by rw[List.replicate_succ,val,EN B k];simp
theorem QW(B:Nat)(l:List Nat):val B (jO l)=val B l:=by
 obtain⟨k,hk⟩:=Ah _ l rfl
 conv=>rhs;rw[hk,Gv,EN]
 simp
theorem n7{B:Nat}(hB:2≤B){n v:Nat}(h:v<B^n):jO (dy B n v)=can B v:=by
 have hv:=sW hB v
 rcases Nat.le_total n v with hn|hn
 ·obtain⟨k,rfl⟩:=Nat.exists_eq_add_of_le hn
  rw[can,Dl (by omega) n k _ h,vn]
 ·obtain⟨k,rfl⟩:=Nat.exists_eq_add_of_le hn
  rw[can,Dl (by omega) v k _ hv,vn]
theorem jP{B:Nat}(hB:2≤B){l:List Nat}(h:∀x∈l,x<B):jO l=can B (val B l):=by
 conv=>lhs;rw[←BE l h]
 exact n7 hB (eY l h)
theorem ke{B:Nat}(hB:2≤B)(v:Nat):val B (can B v)=v:=by
 rw[can,QW,mA,Nat.mod_eq_of_lt (sW hB v)]
theorem eP{B:Nat}(hB:2≤B){v x:Nat}(h:x∈can B v):x<B:=oq (by omega) v v x (Nv h)
theorem pQ(B:Nat):can B 0=[]:=rfl
theorem y7{B:Nat}(hB:2≤B){v:Nat}(h:can B v=[]):v=0:=by have:=ke hB v;rw[h]at this;exact this.symm
theorem SX{B:Nat}(hB:2≤B){v n:Nat}(h:v<B^n):(can B v).length≤n:=by
 rw[←n7 hB h]
 have:=EM (dy B n v)
 rwa[aT]at this
theorem SY{B:Nat}(hB:2≤B)(v:Nat):jO (can B v)=can B v:=by
 rw[jP hB (fun x hx=>eP hB hx),ke hB]
theorem Mc{B:Nat}(hB:2≤B)(v:Nat):can B v=dy B (can B v).length v:=by
 have:=BE (can B v) (fun x hx=>eP hB hx)
 rw[ke hB]at this;exact this.symm
theorem bH{B:Nat}(hB:2≤B)(v:Nat):v<B^(can B v).length:=by
 have:=eY (can B v) (fun x hx=>eP hB hx)
 rwa[ke hB]at this
theorem vJ{B:Nat}(hB:2≤B){v j:Nat}(h:j<(can B v).length):(can B v)[j]? =some (v/B^j%B):=by
 rw[Mc hB v]at h⊢
 rw[aT]at h
 exact y5 _ _ _ h
theorem Dm{B:Nat}(hB:2≤B){v j:Nat}(h:(can B v).length≤j):v/B^j=0:=by
 refine Nat.div_eq_of_lt (Nat.lt_of_lt_of_le (bH hB v) ?_)
 exact Nat.pow_le_pow_right (by omega) h
theorem IV{B:Nat}(hB:2≤B){v:Nat}(h:v≠0):∃l x,x≠0∧can B v=l++[x]:=by
 rcases xL (can B v)with e|⟨ys,e⟩|⟨ys,y,hy,e⟩
 ·exact absurd (y7 hB e) h
 ·exfalso
  have h1:=SY hB v
  rw[e,pP]at h1
  have h2:=EM ys
  rw[h1]at h2;simp at h2;omega
 ·exact⟨ys,y,hy,e⟩
theorem qY{B:Nat}(hB:2≤B){v n:Nat}(h:n<(can B v).length):B^n≤v:=by
 by_cases h0:v=0
 ·subst h0;simp[pQ]at h
 obtain⟨l,x,hx,e⟩:=IV hB h0
 have h1:=ke hB v
 rw[e,Gv]at h1
 have hl:n≤l.length:=by rw[e]at h;simp at h;omega
 have h2:B^n≤B^l.length:=Nat.pow_le_pow_right (by omega) hl
 have h3:B^l.length≤B^l.length*val B [x]:=Nat.le_mul_of_pos_right _ (by simp[val];omega)
 omega
theorem bg{B:Nat}(hB:2≤B){v n:Nat}:(can B v).length≤n↔v<B^n:=by
 refine⟨fun h=>?_,SX hB⟩
 exact Nat.lt_of_lt_of_le (bH hB v) (Nat.pow_le_pow_right (by omega) h)
theorem QX{B:Nat}(hB:2≤B){l:List Nat}{x:Nat}(hx:x≠0)(h:∀y∈l++[x],y<B):l++[x]=can B (val B (l++[x])):=by
 rw[←jP hB h,sX _ hx]
theorem rR{B:Nat}:∀(l:List Nat),(∀x∈l,x<B)→∀k,l.getD k 0=val B l/B^k%B
 |[],_,k=>by simp[val]
 |x::l,h,0=>by
  have h2:=h x (by simp)
  simp[val,Nat.add_mul_mod_self_left,Nat.mod_eq_of_lt h2]
 |x::l,h,k+1=>by
  have h2:=h x (by simp)
  have hB:0<B:=by omega
  rw[List.getD_cons_succ,rR l (fun y hy=>h y (List.mem_cons_of_mem _ hy)) k,val,Nat.pow_succ,Nat.mul_comm (B^k) B,←Nat.div_div_eq_div_mul,Nat.add_mul_div_left _ _ hB,Nat.div_eq_of_lt h2,Nat.zero_add]
theorem gy(B V k:Nat):V%B^(k+1)=V%B^k+B^k*(V/B^k%B):=by
 rw[Nat.pow_succ,Nat.mod_mul]
def BF(B V W k:Nat):Nat:=(V%B^k+W%B^k)/B^k
theorem Dn{B:Nat}(hB:0<B)(V W k:Nat):BF B V W k≤1:=by
 have hP:0<B^k:=Nat.pow_pos hB
 have h1:=Nat.mod_lt V hP
 have h2:=Nat.mod_lt W hP
 have:BF B V W k<2:=by rw[BF,Nat.div_lt_iff_lt_mul hP];omega
 omega
theorem Dp{B:Nat}(hB:0<B)(V W k:Nat):(V/B^k%B+W/B^k%B+BF B V W k)/B=BF B V W (k+1):=by
 have hP:0<B^k:=Nat.pow_pos hB
 rw[BF,BF,gy,gy,Nat.pow_succ,←Nat.div_div_eq_div_mul]
 congr 1
 rw[show V%B^k+B^k*(V/B^k%B)+(W%B^k+B^k*(W/B^k%B))=(V%B^k+W%B^k)+B^k*(V/B^k%B+W/B^k%B) by rw[Nat.mul_add];omega,Nat.add_mul_div_left _ _ hP]
 omega
theorem BG{B:Nat}(hB:0<B)(V W k:Nat):(V/B^k%B+W/B^k%B+BF B V W k)%B=(V+W)/B^k%B:=by
 have hP:0<B^k:=Nat.pow_pos hB
 have h:(V+W)/B^k=V/B^k+W/B^k+BF B V W k:=by
  have e1:=Nat.div_add_mod V (B^k)
  have e2:=Nat.div_add_mod W (B^k)
  rw[BF]
  conv=>lhs;rw[←e1,←e2]
  rw[show B^k*(V/B^k)+V%B^k+(B^k*(W/B^k)+W%B^k)=(V%B^k+W%B^k)+B^k*(V/B^k+W/B^k) by rw[Nat.mul_add];omega,Nat.add_mul_div_left _ _ hP]
  omega
 rw[h]
 simp[Nat.add_mod]
theorem Gw{B:Nat}{V W k:Nat}(hV:V<B^k)(hW:W<B^k):BF B V W k=(V+W)/B^k:=by
 rw[BF,Nat.mod_eq_of_lt hV,Nat.mod_eq_of_lt hW]
theorem Dq(B V W:Nat):BF B V W 0=0:=by simp[BF,Nat.mod_one]
def Ai(B V W k:Nat):Nat:=(V%B^k+B^k-W%B^k)/B^k
theorem Dr(B V W:Nat):Ai B V W 0=1:=by simp[Ai,Nat.mod_one]
theorem KQ{B:Nat}(hB:0<B)(V W k:Nat):Ai B V W k≤1:=by
 have hP:0<B^k:=Nat.pow_pos hB
 have h1:=Nat.mod_lt V hP
 have:Ai B V W k<2:=by
  rw[Ai,Nat.div_lt_iff_lt_mul hP]
  generalize W%B^k=y at*
  generalize V%B^k=x at*
  omega
 omega
theorem Md{B:Nat}(hB:0<B)(V W k:Nat):V%B^(k+1)+B^(k+1)-W%B^(k+1)=(V%B^k+B^k-W%B^k)+B^k*(V/B^k%B+(B-1-W/B^k%B)):=by
 have hP:0<B^k:=Nat.pow_pos hB
 have h1:=Nat.mod_lt V hP
 have h2:=Nat.mod_lt W hP
 have h3:=Nat.mod_lt (W/B^k) hB
 rw[gy,gy,Nat.pow_succ]
 generalize B^k=p at*
 generalize V/p%B=x at*
 generalize W/p%B=y at*
 obtain⟨z,rfl⟩:∃z,B=y+1+z:=⟨B-y-1,by omega⟩
 have e1:y+1+z-1-y=z:=by omega
 rw[e1,Nat.mul_add p x z,Nat.mul_add p (y+1) z,Nat.mul_add p y 1]
 omega
theorem Ds{B:Nat}(hB:0<B)(V W k:Nat):(V/B^k%B+(B-1-W/B^k%B)+Ai B V W k)/B=Ai B V W (k+1):=by
 have hP:0<B^k:=Nat.pow_pos hB
 rw[Ai,Ai,Md hB,Nat.pow_succ,←Nat.div_div_eq_div_mul,Nat.add_mul_div_left _ _ hP]
 congr 1
 omega
theorem KR{Q V W:Nat}(hQ:0<Q)(h:W≤V):(V%Q+Q-W%Q)%Q=(V-W)%Q:=by
 have e1:=Nat.div_add_mod V Q
 have e2:=Nat.div_add_mod W Q
 have h1:=Nat.mod_lt V hQ
 have h2:=Nat.mod_lt W hQ
 have hq:W/Q≤V/Q:=Nat.div_le_div_right h
 generalize V%Q=r at*
 generalize W%Q=s at*
 generalize V/Q=a at*
 generalize W/Q=b at*
 obtain⟨c,rfl⟩:=Nat.exists_eq_add_of_le hq
 rw[Nat.mul_add]at e1
 rcases Nat.lt_or_ge r s with hrs|hrs
 ·cases c with
  |zero=>simp at e1;omega
  |succ c=>
   rw[Nat.mul_add,Nat.mul_one]at e1
   rw[show V-W=Q*c+(r+Q-s) by omega,Nat.mul_add_mod]
 ·rw[show V-W=Q*c+(r-s) by omega,Nat.mul_add_mod,show r+Q-s=r-s+Q by omega,Nat.add_mod_right]
theorem Gx{B:Nat}(hB:0<B){V W:Nat}(h:W≤V)(k:Nat):(V/B^k%B+(B-1-W/B^k%B)+Ai B V W k)%B=(V-W)/B^k%B:=by
 have hP:0<B^k:=Nat.pow_pos hB
 have hQ:0<B^(k+1):=Nat.pow_pos hB
 have e:=KR hQ h
 have e2:V/B^k%B+(B-1-W/B^k%B)+Ai B V W k=(V%B^(k+1)+B^(k+1)-W%B^(k+1))/B^k:=by
  rw[Md hB,Nat.add_mul_div_left _ _ hP,Ai];omega
 rw[e2,←Nat.mod_mul_right_div_self,←Nat.mod_mul_right_div_self,←Nat.pow_succ,e]
end Go.Fw
namespace Go.Fw
theorem Me{B:Nat}(hB:0<B):∀(j N lo p d hi:Nat),lo<B^j→p<B→d<B→j<N→(dy B N (lo+B^j*(p+B*hi))).set j d=dy B N (lo+B^j*(d+B*hi))
 |0,N+1,lo,p,d,hi,hlo,hp,hd,_=>by
  have:lo=0:=by simpa using hlo
  subst this
  simp only[Nat.pow_zero,Nat.zero_add,Nat.one_mul,dy,List.set_cons_zero,Nat.add_mul_mod_self_left,Nat.mod_eq_of_lt hd]
  rw[Nat.add_mul_div_left _ _ hB,Nat.add_mul_div_left _ _ hB,Nat.div_eq_of_lt hp,Nat.div_eq_of_lt hd]
 |j+1,N+1,lo,p,d,hi,hlo,hp,hd,hN=>by
  have e:∀q,(lo+B^(j+1)*(q+B*hi))%B=lo%B:=fun q=>by
   rw[Nat.pow_succ,Nat.mul_comm (B^j) B,Nat.mul_assoc,Nat.add_mul_mod_self_left]
  have e2:∀q,(lo+B^(j+1)*(q+B*hi))/B=lo/B+B^j*(q+B*hi):=fun q=>by
   rw[Nat.pow_succ,Nat.mul_comm (B^j) B,Nat.mul_assoc,Nat.add_mul_div_left _ _ hB]
  have ahS:lo/B<B^j:=by rw[Nat.div_lt_iff_lt_mul hB];rwa[Nat.pow_succ]at hlo
  rw[dy,dy,List.set_cons_succ,e,e,e2,e2,Me hB j N (lo/B) p d hi ahS hp hd (by omega)]
theorem vK{B:Nat}(hB:0<B){N j u u' d:Nat}(hj:j<N)(hd:d<B)(hlo:u'%B^j=u%B^j)(KS:u'/B^j%B=d)(hhi:u'/B^(j+1)=u/B^(j+1)):(dy B N u).set j d=dy B N u':=by
 have hP:0<B^j:=Nat.pow_pos hB
 have f:∀u,u=u%B^j+B^j*(u/B^j%B+B*(u/B^(j+1))):=fun u=>by
  have e1:=Nat.mod_add_div u (B^j)
  have e2:=Nw B u j
  rw[Nat.add_comm]at e2
  rw[←e2,e1]
 rw[f u,Me hB j N _ _ d _ (Nat.mod_lt _ hP) (Nat.mod_lt _ hB) hd hj]
 conv=>rhs;rw[f u',hlo,KS,hhi]
where
 Nw (B v m:Nat):v/B^m=B*(v/B^(m+1))+v/B^m%B:=by
  rw[Nat.pow_succ,←Nat.div_div_eq_div_mul,Nat.div_add_mod]
def mT(B V W i k:Nat):Nat:=((V%B^i)*W)%B^(i+k)+B^i*(V/B^i%B)*(W%B^k)
def mC(B V W i k:Nat):Nat:=mT B V W i k/B^(i+k)
def mV(B V W i k:Nat):Nat:=mT B V W i k%B^(i+k)+B^(i+k)*(((V%B^i)*W)/B^(i+k))
theorem VG{B:Nat}(hB:0<B)(V W i k:Nat):mT B V W i k<B^(i+k)*B:=by
 have h1:((V%B^i)*W)%B^(i+k)<B^(i+k):=Nat.mod_lt _ (Nat.pow_pos hB)
 have h2:V/B^i%B<B:=Nat.mod_lt _ hB
 have h3:W%B^k<B^k:=Nat.mod_lt _ (Nat.pow_pos hB)
 have h4:B^i*(V/B^i%B)*(W%B^k)≤B^i*(B-1)*B^k:=Nat.mul_le_mul (Nat.mul_le_mul_left _ (by omega)) (Nat.le_of_lt h3)
 have h5:B^i*(B-1)*B^k=B^(i+k)*(B-1):=by rw[Nat.pow_add,Nat.mul_assoc,Nat.mul_assoc,Nat.mul_comm (B-1)]
 have h6:B^(i+k)*B=B^(i+k)*(B-1)+B^(i+k):=by
  obtain⟨b,rfl⟩:∃b,B=b+1:=⟨B-1,by omega⟩
  rw[Nat.add_sub_cancel,Nat.mul_add,Nat.mul_one]
 unfold mT
 omega
theorem VH{B:Nat}(hB:0<B)(V W i k:Nat):mC B V W i k<B:=by
 rw[mC,Nat.div_lt_iff_lt_mul (Nat.pow_pos hB),Nat.mul_comm];exact VG hB V W i k
theorem Gy{B:Nat}(V W i k:Nat):mT B V W i (k+1)=mT B V W i k+B^(i+k)*(((V%B^i)*W)/B^(i+k)%B+(V/B^i%B)*(W/B^k%B)):=by
 have e1:((V%B^i)*W)%B^(i+(k+1))=((V%B^i)*W)%B^(i+k)+B^(i+k)*(((V%B^i)*W)/B^(i+k)%B):=by rw[←Nat.add_assoc,gy]
 have e2:W%B^(k+1)=W%B^k+B^k*(W/B^k%B):=gy B W k
 unfold mT
 rw[e1,e2,Nat.mul_add,Nat.mul_add (B^(i+k))]
 have e3:B^i*(V/B^i%B)*(B^k*(W/B^k%B))=B^(i+k)*((V/B^i%B)*(W/B^k%B)):=by
  rw[Nat.pow_add,Nat.mul_assoc,Nat.mul_assoc,Nat.mul_left_comm (V/B^i%B)]
 omega
theorem SZ{B:Nat}(hB:0<B)(V W i k:Nat):(((V%B^i)*W)/B^(i+k)%B+(V/B^i%B)*(W/B^k%B)+mC B V W i k)/B=mC B V W i (k+1):=by
 have hP:0<B^(i+k):=Nat.pow_pos hB
 rw[mC,mC,Gy,←Nat.add_assoc,Nat.pow_succ,←Nat.div_div_eq_div_mul,Nat.add_mul_div_left _ _ hP]
 congr 1;omega
theorem VI{B:Nat}(V W i k:Nat):mV B V W i k%B^(i+k)=mT B V W i k%B^(i+k):=by
 rw[mV,Nat.add_mul_mod_self_left,Nat.mod_mod]
theorem Mf{B:Nat}(hB:0<B)(V W i k:Nat):mV B V W i k/B^(i+k)=((V%B^i)*W)/B^(i+k):=by
 have hP:0<B^(i+k):=Nat.pow_pos hB
 rw[mV,Nat.add_mul_div_left _ _ hP,Nat.div_eq_of_lt (Nat.mod_lt _ hP),Nat.zero_add]
theorem X7{B:Nat}(hB:0<B){V W i k N:Nat}(h:i+k<N):(dy B N (mV B V W i k))[i+k]? =some (((V%B^i)*W)/B^(i+k)%B):=by
 rw[y5 _ _ _ h,Mf hB]
theorem S0{B:Nat}(hB:0<B){V W i k N:Nat}(h:i+k<N):
  (dy B N (mV B V W i k)).set (i+k) ((((V%B^i)*W)/B^(i+k)%B+(V/B^i%B)*(W/B^k%B)+mC B V W i k)%B)=dy B N (mV B V W i (k+1)):=by
 have hP:0<B^(i+k):=Nat.pow_pos hB
 have hPB:B^(i+(k+1))=B^(i+k)*B:=by rw[←Nat.add_assoc,Nat.pow_succ]
 have hs:mT B V W i (k+1)/B^(i+k)=((V%B^i)*W)/B^(i+k)%B+(V/B^i%B)*(W/B^k%B)+mC B V W i k:=by
  rw[Gy,Nat.add_mul_div_left _ _ hP,mC];omega
 have ht:mT B V W i (k+1)%B^(i+k)=mT B V W i k%B^(i+k):=by rw[Gy,Nat.add_mul_mod_self_left]
 refine vK hB h (Nat.mod_lt _ hB) ?_ ?_ ?_
 ·rw[VI,←ht,mV,hPB,Nat.mul_assoc,Nat.add_mul_mod_self_left,Nat.mod_mul_right_mod]
 ·rw[mV,hPB,Nat.mul_assoc,Nat.add_mul_div_left _ _ hP,Nat.add_mul_mod_self_left,Nat.mod_mul_right_div_self,Nat.mod_mod,hs]
 ·rw[show i+k+1=i+(k+1) by omega,Mf hB,show i+(k+1)=i+k+1 by omega,Nat.pow_succ,←Nat.div_div_eq_div_mul,←Nat.div_div_eq_div_mul,Mf hB]
theorem S3{B:Nat}(V W i:Nat):mV B V W i 0=(V%B^i)*W:=by
 rw[mV,mT,Nat.pow_zero,Nat.mod_one,Nat.mul_zero,Nat.add_zero,Nat.add_zero,Nat.mod_mod,Nat.mod_add_div]
theorem S4{B:Nat}(hB:0<B)(V W i:Nat):mC B V W i 0=0:=by
 rw[mC,mT,Nat.pow_zero,Nat.mod_one,Nat.mul_zero,Nat.add_zero,Nat.add_zero]
 exact Nat.div_eq_of_lt (Nat.mod_lt _ (Nat.pow_pos hB))
theorem X8{B:Nat}(hB:0<B){V W i n N:Nat}(hW:W<B^n)(h:i+n<N):(dy B N (mV B V W i n)).set (i+n) ((0+mC B V W i n)%B)=dy B N ((V%B^(i+1))*W):=by
 have hP:0<B^(i+n):=Nat.pow_pos hB
 have hp:(V%B^i)*W<B^(i+n):=by
  have h1:V%B^i<B^i:=Nat.mod_lt _ (Nat.pow_pos hB)
  rw[Nat.pow_add]
  by_cases h0:W=0
  ·subst h0;rw[Nat.mul_zero];exact Nat.mul_pos (Nat.pow_pos hB) (Nat.pow_pos hB)
  ·calc (V%B^i)*W<B^i*W:=Nat.mul_lt_mul_of_pos_right h1 (by omega)
    _≤B^i*B^n:=Nat.mul_le_mul_left _ (Nat.le_of_lt hW)
 have hT:mT B V W i n=(V%B^(i+1))*W:=by
  rw[mT,Nat.mod_eq_of_lt hp,Nat.mod_eq_of_lt hW,gy,Nat.add_mul]
 have hlt:=VG hB V W i n
 rw[hT]at hlt
 refine vK hB h (Nat.mod_lt _ hB) ?_ ?_ ?_
 ·rw[VI,hT]
 ·rw[Nat.zero_add,mC,hT]
 ·rw[Nat.pow_succ B (i+n),Nat.div_eq_of_lt hlt,←Nat.div_div_eq_div_mul,Mf hB,Nat.div_eq_of_lt hp,Nat.zero_div]
def sT(B V f e i:Nat):Nat:=V%B^i*f+e
def sC(B V f e i:Nat):Nat:=sT B V f e i/B^i
theorem Gz(B V f e:Nat):sC B V f e 0=e:=by simp[sC,sT,Nat.mod_one]
theorem Mg(B V f e i:Nat):sT B V f e (i+1)=sT B V f e i+B^i*(V/B^i%B*f):=by
 unfold sT
 rw[gy,Nat.add_mul,Nat.mul_assoc];omega
theorem GA{B:Nat}(hB:0<B)(V f e i:Nat):(V/B^i%B*f+sC B V f e i)/B=sC B V f e (i+1):=by
 have hP:0<B^i:=Nat.pow_pos hB
 rw[sC,sC,Mg,Nat.pow_succ,←Nat.div_div_eq_div_mul,Nat.add_mul_div_left _ _ hP]
 congr 1;omega
theorem KT{B:Nat}(hB:0<B)(V f e i:Nat):(V/B^i%B*f+sC B V f e i)%B=(V*f+e)/B^i%B:=by
 have hP:0<B^i:=Nat.pow_pos hB
 have h1:V*f+e=sT B V f e (i+1)+B^i*(B*(V/B^(i+1)*f)):=by
  have e1:=Nat.mod_add_div V (B^(i+1))
  unfold sT
  conv=>lhs;rw[←e1,Nat.add_mul]
  rw[Nat.pow_succ,Nat.mul_assoc,Nat.mul_assoc];omega
 rw[h1,Nat.add_mul_div_left _ _ hP,Nat.add_mul_mod_self_left,Mg,Nat.add_mul_div_left _ _ hP,sC,Nat.add_comm]
theorem QY{B:Nat}(hB:0<B){V f e:Nat}(hf:f<B)(he:e<B)(i:Nat):sC B V f e i<B:=by
 have hP:0<B^i:=Nat.pow_pos hB
 rw[sC,Nat.div_lt_iff_lt_mul hP]
 have h1:V%B^i≤B^i-1:=by have:=Nat.mod_lt V hP;omega
 have h2:V%B^i*f≤(B^i-1)*(B-1):=Nat.mul_le_mul h1 (by omega)
 obtain⟨p,hp⟩:∃p,B^i=p+1:=⟨B^i-1,by omega⟩
 obtain⟨b,rfl⟩:∃b,B=b+1:=⟨B-1,by omega⟩
 unfold sT
 rw[hp]at h2⊢
 rw[Nat.add_sub_cancel,Nat.add_sub_cancel]at h2
 have h3:(b+1)*(p+1)=p*b+b+p+1:=by rw[Nat.add_mul,Nat.mul_add,Nat.mul_comm b p];omega
 omega
theorem KU{B V f e i:Nat}(h:V<B^i):sC B V f e i=(V*f+e)/B^i:=by rw[sC,sT,Nat.mod_eq_of_lt h]
def sU(B V f e i:Nat):Nat:=sT B V f e i%B^i+B^i*(V/B^i)
def qU(B V d n:Nat):Nat:=V%B^n+B^n*(V/B^n/d)
theorem S5(B V d:Nat):qU B V d 0=V/d:=by simp[qU,Nat.mod_one]
theorem X9{B V d n:Nat}(h:V<B^n):qU B V d n=V:=by simp[qU,Nat.mod_eq_of_lt h,Nat.div_eq_of_lt h]
theorem S6(B V m:Nat):V/B^m=B*(V/B^(m+1))+V/B^m%B:=by rw[Nat.pow_succ,←Nat.div_div_eq_div_mul,Nat.div_add_mod]
theorem VJ{B d:Nat}(V m:Nat):V/B^m=(V/B^(m+1)%d*B+V/B^m%B)+d*(B*(V/B^(m+1)/d)):=by
 have h1:=S6 B V m
 have h2:=Nat.mod_add_div (V/B^(m+1)) d
 generalize V/B^(m+1)=q at*
 generalize V/B^m%B=y at*
 rw[h1]
 conv=>lhs;rw[←h2]
 rw[Nat.mul_add,Nat.mul_left_comm B d,Nat.mul_comm B (q%d)];omega
theorem VK{B d:Nat}(hd:0<d)(V m:Nat):V/B^m/d=B*(V/B^(m+1)/d)+(V/B^(m+1)%d*B+V/B^m%B)/d:=by
 conv=>lhs;rw[VJ (B:=B) (d:=d) V m]
 rw[Nat.add_mul_div_left _ _ hd,Nat.add_comm]
theorem QZ{B d:Nat}(V m:Nat):V/B^m%d=(V/B^(m+1)%d*B+V/B^m%B)%d:=by
 conv=>lhs;rw[VJ (B:=B) (d:=d) V m]
 rw[Nat.add_mul_mod_self_left]
theorem S7{B d:Nat}(hB:0<B)(hd:0<d)(V m:Nat):V/B^(m+1)%d*B+V/B^m%B<d*B:=by
 have h1:=Nat.mod_lt (V/B^(m+1)) hd
 have h2:=Nat.mod_lt (V/B^m) hB
 have h3:(V/B^(m+1)%d+1)*B≤d*B:=Nat.mul_le_mul_right _ h1
 rw[Nat.add_mul]at h3;omega
theorem Q0{B:Nat}(hB:0<B)(V d n:Nat):qU B V d n/B^n=V/B^n/d:=by
 have hP:0<B^n:=Nat.pow_pos hB
 rw[qU,Nat.add_mul_div_left _ _ hP,Nat.div_eq_of_lt (Nat.mod_lt _ hP),Nat.zero_add]
theorem aa8(B V d n:Nat):qU B V d n%B^n=V%B^n:=by rw[qU,Nat.add_mul_mod_self_left,Nat.mod_mod]
theorem S8{B:Nat}(V d m:Nat):qU B V d (m+1)%B^m=V%B^m:=by
 rw[qU,Nat.pow_succ,Nat.mul_assoc,Nat.add_mul_mod_self_left,Nat.mod_mul_right_mod]
theorem Ya{B:Nat}(hB:0<B){V d m N:Nat}(h:m<N):(dy B N (qU B V d (m+1)))[m]? =some (V/B^m%B):=by
 have hP:0<B^m:=Nat.pow_pos hB
 rw[y5 _ _ _ h,qU,Nat.pow_succ,Nat.mul_assoc,Nat.add_mul_div_left _ _ hP,Nat.add_mul_mod_self_left,Nat.mod_mul_right_div_self,Nat.mod_mod]
theorem S9{B:Nat}(hB:0<B){V d m N:Nat}(hd:0<d)(h:m<N):(dy B N (qU B V d (m+1))).set m ((V/B^(m+1)%d*B+V/B^m%B)/d)=dy B N (qU B V d m):=by
 have hx:(V/B^(m+1)%d*B+V/B^m%B)/d<B:=by rw[Nat.div_lt_iff_lt_mul hd,Nat.mul_comm B d];exact S7 hB hd V m
 have hq:=VK (B:=B) hd V m
 refine vK hB h hx ?_ ?_ ?_
 ·rw[aa8,S8]
 ·rw[Q0 hB,hq,Nat.mul_add_mod,Nat.mod_eq_of_lt hx]
 ·rw[Q0 hB,Nat.pow_succ,←Nat.div_div_eq_div_mul,Q0 hB,hq,Nat.mul_add_div hB,Nat.div_eq_of_lt hx,←Nat.pow_succ];rfl
end Go.Fw
namespace Go.Fw
theorem Ta{B v:Nat}(hB:2≤B)(h0:v≠0)(h:v<B):can B v=[v]:=by
 have:=QX hB (l:=[]) h0 (by simpa using h)
 simpa[val]using this.symm
theorem Tb{B v:Nat}(hB:2≤B)(h0:v/B≠0)(h:v<B*B):can B v=[v%B,v/B]:=by
 have h1:v/B<B:=by rw[Nat.div_lt_iff_lt_mul (by omega)];exact h
 have h2:v%B<B:=Nat.mod_lt _ (by omega)
 have:=QX hB (l:=[v%B]) h0 (by simp;exact⟨h2,h1⟩)
 simp only[List.cons_append,List.nil_append,val,Nat.mul_zero,Nat.add_zero]at this
 rw[Nat.mod_add_div]at this
 exact this.symm
theorem kH{B:Nat}{l:List Nat}(h:∀x∈l,x<B){i:Nat}(hi:i<l.length):l[i]? =some (val B l/B^i%B):=by
 rw[←rR l h i];simp[List.getD,hi]
def xM(v w:Nat):Int:=if v<w then-1 else if v=w then 0 else 1
theorem qJ{v w:Nat}(h:v<w):xM v w=-1:=by simp[xM,h]
theorem vL(v:Nat):xM v v=0:=by simp[xM]
theorem sY{v w:Nat}(h:w<v):xM v w=1:=by
 have h1:¬v<w:=by omega
 have h2:¬v=w:=by omega
 simp[xM,h1,h2]
theorem xN{B v w:Nat}(hB:2≤B)(h:(can B v).length<(can B w).length):v<w:=
 Nat.lt_of_lt_of_le (bH hB v) (qY hB h)
theorem za(B v m:Nat):v/B^m=B*(v/B^(m+1))+v/B^m%B:=by
 rw[Nat.pow_succ,←Nat.div_div_eq_div_mul,Nat.div_add_mod]
theorem EO{B v w m:Nat}(h:v/B^m<w/B^m):v<w:=by
 rcases Nat.lt_or_ge v w with h1|h1
 ·exact h1
 ·have:=Nat.div_le_div_right (c:=B^m) h1;omega
theorem EP{B v w m:Nat}(h:v/B^(m+1)=w/B^(m+1)):(v/B^m%B=w/B^m%B∧v/B^m=w/B^m)∨(v/B^m%B<w/B^m%B∧v<w)∨(w/B^m%B<v/B^m%B∧w<v):=by
 have h1:=za B v m
 have h2:=za B w m
 rw[←h]at h2
 rcases Nat.lt_trichotomy (v/B^m%B) (w/B^m%B)with h3|h3|h3
 ·exact .inr (.inl ⟨h3,EO (B:=B) (m:=m) (by omega)⟩)
 ·exact .inl ⟨h3,by omega⟩
 ·exact .inr (.inr ⟨h3,EO (B:=B) (m:=m) (by omega)⟩)
end Go.Fw
namespace Go.Proofs.YtfoldppidpmchaaGreat
open Go.Fw
theorem BH(l:List Nat)(hl:l.length≤1000000000000):aG l=some (jO l):=by
 unfold aG
 refine fD (fun y=>y.length≤1000000000000∧jO y=jO l) (fun e=>e=jO l) (fun y=>y.length) ?_ ⟨hl,rfl⟩ (fun e he=>by rw[he])
 rintro y ⟨hy,ht⟩
 rcases xL y with rfl|⟨ys,rfl⟩|⟨ys,x,hx,rfl⟩
 ·right;exact⟨[],by simp[bD],ht⟩
 ·left
  have h1:((ys++[0]).length:Int)=((ys.length+1:Nat):Int):=by simp
  have h2:ys.length≤9223372036854775807:=by simp at hy;omega
  refine⟨ys,?_,⟨by simp at hy⊢;omega,by rw[←ht,pP]⟩,by simp⟩
  simp only[bD,Option.bind_some,h1,Dj h2]
  rw[aQ (a:=0) (by simp),oV (by simp)]
  simp
 ·right
  have h1:((ys++[x]).length:Int)=((ys.length+1:Nat):Int):=by simp
  have h2:ys.length≤9223372036854775807:=by simp at hy;omega
  refine⟨ys++[x],?_,by rw[←ht,sX _ hx]⟩
  simp only[bD,Option.bind_some,h1,Dj h2]
  rw[aQ (a:=x) (by simp)]
  simp[hx]
def zc(n:Bool)(v:Nat):Zr:=⟨n&&v != 0,can 4294967296 v⟩
theorem Mh(n:Bool):zc n 0=⟨false,[]⟩:=by simp[zc,pQ]
theorem Q1(n:Bool){v:Nat}(h:v≠0):zc n v=⟨n,can 4294967296 v⟩:=by simp[zc,h]
def GB(l:List Nat):Prop:=(∀x∈l,x<4294967296)∧l.length≤100000000000
abbrev vl(l:List Nat):Nat:=val 4294967296 l
theorem kC(n:Bool)(l:List Nat)(h:GB l):bM n l=some (zc n (vl l)):=by
 unfold bM
 rw[BH l (by have:=h.2;omega),jP (by decide) h.1]
 show _=some (zc n (val 4294967296 l))
 by_cases hz:val 4294967296 l=0
 ·rw[hz,Mh];simp[pQ]
 ·have:can 4294967296 (val 4294967296 l)≠[]:=fun e=>hz (y7 (by decide) e)
  rw[Q1 _ hz];simp[this]
theorem rS(n:Bool)(v:Nat)(h:v<18446744073709551616):dU n v=some (zc n v):=by
 unfold dU
 by_cases hz:v=0
 ·subst hz;simp[Mh]
 ·rw[Q1 _ hz]
  by_cases h1:v/2^32=0
  ·rw[Ta (by decide) hz (by omega)]
   simp only[Option.bind_some,hz,h1,decide_false,decide_true,cond_false,cond_true]
   rw[Nat.mod_eq_of_lt (by omega)]
  ·rw[Tb (by decide) (by omega) (by omega)]
   simp only[Option.bind_some,hz,h1,decide_false,cond_false]
   rw[Nat.mod_eq_of_lt (a:=v/2^32) (by omega)]
theorem Q2{a b s:Nat}(h:a<2^s):a ||| b*2^s=a+b*2^s:=by
 rw[Nat.or_comm,Nat.mul_comm b,←Nat.two_pow_add_eq_or_of_lt h,Nat.add_comm]
theorem low_eq(l:List Nat)(h:∀x∈l,x<4294967296)(hl:l.length≤2):cS l=some (vl l):=by
 rcases l with _|⟨x,_|⟨y,_|⟨z,l⟩⟩⟩
 ·simp[cS,vl,val]
 ·have hx:=h x (by simp)
  simp only[cS,vI (l:=[x]) (a:=x) rfl]
  simp[vl,val];omega
 ·have hx:=h x (by simp)
  have hy:=h y (by simp)
  simp only[cS,vI (l:=[x,y]) (a:=x) rfl,QU (l:=[x,y]) (a:=y) rfl,Option.bind_some]
  rw[Nat.mod_eq_of_lt (a:=x) (by omega),Nat.mod_eq_of_lt (a:=y) (by omega),Nat.mod_eq_of_lt (a:=y*2^32) (by omega),Q2 (by omega),Nat.mod_eq_of_lt (by omega)]
  simp[vl,val];omega
 ·simp at hl
theorem gI(x c:Nat)(h:x+c<18446744073709551616):bj x c=some ((x+c)%4294967296,(x+c)/4294967296):=by
 simp[bj,Nat.mod_eq_of_lt h]
theorem kI(v w:Nat)(hv:(can 4294967296 v).length≤100000000000)(hw:(can 4294967296 w).length≤100000000000):cc (can 4294967296 v) (can 4294967296 w)=some (xM v w):=by
 unfold cc
 rcases Nat.lt_trichotomy (can 4294967296 v).length (can 4294967296 w).length with hl|hl|hl
 ·rw[qJ (xN (by decide) hl)]
  simp only[Option.bind_some]
  rw[show decide (((can 4294967296 v).length:Int)≠((can 4294967296 w).length:Int))=true by simp;omega,show decide (((can 4294967296 v).length:Int)<((can 4294967296 w).length:Int))=true by simp;omega];rfl
 ·simp only[Option.bind_some]
  rw[show decide (((can 4294967296 v).length:Int)≠((can 4294967296 w).length:Int))=false by simp;omega,cond_false]
  refine fD (fun y=>∃n:Nat,y=(n:Int)-1∧n≤(can 4294967296 v).length∧v/4294967296^n=w/4294967296^n) (fun e=>e=(if v=w then .inl ()else .inr (xM v w))) (fun y=>(y+1).toNat) ?_ ⟨(can 4294967296 v).length,?_,Nat.le_refl _,?_⟩ ?_
  ·rintro y ⟨n,rfl,hn,he⟩
   cases n with
   |zero=>
    right
    have:v=w:=by simpa using he
    subst this
    exact⟨_,by simp,rfl⟩
   |succ m=>
    have Jo:=vJ (B:=4294967296) (by decide) (v:=v) (j:=m) (by omega)
    have hgw:=vJ (B:=4294967296) (by decide) (v:=w) (j:=m) (by omega)
    have e0:((m+1:Nat):Int)-1=(m:Int):=by omega
    rw[e0]
    rcases EP he with⟨h1,h2⟩|⟨h1,h2⟩|⟨h1,h2⟩
    ·left
     refine⟨(m:Int)-1,?_,⟨m,rfl,by omega,h2⟩,by omega⟩
     simp only[Option.bind_some,aQ Jo,aQ hgw,h1]
     rw[bT (by omega) (by omega)]
     simp
    ·right
     refine⟨.inr (-1),?_,by rw[if_neg (by omega),qJ h2]⟩
     simp only[Option.bind_some,aQ Jo,aQ hgw]
     simp[h1,Nat.ne_of_lt h1]
    ·right
     refine⟨.inr 1,?_,by rw[if_neg (by omega),sY h2]⟩
     simp only[Option.bind_some,aQ Jo,aQ hgw]
     simp[Nat.not_lt_of_lt h1,Nat.ne_of_gt h1]
  ·rw[bT (by omega) (by omega)]
  ·rw[Dm (by decide) (Nat.le_refl _),Dm (by decide) (by omega)]
  ·rintro e rfl
   by_cases h:v=w
   ·subst h;simp[vL]
   ·simp[h]
 ·rw[sY (xN (by decide) hl)]
  simp only[Option.bind_some]
  rw[show decide (((can 4294967296 v).length:Int)≠((can 4294967296 w).length:Int))=true by simp;omega,show decide (((can 4294967296 v).length:Int)<((can 4294967296 w).length:Int))=false by simp;omega];rfl
theorem BI{l:List Nat}(h:∀x∈l,x<4294967296)(i:Nat):l.getD i 0<4294967296:=by
 rcases Nat.lt_or_ge i l.length with hi|hi
 ·exact h _ (List.mem_of_getElem? (uc hi))
 ·rw[w8 hi];decide
theorem AZ(a b:List Nat)(ha:GB a)(hb:GB b):dN a b=some (dy 4294967296 (max a.length b.length+1) (vl a+vl b)):=by
 obtain⟨hA,hla⟩:=ha
 obtain⟨hB,hlb⟩:=hb
 have hV:val 4294967296 a<4294967296^(max a.length b.length):=Nat.lt_of_lt_of_le (eY a hA) (Nat.pow_le_pow_right (by decide) (by omega))
 have hW:val 4294967296 b<4294967296^(max a.length b.length):=Nat.lt_of_lt_of_le (eY b hB) (Nat.pow_le_pow_right (by decide) (by omega))
 unfold dN
 simp only[Option.bind_some]
 rw[show max (a.length:Int) (b.length:Int)=((max a.length b.length:Nat):Int) by omega,aW (by omega),KP (by decide) (by omega),Option.bind_some]
 refine sV (fun k=>(BF 4294967296 (vl a) (vl b) k,dy 4294967296 k (vl a+vl b))) (by simp[Dq,dy]) (fun k hk=>?_) ?_
 ·have hx:=BI hA k
  have hy:=BI hB k
  have hc:=Dn (B:=4294967296) (by decide) (vl a) (vl b) k
  have hxe:=rR a hA k
  have hye:=rR b hB k
  simp only[Option.bind_some]
  rw[Nat.mod_eq_of_lt (a:=a.getD k 0) (by omega),Nat.mod_eq_of_lt (a:=b.getD k 0) (by omega),Nat.mod_eq_of_lt (a:=a.getD k 0+b.getD k 0) (by omega),gI _ _ (by omega)]
  simp only[Option.bind_some]
  rw[n6 (by decide) (by rw[aT];omega),Option.bind_some,hxe,hye,Dp (by decide),BG (by decide),←hG]
 ·have hc:=Dn (B:=4294967296) (by decide) (vl a) (vl b) (max a.length b.length)
  simp only
  rw[gI _ _ (by omega)]
  simp only[Option.bind_some]
  rw[n6 (by decide) (by rw[aT];omega),Option.bind_some,Nat.zero_add,Gw hV hW,←hG]
theorem A0(a b:List Nat)(ha:GB a)(hb:GB b)(hl:b.length≤a.length)(hle:vl b≤vl a):cq a b=some (dy 4294967296 a.length (vl a-vl b)):=by
 obtain⟨hA,hla⟩:=ha
 obtain⟨hB,hlb⟩:=hb
 have hmx:max a.length b.length=a.length:=by omega
 unfold cq
 simp only[Option.bind_some]
 rw[KP (by decide) (by omega),Option.bind_some,hmx]
 refine sV (fun k=>(Ai 4294967296 (vl a) (vl b) k,dy 4294967296 k (vl a-vl b))) (by simp[Dr,dy]) (fun k hk=>?_) rfl
 have hx:=BI hA k
 have hy:=BI hB k
 have hc:=KQ (B:=4294967296) (by decide) (vl a) (vl b) k
 have hxe:=rR a hA k
 have hye:=rR b hB k
 simp only[Option.bind_some]
 rw[Nat.mod_eq_of_lt (a:=a.getD k 0) (by omega),Nat.mod_eq_of_lt (a:=b.getD k 0) (by omega),sS (by omega) (by omega),Nat.mod_eq_of_lt (a:=a.getD k 0+(4294967295-b.getD k 0)) (by omega),gI _ _ (by omega)]
 simp only[Option.bind_some]
 rw[n6 (by decide) (by rw[aT];omega),Option.bind_some,hxe,hye,Ds (B:=4294967296) (by decide),Gx (B:=4294967296) (by decide) hle,←hG]
theorem IW(a b:List Nat)(ha:GB a)(hb:GB b):fz a b=some (dy 4294967296 (a.length+b.length) (vl a*vl b)):=by
 obtain⟨hA,hla⟩:=ha
 obtain⟨hB,hlb⟩:=hb
 unfold fz
 simp only[Option.bind_some]
 rw[kG (by omega),sQ (by decide) (by omega),Option.bind_some]
 refine aJ (fun i=>((i:Int),dy 4294967296 (a.length+b.length) (vl a%4294967296^i*vl b))) a.length (dy 4294967296 (a.length+b.length) (vl a%4294967296^a.length*vl b)) (by simp[Nat.mod_one,rQ]) (fun i hi=>?_) (by simp) (by rw[Nat.mod_eq_of_lt (eY a hA)])
 have hgx:=kH hA hi
 have hx:val 4294967296 a/4294967296^i%4294967296<4294967296:=Nat.mod_lt _ (by decide)
 simp only[Option.bind_some,show decide ((i:Int)<(a.length:Int))=true by simp;omega,cond_true]
 rw[aQ hgx,Option.bind_some]
 refine aJ (fun k=>((k:Int),mC 4294967296 (vl a) (vl b) i k,dy 4294967296 (a.length+b.length) (mV 4294967296 (vl a) (vl b) i k))) b.length (mC 4294967296 (vl a) (vl b) i b.length,dy 4294967296 (a.length+b.length) (mV 4294967296 (vl a) (vl b) i b.length)) (by simp[S4,S3]) (fun k hk=>?_) (by simp) ?_
 ·have hgy:=kH hB hk
  have hgp:=X7 (B:=4294967296) (by decide) (V:=vl a) (W:=vl b) (i:=i) (k:=k) (N:=a.length+b.length) (by omega)
  have hy:val 4294967296 b/4294967296^k%4294967296<4294967296:=Nat.mod_lt _ (by decide)
  have hp:vl a%4294967296^i*vl b/4294967296^(i+k)%4294967296<4294967296:=Nat.mod_lt _ (by decide)
  have hc:=VH (B:=4294967296) (by decide) (vl a) (vl b) i k
  have hxy:val 4294967296 a/4294967296^i%4294967296*(val 4294967296 b/4294967296^k%4294967296)≤4294967295*4294967295:=Nat.mul_le_mul (by omega) (by omega)
  simp only[Option.bind_some,show decide ((k:Int)<(b.length:Int))=true by simp;omega,cond_true]
  rw[aQ hgy,Option.bind_some,kG (by omega),eX (by rw[aT];omega),Option.bind_some,hgp,Option.bind_some]
  rw[Nat.mod_eq_of_lt (a:=vl a%4294967296^i*vl b/4294967296^(i+k)%4294967296) (by omega),Nat.mod_eq_of_lt (a:=val 4294967296 a/4294967296^i%4294967296) (b:=18446744073709551616) (by omega),Nat.mod_eq_of_lt (a:=val 4294967296 b/4294967296^k%4294967296) (b:=18446744073709551616) (by omega),Nat.mod_eq_of_lt (a:=val 4294967296 a/4294967296^i%4294967296*(val 4294967296 b/4294967296^k%4294967296)) (by omega),Nat.mod_eq_of_lt (a:=vl a%4294967296^i*vl b/4294967296^(i+k)%4294967296+_) (by omega),gI _ _ (by omega)]
  simp only[Option.bind_some]
  rw[je (by rw[aT];omega),Option.bind_some,SZ (B:=4294967296) (by decide),S0 (B:=4294967296) (by decide) (by omega),aW (by omega)]
 ·have hc:=VH (B:=4294967296) (by decide) (vl a) (vl b) i b.length
  simp only[Option.bind_some]
  rw[kG (by omega),gI _ _ (by omega)]
  simp only[Option.bind_some]
  rw[eX (by rw[aT];omega),Option.bind_some,je (by rw[aT];omega),Option.bind_some,X8 (B:=4294967296) (by decide) (eY b hB) (by omega),aW (by omega)]
end Go.Proofs.YtfoldppidpmchaaGreat
