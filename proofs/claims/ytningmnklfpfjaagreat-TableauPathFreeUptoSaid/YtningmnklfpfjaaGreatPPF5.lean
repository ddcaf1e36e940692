/- A part of the proof: the framework, the plain functions, the followed functions, the plain laws. -/
import Derived.Test.YtningmnklfpfjaaGreatPPF4
set_option linter.unusedVariables false
set_option linter.unusedSimpArgs false
namespace Go.Proofs.YtningmnklfpfjaaGreat
open Go.Fw
noncomputable def eJ(x0:Lr)(x1:List Int):Option (Bool×Int×(List (List Qr))×(List Int)×(List (List Qr))):=match x0 with|⟨aC,aD,aM,aN⟩=>b9 (fun(o7:Bool)=>(bif o7 then none else(some (aM.length:Int)).bind fun oM=>(some (IntKind.i64.wrap (aC+oM))).bind fun iq=>(D4 1 iq (false:Bool)).bind fun uB=>(some (x1.length:Int)).bind fun iD=>(bQ (fun(s21:Int×(List Bool))=>match s21 with|⟨DJ,xY⟩=>(show Option ((Int×(List Bool))⊕((Unit)⊕(Bool×Int×(List (List Qr))×(List Int)×(List (List Qr)))))from(some (decide ((DJ:Int)<iD))).bind fun m8=>(bif m8 then(cz x1 DJ).bind fun ow=>b9 (fun(Lx:Bool)=>(bif Lx then none else(kQ xY ow).bind fun Mz=>(stM xY Mz true).bind fun l29=>(some (IntKind.i64.wrap (DJ+1))).bind fun yI=>some (.inl (yI,l29)))) fun K27=>(some (decide ((ow:Int)<0))).bind fun yB=>(bif yB then some true else(some (xY.length:Int)).bind fun oZ=>(some (decide ((oZ:Int)≤ow))).bind fun tJ=>some tJ).bind fun Ri=>(bif Ri then some true else(kQ xY ow).bind fun rI=>(xY[rI]?).bind fun Iw=>some Iw).bind fun Zb=>K27 Zb else some (.inr (.inl ()))))) (0,uB)).bind fun e21=>match e21 with|.inr v21=>some v21|.inl _=>(dw ⟨aC,aD,aM,aN⟩).bind fun⟨o8,qp,V3,V4,V5⟩=>(some (x1.length:Int)).bind fun SD=>(bQ (fun(SH:Int×(List (List Qr))×(List Int)×(List (List Qr)))=>match SH with|⟨gS,nH,nI,dg⟩=>(show Option ((Int×(List (List Qr))×(List Int)×(List (List Qr)))⊕(((List (List Qr))×(List Int)×(List (List Qr)))⊕(Bool×Int×(List (List Qr))×(List Int)×(List (List Qr)))))from(some (decide ((gS:Int)<SD))).bind fun EX=>(bif EX then(cz x1 gS).bind fun SI=>(bQ (fun(kF:Int)=>(show Option ((Int)⊕(Int))from b9 (fun(xZ:Bool)=>(bif xZ then(some (IntKind.i64.wrap (kF+1))).bind fun Iz=>some (.inl Iz)else some (.inr kF))) fun K80=>(some (dg.length:Int)).bind fun D7=>(some (decide ((kF:Int)<D7))).bind fun Km=>(bif Km then(kQ dg kF).bind fun TX=>(dg[TX]?).bind fun Iy=>(cz Iy SI).bind fun⟨⟨Fu,Fv⟩,⟨Fx,Fy⟩⟩=>(eM ⟨⟨Fu,Fv⟩,⟨Fx,Fy⟩⟩).bind fun SG=>(some (decide ((SG:Int)=0))).bind fun Pp=>some Pp else some false).bind fun Al=>K80 Al)) gS).bind fun nq=>(some (dg.length:Int)).bind fun Me=>(some (decide ((nq:Int)=Me))).bind fun NT=>(bif NT then none else(kQ dg nq).bind fun JC=>(dg[JC]?).bind fun Cv=>(kQ dg gS).bind fun Eo=>(dg[Eo]?).bind fun Rj=>(kQ dg gS).bind fun T1=>(stM dg T1 Cv).bind fun l84=>(kQ l84 nq).bind fun T2=>(stM l84 T2 Rj).bind fun l85=>(bZ o8 qp nH nI l85 gS SI).bind fun⟨l89,l90,l91⟩=>(some (IntKind.i64.wrap (gS+1))).bind fun Cx=>some (.inl (Cx,l89,l90,l91)))else some (.inr (.inl (nH,nI,dg)))))) (0,V3,V4,V5)).bind fun e67=>match e67 with|.inr v67=>some v67|.inl ⟨MB,Hg,MC⟩=>some (o8,qp,MB,(vN Hg x1),MC))) fun K3=>(iu ⟨aC,aD,aM,aN⟩).bind fun fg=>(some (!fg)).bind fun dR=>(bif dR then some true else(some (x1.length:Int)).bind fun fF=>(some (aM.length:Int)).bind fun ik=>(some (decide ((fF:Int)≠ik))).bind fun jB=>some jB).bind fun Rk=>K3 Rk
noncomputable def ef(o0:Bool)(o1:Int)(o2:List (List Qr))(o3:List Int)(o4:List (List Qr)):Option (List Int):=(bK (⟨o0,o1,o2,o3,o4⟩:Tb)).bind fun x5=>(bif x5 then some []else(some (o3.length:Int)).bind fun ek=>(D4 8 ek (0:Int)).bind fun iI=>some (vN iI o3))
noncomputable def ez(o0:Bool)(o1:Int)(o2:List (List Qr))(o3:List Int)(o4:List (List Qr)):Option (List (List Qr)):=(bK (⟨o0,o1,o2,o3,o4⟩:Tb)).bind fun x7=>(bif x7 then some []else(some (o4.length:Int)).bind fun dW=>(bQ (fun(s6:Int×(List (List Qr)))=>match s6 with|⟨ze,Hh⟩=>(show Option ((Int×(List (List Qr)))⊕((List (List Qr))))from(some (decide ((ze:Int)<dW))).bind fun fg=>(bif fg then(kQ o4 ze).bind fun dR=>(o4[dR]?).bind fun iY=>(dr (⟨o0,o1,o2,o3,o4⟩:Tb)).bind fun gO=>(fY iY gO).bind fun ik=>(zM 24 Hh [ik]).bind fun jJ=>(some (IntKind.i64.wrap (ze+1))).bind fun ir=>some (.inl (ir,jJ))else some (.inr Hh)))) (0,[])).bind fun Am=>some Am)
noncomputable def kG(o0:Bool)(o1:Int)(o2:List (List Qr))(o3:List Int)(o4:List (List Qr)):Option ((List Int)×(List (List Qr))×Bool):=(ef o0 o1 o2 o3 o4).bind fun ek=>(ez o0 o1 o2 o3 o4).bind fun dW=>(some (ek.length:Int)).bind fun fg=>(some (dW.length:Int)).bind fun iY=>(some (decide ((fg:Int)≠iY))).bind fun gx=>(bif gx then some ([],[],false)else(bQ (fun(Zc:Int×(List Int)×(List (List Qr)))=>match Zc with|⟨DK,DL,Hi⟩=>(show Option ((Int×(List Int)×(List (List Qr)))⊕((List Int)×(List (List Qr))))from(some (DL.length:Int)).bind fun gO=>(some (decide ((DK:Int)<gO))).bind fun ik=>(bif ik then(bQ (fun(Zd:Int×(List Int)×(List (List Qr)))=>match Zd with|⟨qJ,mG,qW⟩=>(show Option ((Int×(List Int)×(List (List Qr)))⊕((List Int)×(List (List Qr))))from b9 (fun(Ly:Bool)=>(bif Ly then(some (IntKind.i64.wrap (qJ-1))).bind fun xA=>(some (IntKind.i64.wrap (qJ-1))).bind fun rI=>(kQ mG rI).bind fun Iw=>(mG[Iw]?).bind fun ri=>(kQ mG qJ).bind fun Mz=>(mG[Mz]?).bind fun yI=>(kQ mG qJ).bind fun wA=>(stM mG wA ri).bind fun Rl=>(kQ Rl xA).bind fun D5=>(stM Rl D5 yI).bind fun Rm=>(some (IntKind.i64.wrap (qJ-1))).bind fun D6=>(some (IntKind.i64.wrap (qJ-1))).bind fun VZ=>(kQ qW VZ).bind fun Ve=>(qW[Ve]?).bind fun Kj=>(kQ qW qJ).bind fun Md=>(qW[Md]?).bind fun D7=>(kQ qW qJ).bind fun Km=>(stM qW Km Kj).bind fun l68=>(kQ l68 D6).bind fun KJ=>(stM l68 KJ D7).bind fun Tk=>(some (IntKind.i64.wrap (qJ-1))).bind fun lO=>some (.inl (lO,Rm,Tk))else some (.inr (mG,qW)))) fun K61=>(some (decide ((0:Int)<qJ))).bind fun lG=>(bif lG then(kQ mG qJ).bind fun uB=>(mG[uB]?).bind fun rf=>(some (IntKind.i64.wrap (qJ-1))).bind fun m8=>(kQ mG m8).bind fun ow=>(mG[ow]?).bind fun oP=>(some (decide ((rf:Int)<oP))).bind fun sK=>some sK else some false).bind fun Rn=>K61 Rn)) (DK,DL,Hi)).bind fun e58=>match e58 with|⟨Lz,LA⟩=>(some (IntKind.i64.wrap (DK+1))).bind fun jJ=>some (.inl (jJ,Lz,LA))else some (.inr (DL,Hi))))) (1,ek,dW)).bind fun e40=>match e40 with|⟨LB,LC⟩=>some (LB,LC,true))
end Go.Proofs.YtningmnklfpfjaaGreat
namespace Go.Proofs.YtningmnklfpfjaaGreat
open Go.Fw Go.Fw.Z Go.RowKit
set_option maxHeartbeats 4000000 in
theorem n9{x0:Lr}{x1:List Int}{r:Bool×Int×(List (List Qr))×(List Int)×(List (List Qr))}(h:eJ x0 x1=some r):Le Tryz.prog 30 [.agg (Kh x0),slc 1 (List.map bj x1)] true [.v (.int .i64 0)] 79 [.s (.v (.bool r.1)),.s (.v (.int .i64 r.2.1)),.r (TR 23 1 (eS 4 eQ) r.2.2.1),.r (TR 3 1 bj r.2.2.2.1),.r (TR 23 1 (eS 4 eQ) r.2.2.2.2)]:=by
 obtain⟨aC,aD,aM,aN⟩:=x0
 refine AK (t1:=4) (t2:=5) Tryz.func30 rfl (Nat.le_of_ble_eq_true rfl) rfl (fun cO M vs hvs=>?_)
 unfold eJ at h
 refine sr<|bx rfl<|ag rfl<|ag rfl<|dn<|qq<|qq ?_
 refine aF h (fun j3=>AS.bJ 133 [(1,.sv (slc 1 (List.map bj x1))),(2,.ptr 2 0),(23,.sv (.v (.bool j3)))] [(2,⟨25,[.sv (.v (.int .i64 aC)),.sv (slc 1 (List.map (eS 4 eQ) aD)),.sv (slc 1 (List.map (eS 4 eQ) aM)),.sv (slc 4 (List.map eQ aN))]⟩)] []) (fun h=>?_) (fun o7 h=>?_)
 refine af<|ld rfl rfl (.cons rfl (.cons rfl (.cons rfl (.cons rfl (.nil)))))<|bE h fun fg jv h=>cl (qD jv) ⟨rfl,trivial⟩<|lE h fun dR fT h=>nt rfl _ fT<|mv rfl<|bE h fun Rk JD h=>?_
 cases dR
 refine gm rfl<|lE (F JD) fun fF iM JD=>gn rfl iM<|RT.fieldAddr (.some rfl rfl) rfl T rfl<|RT.sy (.some rfl rfl) rfl rfl rfl T<|lE JD fun ik ni JD=>gn rfl ni<|lE JD fun jB nS JD=>gq _ rfl rfl (F6 (p:=fF) (q:=ik) nS) ?_
 obtain rfl:=O JD
 exact pF rfl<|dn<|⟨jB,h,wR []⟩
 obtain rfl:=O (V JD)
 exact ww<|ww<|ww<|ww<|ww<|ww<|pT rfl<|dn<|⟨true,h,wR []⟩
 try dsimp only
 refine ae.n ?_
 cases o7
 refine fs<|sr<|fa rfl rfl<|lV rfl rfl rfl<|fa rfl rfl<|lV rfl rfl rfl<|lE (F h) fun oM sS h=>ln rfl sS<|lE h fun iq jw h=>ad _ rfl rfl jw<|bE h fun uB uJ h=>RT.kW (n:=1) (e:=eB) .none rfl rfl T rfl T (by rfl) (by decide) (by exact⟨SV.aa _,trivial⟩) uJ<|an (s:=.row _) rfl<|dn<|qq<|sr<|mv rfl<|lE h fun iD kV h=>ln rfl kV<|mv rfl ?_
 refine dn<|bE h fun e21 aiJ Ro=>?_
 refine aT (fun(Ze:Unit)=>AS.bJ 133 [(1,.sv (slc 1 (List.map bj x1))),(2,.ptr 2 0)] [(2,⟨25,[.sv (.v (.int .i64 aC)),.sv (slc 1 (List.map (eS 4 eQ) aD)),.sv (slc 1 (List.map (eS 4 eQ) aM)),.sv (slc 4 (List.map eQ aN))]⟩)] []) (fun Ze=>.inl Ze=e21) ?_ (fun Ze aiK=>?_)
 refine ak ?_
 refine aU aiJ (fun s21=>AS.bJ 133 [(1,.sv (slc 1 (List.map bj x1))),(2,.ptr 2 0),(6,.row 30),(31,.sv (slc 1 (List.map bj x1))),(32,.sv (.v (.int .i64 iD))),(33,.sv (.v (.int .i64 s21.1)))] [(2,⟨25,[.sv (.v (.int .i64 aC)),.sv (slc 1 (List.map (eS 4 eQ) aD)),.sv (slc 1 (List.map (eS 4 eQ) aM)),.sv (slc 4 (List.map eQ aN))]⟩)] [(30,TR 4 1 eB s21.2)]) (wR []) (fun s21 y21 G21 h aiL aiM=>?_)
 obtain⟨DJ,xY⟩:=s21
 try dsimp only
 refine sr<|lE h fun m8 o9 h=>ls _ rfl rfl o9<|dn<|qq ?_
 cases m8
 refine cF<|bf<|ae.x<|ae.x<|aK.x<|ae.n ?_
 obtain rfl:=O (F h)
 exact⟨(),aiM _ rfl,wR []⟩
 refine cT<|aH<|ae.n<|qq<|ak<|sr<|bE (V h) fun ow xD h=>ix rfl rfl xD<|lr rfl rfl<|ag rfl<|dn<|qq<|qq ?_
 refine aF h (fun j27=>AS.bJ 133 [(1,.sv (slc 1 (List.map bj x1))),(2,.ptr 2 0),(6,.row 30),(8,.sv (.v (.int .i64 ow))),(31,.sv (slc 1 (List.map bj x1))),(32,.sv (.v (.int .i64 iD))),(33,.sv (.v (.int .i64 DJ))),(50,.sv (.v (.bool j27)))] [(2,⟨25,[.sv (.v (.int .i64 aC)),.sv (slc 1 (List.map (eS 4 eQ) aD)),.sv (slc 1 (List.map (eS 4 eQ) aM)),.sv (slc 4 (List.map eQ aN))]⟩)] [(30,TR 4 1 eB xY)]) (fun h=>?_) (fun Lx h=>?_)
 refine af<|mv rfl<|lE h fun yB Gn h=>ls _ rfl rfl Gn<|mv rfl<|bE h fun Ri qf h=>?_
 cases yB
 refine gm rfl<|RT.move (.some rfl rfl) (s:=.row _) rfl T<|lE (F qf) fun oZ xE qf=>RT.O3 (.some rfl rfl) rfl rfl T xE<|lE qf fun tJ BF qf=>RT.geq (.some rfl rfl) _ rfl rfl T BF ?_
 obtain rfl:=O qf
 refine pF rfl<|mv rfl<|bE h fun aiN z7 h=>?_
 cases tJ
 refine RT.move (.some rfl rfl) (s:=.row _) rfl T<|gm rfl<|bE (F z7) fun rI h48 z7=>RT.O4 (.some rfl rfl) rfl rfl rfl T h48<|bE z7 fun Iw KS z7=>RT.Np (.some rfl rfl) rfl rfl KS rfl T ?_
 obtain rfl:=O z7
 exact pF rfl<|dn<|⟨Iw,h,wR []⟩
 obtain rfl:=O (V z7)
 exact ww<|ww<|ww<|ww<|pT rfl<|dn<|⟨true,h,wR []⟩
 obtain rfl:=O (V qf)
 refine ww<|ww<|ww<|ww<|pT rfl<|mv rfl<|bE h fun aiO Qu h=>?_
 obtain rfl:=O (V Qu)
 exact ww<|ww<|ww<|ww<|pT rfl<|dn<|⟨true,h,wR []⟩
 try dsimp only
 refine ae.n ?_
 cases Lx
 refine fs<|af<|mo (s:=.row _) rfl<|mv rfl<|bE (F h) fun Mz NA h=>iR rfl rfl rfl NA<|bE h fun l29 acX h=>sR true rfl rfl rfl rfl acX<|RT.done<|aK.n<|ae.n<|af<|lE h fun yI Er h=>ad _ rfl rfl Er<|mv rfl<|RT.done ?_
 obtain rfl:=O h
 exact ae.n ⟨(yI,l29),aiL _ rfl,wR []⟩
 refine cT<|sr<|ag rfl<|ag rfl<|dn<|aj<|ae.r<|aK.r<|ae.r ?_
 replace h:=V h
 cases h
 subst aiK
 try dsimp only
 refine ae.n<|sr<|ld rfl rfl (.cons rfl (.cons rfl (.cons rfl (.cons rfl (.nil))))) ?_
 obtain⟨⟨o8,qp,V3,V4,V5⟩,Ep,Ro⟩:=bS Ro
 refine RT.Lf .none (jP Ep) [304,305,306] (by decide) rfl ⟨⟨rfl,T⟩,⟨rfl,T⟩,⟨rfl,T⟩,trivial⟩ rfl ⟨rfl,trivial⟩ T rfl rfl<|an (s:=.ptr _ _) rfl<|dn<|qq<|sr<|mv rfl<|lE Ro fun SD h58 Ro=>ln rfl h58<|mv rfl<|dn<|bE Ro fun e67 aiP aiQ=>?_
 refine aT (fun(LD:(List (List Qr))×(List Int)×(List (List Qr)))=>AS.bJ 133 [(1,.sv (slc 1 (List.map bj x1))),(9,.ptr 56 0)] [(56,⟨79,[.sv (.v (.bool o8)),.sv (.v (.int .i64 qp)),.row 313,.row 314,.row 315]⟩)] [(313,TR 23 1 (eS 4 eQ) LD.1),(314,TR 3 1 bj LD.2.1),(315,TR 23 1 (eS 4 eQ) LD.2.2)]) (fun LD=>.inl LD=e67) ?_ (fun LD aiR=>?_)
 refine ak ?_
 refine aU aiP (fun SH=>AS.bJ 133 [(1,.sv (slc 1 (List.map bj x1))),(9,.ptr 56 0),(57,.sv (slc 1 (List.map bj x1))),(58,.sv (.v (.int .i64 SD))),(59,.sv (.v (.int .i64 SH.1)))] [(56,⟨79,[.sv (.v (.bool o8)),.sv (.v (.int .i64 qp)),.row 313,.row 314,.row 315]⟩)] [(313,TR 23 1 (eS 4 eQ) SH.2.1),(314,TR 3 1 bj SH.2.2.1),(315,TR 23 1 (eS 4 eQ) SH.2.2.2)]) (cy (fun i=>bif Nat.beq i 313 then 304 else bif Nat.beq i 314 then 305 else bif Nat.beq i 315 then 306 else i) rfl rfl rfl rfl rfl ⟨.sv (SV.aa _),.ptr,.sv (SV.aa _),.sv (SV.aa _),.sv (SV.aa _),trivial⟩ ⟨⟨_,rfl,⟨.sv (SV.aa _),.sv (SV.aa _),.row rfl,.row rfl,.row rfl,trivial⟩⟩,trivial⟩ ⟨⟨_,rfl,bB.refl _⟩,⟨_,rfl,bB.refl _⟩,⟨_,rfl,bB.refl _⟩,trivial⟩ (fun i hi=>by rw[bp (show i≠313 by omega)];rw[bp (show i≠314 by omega)];rw[bp (show i≠315 by omega)];rfl)) (fun SH y67 G67 h aiS aiT=>?_)
 obtain⟨gS,nH,nI,dg⟩:=SH
 try dsimp only
 refine sr<|lE h fun EX KT h=>ls _ rfl rfl KT<|dn<|qq ?_
 cases EX
 refine cF<|bf<|ae.x<|ae.x<|aK.x<|ae.n ?_
 obtain rfl:=O (F h)
 exact⟨(nH,nI,dg),aiT _ rfl,wR []⟩
 refine cT<|aH<|ae.n<|qq<|ak<|sr<|mv rfl<|bE (V h) fun SI h62 h=>ix rfl rfl h62<|lr rfl rfl<|ag rfl<|ag rfl<|dn<|sr<|mv rfl<|ag rfl<|dn<|qq<|bE h fun e77 aiU mQ=>?_
 refine aT (fun(nq:Int)=>AS.bJ 133 [(1,.sv (slc 1 (List.map bj x1))),(9,.ptr 56 0),(10,.sv (.v (.int .i64 gS))),(11,.sv (.v (.int .i64 SI))),(12,.sv (.v (.int .i64 nq))),(57,.sv (slc 1 (List.map bj x1))),(58,.sv (.v (.int .i64 SD))),(59,.sv (.v (.int .i64 gS)))] [(56,⟨79,[.sv (.v (.bool o8)),.sv (.v (.int .i64 qp)),.row 313,.row 314,.row 315]⟩)] [(313,TR 23 1 (eS 4 eQ) nH),(314,TR 3 1 bj nI),(315,TR 23 1 (eS 4 eQ) dg)]) (fun nq=>nq=e77) ?_ (fun nq aiV=>?_)
 refine ak ?_
 refine aU aiU (fun s77=>AS.bJ 133 [(1,.sv (slc 1 (List.map bj x1))),(9,.ptr 56 0),(10,.sv (.v (.int .i64 gS))),(11,.sv (.v (.int .i64 SI))),(12,.sv (.v (.int .i64 s77))),(57,.sv (slc 1 (List.map bj x1))),(58,.sv (.v (.int .i64 SD))),(59,.sv (.v (.int .i64 gS)))] [(56,⟨79,[.sv (.v (.bool o8)),.sv (.v (.int .i64 qp)),.row 313,.row 314,.row 315]⟩)] [(313,TR 23 1 (eS 4 eQ) nH),(314,TR 3 1 bj nI),(315,TR 23 1 (eS 4 eQ) dg)]) (wR []) (fun kF y77 G77 h aiW aiX=>?_)
 try dsimp only
 refine qq<|qq ?_
 refine aF h (fun j80=>AS.bJ 133 [(1,.sv (slc 1 (List.map bj x1))),(9,.ptr 56 0),(10,.sv (.v (.int .i64 gS))),(11,.sv (.v (.int .i64 SI))),(12,.sv (.v (.int .i64 kF))),(57,.sv (slc 1 (List.map bj x1))),(58,.sv (.v (.int .i64 SD))),(59,.sv (.v (.int .i64 gS))),(85,.sv (.v (.bool j80)))] [(56,⟨79,[.sv (.v (.bool o8)),.sv (.v (.int .i64 qp)),.row 313,.row 314,.row 315]⟩)] [(313,TR 23 1 (eS 4 eQ) nH),(314,TR 3 1 bj nI),(315,TR 23 1 (eS 4 eQ) dg)]) (fun h=>?_) (fun xZ h=>?_)
 refine af<|mv rfl<|mo (s:=.ptr _ _) rfl<|RT.bY .none rfl T<|fa rfl rfl<|RT.c7 .none (s:=.row _) rfl rfl rfl T<|lE h fun D7 Tn h=>lL rfl rfl Tn<|lE h fun Km YO h=>ls _ rfl rfl YO<|mv rfl<|bE h fun Al tZ h=>?_
 cases Km
 obtain rfl:=O (F tZ)
 exact ww<|ww<|ww<|ww<|ww<|ww<|ww<|ww<|ww<|ww<|ww<|ww<|pF rfl<|dn<|⟨false,h,wR []⟩
 refine RT.move (.some rfl rfl) (s:=.ptr _ _) rfl T<|RT.bY (.some rfl rfl) rfl T<|RT.fieldAddr (.some rfl rfl) rfl T rfl<|RT.c7 (.some rfl rfl) (s:=.row _) rfl rfl rfl T<|gm rfl<|bE (V tZ) fun TX h78 tZ=>RT.O4 (.some rfl rfl) rfl rfl rfl T h78<|bE tZ fun Iy Tp tZ=>RT.Np (e:=(eS 4 eQ)) (.some rfl rfl) rfl rfl Tp rfl T<|gm rfl ?_
 obtain⟨⟨⟨Fu,Fv⟩,⟨Fx,Fy⟩⟩,h81,tZ⟩:=bS tZ
 refine RT.S8 (.some rfl rfl) rfl rfl T h81<|RT.iW (cs:=[_,_,_,_]) (.some rfl rfl) rfl T rfl rfl<|bE tZ fun SG h83 tZ=>gc (jk h83) ⟨rfl,trivial⟩<|lE tZ fun Pp h84 tZ=>ge_ _ rfl rfl (ua (p:=SG) (q:=0) h84) ?_
 obtain rfl:=O tZ
 exact pT rfl<|dn<|⟨Pp,h,wR []⟩
 try dsimp only
 refine ae.n ?_
 cases xZ
 refine cF<|bf<|ae.x<|ae.x<|aK.x<|ae.n ?_
 obtain rfl:=O (F h)
 exact⟨kF,aiX _ rfl,wR []⟩
 refine cT<|aH<|ae.n<|ak<|af<|mv rfl<|lE (V h) fun Iz XG h=>ad _ rfl rfl XG<|ag rfl<|RT.done<|aK.n ?_
 obtain rfl:=O h
 exact ae.n ⟨Iz,aiW _ rfl,wR []⟩
 subst aiV
 try dsimp only
 refine ae.n<|qq<|sr<|mv rfl<|mo (s:=.ptr _ _) rfl<|RT.bY .none rfl T<|fa rfl rfl<|RT.c7 .none (s:=.row _) rfl rfl rfl T<|lE mQ fun Me XI mQ=>lL rfl rfl XI<|lE mQ fun NT h94 mQ=>eq _ rfl rfl (ua (p:=nq) (q:=Me) h94)<|dn ?_
 cases NT
 refine fs<|qq<|ai mixed<|mo (s:=.ptr _ _) rfl<|RT.bY .none rfl T<|fa rfl rfl<|RT.c7 .none (s:=.row _) rfl rfl rfl T<|mv rfl<|mo (s:=.ptr _ _) rfl<|RT.bY .none rfl T<|fa rfl rfl<|RT.c7 .none (s:=.row _) rfl rfl rfl T<|mv rfl<|mo (s:=.ptr _ _) rfl<|RT.bY .none rfl T<|fa rfl rfl<|RT.c7 .none (s:=.row _) rfl rfl rfl T<|mv rfl<|bE (F mQ) fun JC Zf mQ=>?_
 refine iR rfl rfl rfl Zf<|bE mQ fun Cv PW mQ=>lR (e:=(eS 4 eQ)) rfl rfl PW rfl<|mo (s:=.ptr _ _) rfl<|RT.bY .none rfl T<|fa rfl rfl<|RT.c7 .none (s:=.row _) rfl rfl rfl T<|mv rfl<|bE mQ fun Eo PY mQ=>iR rfl rfl rfl PY<|bE mQ fun Rj aiY mQ=>lR (e:=(eS 4 eQ)) rfl rfl aiY rfl<|bE mQ fun T1 aiZ mQ=>iR rfl rfl rfl aiZ<|bE mQ fun l84 acY mQ=>sR Cv rfl rfl rfl rfl acY<|bE mQ fun T2 ai0 mQ=>?_
 refine iR rfl rfl rfl ai0<|bE mQ fun l85 acZ mQ=>sR Rj rfl rfl rfl rfl acZ ?_
 refine RT.done ⟨by kernel_rfl,?_⟩
 refine ae.n<|af<|mo (s:=.ptr _ _) rfl<|mv rfl<|mv rfl ?_
 obtain⟨⟨l89,l90,l91⟩,PZ,mQ⟩:=bS mQ
 refine RT.Di .none (jW PZ) 56 [313,314,315] [325,326,327] rfl ⟨rfl,rfl,rfl,trivial⟩ (by decide) (by decide) rfl ⟨⟨rfl,T⟩,⟨rfl,T⟩,⟨rfl,T⟩,trivial⟩ rfl rfl (.cons rfl (.cons rfl (.cons rfl (.nil)))) T<|RT.done<|aK.n<|ae.n<|af<|lE mQ fun Cx P0 mQ=>ad _ rfl rfl P0<|mv rfl<|RT.done ?_
 obtain rfl:=O mQ
 exact ae.n ⟨(Cx,l89,l90,l91),aiS _ rfl,cy (fun i=>bif Nat.beq i 313 then 325 else bif Nat.beq i 314 then 326 else bif Nat.beq i 315 then 327 else i) rfl rfl rfl rfl rfl ⟨.sv (SV.aa _),.ptr,.sv (SV.aa _),.sv (SV.aa _),.sv (SV.aa _),trivial⟩ ⟨⟨_,rfl,⟨.sv (SV.aa _),.sv (SV.aa _),.row rfl,.row rfl,.row rfl,trivial⟩⟩,trivial⟩ ⟨⟨_,rfl,bB.refl _⟩,⟨_,rfl,bB.refl _⟩,⟨_,rfl,bB.refl _⟩,trivial⟩ (fun i hi=>by rw[bp (show i≠313 by omega)];rw[bp (show i≠314 by omega)];rw[bp (show i≠315 by omega)];rfl)⟩
 refine cT<|sr<|ag rfl<|ag rfl<|dn<|aj<|ae.r<|aK.r<|ae.r ?_
 replace mQ:=V mQ
 cases mQ
 subst aiR
 obtain⟨MB,Hg,MC⟩:=LD
 try dsimp only
 refine ae.n<|sr<|mo (s:=.ptr _ _) rfl<|RT.bY .none rfl T<|fa rfl rfl<|RT.c7 .none (s:=.row _) rfl rfl rfl T<|mv rfl<|RT.VL (l:=Hg) (k:=x1) (e:=bj) .none rfl rfl rfl T rfl<|dn<|sr<|mo (s:=.ptr _ _) rfl<|an (s:=.ptr _ _) rfl<|ag rfl<|dn<|aj ?_
 obtain rfl:=O aiQ
 exact⟨.inr rfl,56,[313,314,315],rfl,rfl,rfl,⟨rfl,rfl,rfl,trivial⟩,by decide⟩
 refine cT<|sr<|ag rfl<|ag rfl<|dn<|aj<|ae.r ?_
 replace h:=V h
 cases h
theorem qX{o0:Bool}{o1:Int}{o2:List (List Qr)}{o3:List Int}{o4:List (List Qr)}{r:List Int}(h:ef o0 o1 o2 o3 o4=some r):AL Tryz.prog 17 (fun _=>[.ptr 1000 0]) 79 [.s (.v (.bool o0)),.s (.v (.int .i64 o1)),.r (TR 23 1 (eS 4 eQ) o2),.r (TR 3 1 bj o3),.r (TR 23 1 (eS 4 eQ) o4)] (TJ (TR 3 1 bj r)):=by
 refine AN [1001,1002,1003] Tryz.func17 rfl (fun _=>(Nat.le_of_ble_eq_true rfl)) (fun _=>rfl) (by decide) rfl rfl ⟨⟨_,rfl⟩,⟨_,rfl⟩,trivial,trivial,trivial,trivial⟩ (fun cO M β us=>?_)
 unfold ef at h
 refine sr<|ag rfl<|dn<|bt (fR 2 304 3 1 rfl rfl T)<|qq<|sr<|mo (s:=.ptr _ _) rfl<|bE h fun x5 h5 h=>RT.cW .none (pN h5) 1000 [1001,1002,1003] rfl ⟨rfl,rfl,rfl,trivial⟩ (by decide) rfl rfl (.cons rfl (.nil)) T<|dn ?_
 cases x5
 refine fs<|sr<|mo (s:=.ptr _ _) rfl<|RT.bY .none rfl T<|fa rfl rfl<|RT.c7 .none (s:=.row _) rfl rfl rfl T<|lE (F h) fun ek gC h=>lL rfl rfl gC<|bE h fun iI nh h=>RT.kW (n:=1) (e:=bj) .none rfl rfl T rfl T (by rfl) (by decide) (by exact⟨SV.aa _,trivial⟩) nh<|an (s:=.row _) rfl<|dn<|sr<|mo (s:=.row _) rfl<|mo (s:=.ptr _ _) rfl<|RT.bY .none rfl T<|fa rfl rfl ?_
 refine RT.c7 .none (s:=.row _) rfl rfl rfl T<|RT.Za (l:=iI) (k:=o3) (e:=bj) .none (fun _=>⟨_,rfl,rfl⟩) (by decide) rfl rfl rfl rfl T rfl<|dn<|sr<|mo (s:=.row _) rfl<|an (s:=.row _) rfl<|dn<|aj ?_
 obtain rfl:=O h
 exact⟨.inr rfl,⟨_,.tmp rfl,rfl,by decide⟩,rfl,⟨rfl,rfl,rfl,trivial⟩⟩
 refine cT<|sr<|ag rfl<|dn<|bt (fR 2 310 3 1 rfl rfl T)<|aj<|ae.r ?_
 obtain rfl:=O (V h)
 exact⟨.inr rfl,⟨_,.tmp rfl,rfl,by decide⟩,rfl,⟨rfl,rfl,rfl,trivial⟩⟩
theorem rU{o0:Bool}{o1:Int}{o2:List (List Qr)}{o3:List Int}{o4:List (List Qr)}{r:List (List Qr)}(h:ez o0 o1 o2 o3 o4=some r):AL Tryz.prog 18 (fun _=>[.ptr 1000 0]) 79 [.s (.v (.bool o0)),.s (.v (.int .i64 o1)),.r (TR 23 1 (eS 4 eQ) o2),.r (TR 3 1 bj o3),.r (TR 23 1 (eS 4 eQ) o4)] (TJ (TR 23 1 (eS 4 eQ) r)):=by
 refine AN [1001,1002,1003] Tryz.func18 rfl (fun _=>(Nat.le_of_ble_eq_true rfl)) (fun _=>rfl) (by decide) rfl rfl ⟨⟨_,rfl⟩,⟨_,rfl⟩,trivial,trivial,trivial,trivial⟩ (fun cO M β us=>?_)
 unfold ez at h
 refine sr<|ag rfl<|dn<|bt (fR 2 304 23 1 rfl rfl T)<|qq<|sr<|mo (s:=.ptr _ _) rfl<|bE h fun x7 h7 h=>RT.cW .none (pN h7) 1000 [1001,1002,1003] rfl ⟨rfl,rfl,rfl,trivial⟩ (by decide) rfl rfl (.cons rfl (.nil)) T<|dn ?_
 cases x7
 refine fs<|sr<|ag rfl<|dn<|bt (fR 3 314 23 1 rfl rfl T)<|qq<|sr<|mo (s:=.ptr _ _) rfl<|RT.bY .none rfl T<|fa rfl rfl<|RT.c7 .none (s:=.row _) rfl rfl rfl T<|lE (F h) fun dW fj h=>lL rfl rfl fj<|mv rfl<|dn<|bE h fun e6 CI jd=>?_
 refine aT (fun(Am:(List (List Qr)))=>AS.bJ 26 [(3,.row 316)] [(1000,⟨79,[.sv (.v (.bool o0)),.sv (.v (.int .i64 o1)),.row 1001,.row 1002,.row 1003]⟩)] [(316,TR 23 1 (eS 4 eQ) Am),(1001,TR 23 1 (eS 4 eQ) o2),(1002,TR 3 1 bj o3),(1003,TR 23 1 (eS 4 eQ) o4)]) (fun Am=>Am=e6) ?_ (fun Am CJ=>?_)
 refine ak ?_
 refine aU CI (fun s6=>AS.bJ 26 [(0,.ptr 1000 0),(3,.row 316),(11,.row 1003),(12,.sv (.v (.int .i64 dW))),(13,.sv (.v (.int .i64 s6.1)))] [(1000,⟨79,[.sv (.v (.bool o0)),.sv (.v (.int .i64 o1)),.row 1001,.row 1002,.row 1003]⟩)] [(316,TR 23 1 (eS 4 eQ) s6.2),(1003,TR 23 1 (eS 4 eQ) o4),(1001,TR 23 1 (eS 4 eQ) o2),(1002,TR 3 1 bj o3)]) (cy (fun i=>bif Nat.beq i 316 then 314 else i) rfl rfl rfl rfl rfl ⟨.ptr,.row rfl,.row rfl,.sv (SV.aa _),.sv (SV.aa _),trivial⟩ ⟨⟨_,rfl,⟨.sv (SV.aa _),.sv (SV.aa _),.row rfl,.row rfl,.row rfl,trivial⟩⟩,trivial⟩ ⟨⟨_,rfl,bB.refl _⟩,⟨_,rfl,bB.refl _⟩,⟨_,rfl,bB.refl _⟩,⟨_,rfl,bB.refl _⟩,trivial⟩ (fun i hi=>by rw[bp (show i≠316 by omega)];rfl)) (fun s6 y6 G6 h CK yJ=>?_)
 obtain⟨ze,Hh⟩:=s6
 try dsimp only
 refine sr<|lE h fun fg jv h=>ls _ rfl rfl jv<|dn<|qq ?_
 cases fg
 refine cF<|bf<|ae.x<|ae.x<|aK.x<|ae.n ?_
 obtain rfl:=O (F h)
 exact⟨Hh,yJ _ rfl,wR []⟩
 refine cT<|aH<|ae.n<|qq<|ak<|sr<|bE (V h) fun dR fT h=>iR rfl rfl rfl fT<|bE h fun iY kX h=>lR (e:=(eS 4 eQ)) rfl rfl kX rfl<|ag rfl<|dn<|af<|mo (s:=.row _) rfl<|mv rfl<|mo (s:=.ptr _ _) rfl<|bE h fun gO lW h=>RT.cW .none (zf lW) 1000 [1001,1002,1003] rfl ⟨rfl,rfl,rfl,trivial⟩ (by decide) rfl rfl (.cons rfl (.nil)) T<|bE h fun ik ni h=>cl (wV ni) ⟨rfl,rfl,trivial⟩<|bl (l:=[ik]) (e:=(eS 4 eQ)) (.one rfl (.nil)) rfl rfl rfl rfl rfl rfl ?_
 refine bE h fun jJ qb h=>aR (k:=[ik]) (e:=(eS 4 eQ)) rfl rfl rfl qb<|an (s:=.row _) rfl<|RT.done<|aK.n<|ae.n<|af<|lE h fun ir mP h=>ad _ rfl rfl mP<|mv rfl<|RT.done ?_
 obtain rfl:=O h
 exact ae.n ⟨(ir,jJ),CK _ rfl,cy (fun i=>bif Nat.beq i 316 then 23 else i) rfl rfl rfl rfl rfl ⟨.ptr,.row rfl,.row rfl,.sv (SV.aa _),.sv (SV.aa _),trivial⟩ ⟨⟨_,rfl,⟨.sv (SV.aa _),.sv (SV.aa _),.row rfl,.row rfl,.row rfl,trivial⟩⟩,trivial⟩ ⟨⟨_,rfl,bB.refl _⟩,⟨_,rfl,bB.refl _⟩,⟨_,rfl,bB.refl _⟩,⟨_,rfl,bB.refl _⟩,trivial⟩ (fun i hi=>by rw[bp (show i≠316 by omega)];rfl)⟩
 subst CJ
 try dsimp only
 refine ae.n<|sr<|mo (s:=.row _) rfl<|an (s:=.row _) rfl<|dn<|aj ?_
 obtain rfl:=O jd
 exact⟨.inr rfl,⟨_,.tmp rfl,rfl,by decide⟩,rfl,⟨rfl,rfl,rfl,trivial⟩⟩
 refine cT<|sr<|ag rfl<|dn<|bt (fR 2 310 23 1 rfl rfl T)<|aj<|ae.r ?_
 obtain rfl:=O (V h)
 exact⟨.inr rfl,⟨_,.tmp rfl,rfl,by decide⟩,rfl,⟨rfl,rfl,rfl,trivial⟩⟩
set_option maxHeartbeats 4000000 in
theorem Bt{o0:Bool}{o1:Int}{o2:List (List Qr)}{o3:List Int}{o4:List (List Qr)}{r:(List Int)×(List (List Qr))×Bool}(h:kG o0 o1 o2 o3 o4=some r):xN Tryz.prog 44 [.ptr 1000 0] 79 [.s (.v (.bool o0)),.s (.v (.int .i64 o1)),.r (TR 23 1 (eS 4 eQ) o2),.r (TR 3 1 bj o3),.r (TR 23 1 (eS 4 eQ) o4)] (.wm [slc 1 (List.map bj r.1),slc 1 (List.map (eS 4 eQ) r.2.1),.v (.bool r.2.2)]):=by
 refine Lh [1001,1002,1003] Tryz.func44 rfl (Nat.le_of_ble_eq_true rfl) rfl (by decide) rfl rfl ⟨⟨_,rfl⟩,⟨_,rfl⟩,trivial,trivial,trivial,trivial⟩ (fun cO M β us=>?_)
 unfold kG at h
 refine sr<|aI rfl (imp_nil (n:=1) (e:=bj))<|aI rfl (imp_nil (n:=1) (e:=(eS 4 eQ)))<|ag rfl<|dn<|sr<|mo (s:=.ptr _ _) rfl<|bE h fun ek gC h=>RT.Mm .none (qX gC) 1000 [1001,1002,1003] rfl ⟨rfl,rfl,rfl,trivial⟩ (by decide) rfl rfl (.cons rfl (.nil)) T rfl T<|mo (s:=.ptr _ _) rfl<|bE h fun dW fj h=>RT.Mm .none (rU fj) 1000 [1001,1002,1003] rfl ⟨rfl,rfl,rfl,trivial⟩ (by decide) rfl rfl (.cons rfl (.nil)) T rfl T ?_
 refine an (s:=.row _) rfl<|an (s:=.row _) rfl<|dn<|qq<|sr<|mo (s:=.row _) rfl<|lE h fun fg jv h=>lL rfl rfl jv<|mo (s:=.row _) rfl<|lE h fun iY kX h=>lL rfl rfl kX<|lE h fun gx lH h=>ne _ rfl rfl (F6 (p:=fg) (q:=iY) lH)<|dn ?_
 cases gx
 refine fs<|qq<|sr<|ag rfl<|dn<|bE (F h) fun e40 ai1 ai2=>?_
 refine aT (fun(NU:(List Int)×(List (List Qr)))=>AS.bJ 75 [(5,.row 10),(6,.row 12)] [(1000,⟨79,[.sv (.v (.bool o0)),.sv (.v (.int .i64 o1)),.row 1001,.row 1002,.row 1003]⟩)] [(10,TR 3 1 bj NU.1),(12,TR 23 1 (eS 4 eQ) NU.2),(1001,TR 23 1 (eS 4 eQ) o2),(1002,TR 3 1 bj o3),(1003,TR 23 1 (eS 4 eQ) o4)]) (fun NU=>NU=e40) ?_ (fun NU ai3=>?_)
 refine ak ?_
 refine aU ai1 (fun Zc=>AS.bJ 75 [(5,.row 10),(6,.row 12),(7,.sv (.v (.int .i64 Zc.1)))] [(1000,⟨79,[.sv (.v (.bool o0)),.sv (.v (.int .i64 o1)),.row 1001,.row 1002,.row 1003]⟩)] [(10,TR 3 1 bj Zc.2.1),(12,TR 23 1 (eS 4 eQ) Zc.2.2),(1001,TR 23 1 (eS 4 eQ) o2),(1002,TR 3 1 bj o3),(1003,TR 23 1 (eS 4 eQ) o4)]) (wR []) (fun Zc y40 G40 h ai4 ai5=>?_)
 obtain⟨DK,DL,Hi⟩:=Zc
 try dsimp only
 refine qq<|sr<|mv rfl<|mo (s:=.row _) rfl<|lE h fun gO lW h=>lL rfl rfl lW<|lE h fun ik ni h=>ls _ rfl rfl ni<|dn ?_
 cases ik
 refine cF<|bf<|ae.x<|ae.x<|aK.x<|ae.n ?_
 obtain rfl:=O (F h)
 exact⟨(DL,Hi),ai5 _ rfl,wR []⟩
 refine cT<|aH<|ae.n<|qq<|ak<|sr<|mv rfl<|ag rfl<|dn<|bE (V h) fun e58 ai6 Zg=>?_
 refine aT (fun(NV:(List Int)×(List (List Qr)))=>AS.bJ 75 [(5,.row 10),(6,.row 12),(7,.sv (.v (.int .i64 DK)))] [(1000,⟨79,[.sv (.v (.bool o0)),.sv (.v (.int .i64 o1)),.row 1001,.row 1002,.row 1003]⟩)] [(10,TR 3 1 bj NV.1),(12,TR 23 1 (eS 4 eQ) NV.2),(1001,TR 23 1 (eS 4 eQ) o2),(1002,TR 3 1 bj o3),(1003,TR 23 1 (eS 4 eQ) o4)]) (fun NV=>NV=e58) ?_ (fun NV ai7=>?_)
 refine ak ?_
 refine aU ai6 (fun Zd=>AS.bJ 75 [(5,.row 10),(6,.row 12),(7,.sv (.v (.int .i64 DK))),(8,.sv (.v (.int .i64 Zd.1)))] [(1000,⟨79,[.sv (.v (.bool o0)),.sv (.v (.int .i64 o1)),.row 1001,.row 1002,.row 1003]⟩)] [(10,TR 3 1 bj Zd.2.1),(12,TR 23 1 (eS 4 eQ) Zd.2.2),(1001,TR 23 1 (eS 4 eQ) o2),(1002,TR 3 1 bj o3),(1003,TR 23 1 (eS 4 eQ) o4)]) (wR []) (fun Zd y58 G58 h ai8 ai9=>?_)
 obtain⟨qJ,mG,qW⟩:=Zd
 try dsimp only
 refine qq<|qq ?_
 refine aF h (fun j61=>AS.bJ 75 [(5,.row 10),(6,.row 12),(7,.sv (.v (.int .i64 DK))),(8,.sv (.v (.int .i64 qJ))),(38,.sv (.v (.bool j61)))] [(1000,⟨79,[.sv (.v (.bool o0)),.sv (.v (.int .i64 o1)),.row 1001,.row 1002,.row 1003]⟩)] [(10,TR 3 1 bj mG),(12,TR 23 1 (eS 4 eQ) qW),(1001,TR 23 1 (eS 4 eQ) o2),(1002,TR 3 1 bj o3),(1003,TR 23 1 (eS 4 eQ) o4)]) (fun h=>?_) (fun Ly h=>?_)
 refine ai mixed<|mv rfl<|lE h fun lG oQ h=>gt _ rfl rfl oQ<|mv rfl<|bE h fun Rn qV h=>?_
 cases lG
 obtain rfl:=O (F qV)
 refine ww<|ww<|ww<|ww<|ww<|ww<|ww<|ww<|ww<|ww<|pF rfl ?_
 refine RT.done ⟨by kernel_rfl,?_⟩
 exact ae.n<|⟨false,h,wR []⟩
 refine RT.move (.some rfl rfl) (s:=.row _) rfl T<|gm rfl<|bE (V qV) fun uB uJ qV=>RT.O4 (.some rfl rfl) rfl rfl rfl T uJ<|bE qV fun rf xC qV=>RT.Np (.some rfl rfl) rfl rfl xC rfl T<|RT.move (.some rfl rfl) (s:=.row _) rfl T<|gm rfl<|lE qV fun m8 o9 qV=>RT.sub (.some rfl rfl) _ rfl rfl T o9<|bE qV fun ow xD qV=>RT.O4 (.some rfl rfl) rfl rfl rfl T xD<|bE qV fun oP qe qV=>RT.Np (.some rfl rfl) rfl rfl qe rfl T<|lE qV fun sK yN qV=>RT.lss (.some rfl rfl) _ rfl rfl T yN ?_
 obtain rfl:=O qV
 refine pT rfl ?_
 refine RT.done ⟨by kernel_rfl,?_⟩
 exact ae.n<|⟨sK,h,wR []⟩
 try dsimp only
 refine ae.n ?_
 cases Ly
 refine cF<|bf<|ae.x<|ae.x<|aK.x<|ae.n ?_
 obtain rfl:=O (F h)
 exact⟨(mG,qW),ai9 _ rfl,wR []⟩
 refine cT<|aH<|ae.n<|qq<|ak<|qq<|ai mixed<|mo (s:=.row _) rfl<|mv rfl<|mo (s:=.row _) rfl<|mv rfl<|lE (V h) fun xA Gp h=>sb _ rfl rfl Gp<|mo (s:=.row _) rfl<|mv rfl<|lE h fun rI h48 h=>sb _ rfl rfl h48<|bE h fun Iw KS h=>iR rfl rfl rfl KS<|bE h fun ri A8 h=>lR rfl rfl A8 rfl<|mo (s:=.row _) rfl<|mv rfl<|bE h fun Mz NA h=>iR rfl rfl rfl NA ?_
 refine bE h fun yI Er h=>lR rfl rfl Er rfl<|bE h fun wA IJ h=>iR rfl rfl rfl IJ<|bE h fun Rl ac0 h=>sR ri rfl rfl rfl rfl ac0<|bE h fun D5 Ep h=>iR rfl rfl rfl Ep<|bE h fun Rm ac1 h=>sR yI rfl rfl rfl rfl ac1 ?_
 refine RT.done ⟨by kernel_rfl,?_⟩
 refine ae.n<|ai mixed<|mo (s:=.row _) rfl<|mv rfl<|mo (s:=.row _) rfl<|mv rfl<|lE h fun D6 KU h=>sb _ rfl rfl KU<|mo (s:=.row _) rfl<|mv rfl<|lE h fun VZ h64 h=>sb _ rfl rfl h64<|bE h fun Ve h65 h=>iR rfl rfl rfl h65<|bE h fun Kj Xs h=>lR (e:=(eS 4 eQ)) rfl rfl Xs rfl<|mo (s:=.row _) rfl<|mv rfl<|bE h fun Md Tm h=>iR rfl rfl rfl Tm<|bE h fun D7 Tn h=>?_
 refine lR (e:=(eS 4 eQ)) rfl rfl Tn rfl<|bE h fun Km YO h=>iR rfl rfl rfl YO<|bE h fun l68 ac2 h=>sR Kj rfl rfl rfl rfl ac2<|bE h fun KJ To h=>iR rfl rfl rfl To<|bE h fun Tk IK h=>sR D7 rfl rfl rfl rfl IK ?_
 refine RT.done ⟨by kernel_rfl,?_⟩
 refine aK.n<|ae.n<|af<|mv rfl<|lE h fun lO oc h=>sb _ rfl rfl oc<|ag rfl<|RT.done ?_
 obtain rfl:=O h
 exact ae.n ⟨(lO,Rm,Tk),ai8 _ rfl,wR []⟩
 subst ai7
 obtain⟨Lz,LA⟩:=NV
 try dsimp only
 refine aK.n<|ae.n<|af<|mv rfl<|lE Zg fun jJ qb Zg=>ad _ rfl rfl qb<|ag rfl<|RT.done ?_
 obtain rfl:=O Zg
 exact ae.n ⟨(jJ,Lz,LA),ai4 _ rfl,wR []⟩
 subst ai3
 obtain⟨LB,LC⟩:=NU
 try dsimp only
 refine ae.n<|sr<|mo (s:=.row _) rfl<|mo (s:=.row _) rfl<|an (s:=.row _) rfl<|an (s:=.row _) rfl<|ag rfl<|dn<|bt (dD (i:=10) (E1:=3) (n:=1) (e:=bj) (l:=LB) rfl)<|bt (dD (i:=12) (E1:=23) (n:=1) (e:=(eS 4 eQ)) (l:=LC) rfl)<|aj ?_
 obtain rfl:=O ai2
 exact⟨.inr rfl,gL (.tmp rfl (.tmp rfl (.tmp rfl (.nil)))) (SV.aa _),rfl,⟨rfl,rfl,rfl,trivial⟩⟩
 refine cT<|sr<|aI rfl (imp_nil (n:=1) (e:=bj))<|aI rfl (imp_nil (n:=1) (e:=(eS 4 eQ)))<|ag rfl<|dn<|aj<|ae.r ?_
 obtain rfl:=O (V h)
 exact⟨.inr rfl,gL (.tmp rfl (.tmp rfl (.tmp rfl (.nil)))) (SV.aa _),rfl,⟨rfl,rfl,rfl,trivial⟩⟩
end Go.Proofs.YtningmnklfpfjaaGreat
namespace Go.Proofs.YtningmnklfpfjaaGreat
open Go.Fw
noncomputable def fm(x0:Lr)(x1:List Pv)(x2:Pv):Option (Bool):=match x0 with|⟨aC,aD,aM,aN⟩=>match x2 with|⟨gR,iN⟩=>b9 (fun(DM:Bool)=>(bif DM then(dN).bind fun vS=>some vS else(iw ⟨aC,aD,aM,aN⟩).bind fun⟨iQ,iS,Dr,Ds,Rp⟩=>b9 (fun(Rr:Bool)=>(bif Rr then b9 (fun(V6:Bool)=>some V6) fun YH=>(bif false then none else some false).bind fun Rt=>(bif Rt then(dN).bind fun xA=>some xA else some false).bind fun Zh=>YH Zh else(bQ (fun(Kl:Int×(List (List Qr))×(List Int)×(List (List Qr)))=>match Kl with|⟨JE,BK,BL,BM⟩=>(show Option ((Int×(List (List Qr))×(List Int)×(List (List Qr)))⊕((List (List Qr))×(List Int)×(List (List Qr))))from(some (x1.length:Int)).bind fun Iw=>(some (decide ((JE:Int)<Iw))).bind fun ri=>(bif ri then(cz x1 JE).bind fun⟨o8,qp⟩=>(cz x1 JE).bind fun⟨ac3,V7⟩=>(aA iQ iS BK BL BM o8 V7).bind fun⟨VZ,l34,l35,l36⟩=>(some (IntKind.i64.wrap (JE+1))).bind fun uc=>some (.inl (uc,l34,l35,l36))else some (.inr (BK,BL,BM))))) (0,Dr,Ds,Rp)).bind fun YG=>match YG with|⟨jn,lu,lz⟩=>(ee (⟨iQ,iS,jn,lu,lz⟩:Tb)).bind fun KH=>(eJ ⟨aC,aD,aM,aN⟩ KH).bind fun⟨w6,w7,w8,w9,xb⟩=>(kG iQ iS jn lu lz).bind fun⟨Zi,Zj,ac4⟩=>b9 (fun(Hj:Bool)=>(bif Hj then some false else(eJ ⟨aC,aD,aM,aN⟩ Zi).bind fun⟨Hl,Ho,Hp,Hq,Hr⟩=>b9 (fun(Hs:Bool)=>(bif Hs then some false else(ee (⟨iQ,iS,jn,lu,lz⟩:Tb)).bind fun NW=>(aA iQ iS jn lu lz gR iN).bind fun⟨Zk,Rl,Rm,Zl⟩=>(some (decide ((Zk:Int)≠0))).bind fun Zm=>(bif Zm then b9 (fun(V8:Bool)=>some V8) fun K77=>(ee (⟨iQ,iS,Rl,Rm,Zl⟩:Tb)).bind fun ac5=>(hH ac5 NW).bind fun Zn=>(bif Zn then(fN (⟨w6,w7,w8,w9,xb⟩:Tb)).bind fun ac6=>(fN (⟨iQ,iS,Rl,Rm,Zl⟩:Tb)).bind fun ac7=>(eP ac6 ac7).bind fun Zo=>some Zo else some false).bind fun MD=>(bif MD then(dN).bind fun Zp=>some Zp else some false).bind fun T3=>K77 T3 else b9 (fun(V9:Bool×(List (List Qr))×(List Int)×(List (List Qr)))=>match V9 with|⟨Ht,BN,BO,BP⟩=>(bif Ht then some false else b9 (fun(Ru:Bool)=>some Ru) fun ajd=>(ee (⟨iQ,iS,BN,BO,BP⟩:Tb)).bind fun ac8=>(hH ac8 NW).bind fun Zq=>(bif Zq then(fN (⟨w6,w7,w8,w9,xb⟩:Tb)).bind fun ac9=>(fN (⟨iQ,iS,BN,BO,BP⟩:Tb)).bind fun ada=>(eP ac9 ada).bind fun Zs=>some Zs else some false).bind fun JF=>(bif JF then(e9 (⟨w6,w7,w8,w9,xb⟩:Tb)).bind fun adb=>(e9 (⟨iQ,iS,BN,BO,BP⟩:Tb)).bind fun ade=>(cK adb ade).bind fun Zt=>some Zt else some false).bind fun Rv=>(bif Rv then(dN).bind fun Zu=>some Zu else some false).bind fun Rw=>ajd Rw)) fun K99=>(some (decide ((gR:Int)<0))).bind fun Zv=>(bif Zv then some true else(some (NW.length:Int)).bind fun adf=>(some (decide ((adf:Int)≤gR))).bind fun Zw=>some Zw).bind fun JG=>(bif JG then some (true,Rl,Rm,Zl)else(cz NW gR).bind fun adg=>(aA iQ iS Rl Rm Zl gR adg).bind fun⟨Zx,aje,ajf,ajg⟩=>(some (decide ((Zx:Int)≠0))).bind fun Zy=>some (Zy,aje,ajf,ajg)).bind fun⟨Rx,LF,LG,LH⟩=>K99 (Rx,LF,LG,LH)))) fun K60=>(bif false then none else some false).bind fun JH=>(bif JH then some true else(fN (⟨Hl,Ho,Hp,Hq,Hr⟩:Tb)).bind fun adh=>(eP adh Zj).bind fun Nx=>(some (!Nx)).bind fun KM=>some KM).bind fun Ry=>(bif Ry then some true else(fD (⟨Hl,Ho,Hp,Hq,Hr⟩:Tb)).bind fun IB=>(fD (⟨iQ,iS,jn,lu,lz⟩:Tb)).bind fun Ny=>(cK IB Ny).bind fun IC=>(some (!IC)).bind fun KN=>some KN).bind fun Rz=>(bif Rz then some true else(cQ (⟨Hl,Ho,Hp,Hq,Hr⟩:Tb)).bind fun adi=>(cQ (⟨iQ,iS,jn,lu,lz⟩:Tb)).bind fun adj=>(eP adi adj).bind fun adk=>(some (!adk)).bind fun Zz=>some Zz).bind fun RA=>K60 RA)) fun K50=>(bif false then none else some false).bind fun ME=>(bif ME then some true else(some (!ac4)).bind fun Pq=>some Pq).bind fun T4=>(bif T4 then some true else(ee (⟨w6,w7,w8,w9,xb⟩:Tb)).bind fun SE=>(ee (⟨iQ,iS,jn,lu,lz⟩:Tb)).bind fun x92=>(hH SE x92).bind fun Me=>(some (!Me)).bind fun NT=>some NT).bind fun T5=>(bif T5 then some true else(fN (⟨w6,w7,w8,w9,xb⟩:Tb)).bind fun YF=>(fN (⟨iQ,iS,jn,lu,lz⟩:Tb)).bind fun NK=>(eP YF NK).bind fun adl=>(some (!adl)).bind fun KK=>some KK).bind fun RB=>(bif RB then some true else(cQ (⟨w6,w7,w8,w9,xb⟩:Tb)).bind fun IA=>(cQ (⟨iQ,iS,jn,lu,lz⟩:Tb)).bind fun adm=>(eP IA adm).bind fun adn=>(some (!adn)).bind fun JC=>some JC).bind fun RC=>K50 RC)) fun K6=>(bif false then none else some false).bind fun MF=>K6 MF)) fun K3=>(kP ⟨aC,aD,aM,aN⟩).bind fun kS=>(bif kS then some true else(some (x1.length:Int)).bind fun jB=>(some (decide ((12:Int)<jB))).bind fun jJ=>some jJ).bind fun MG=>K3 MG
noncomputable def fo(x0:Lr)(x1:List Pv)(x2:Pv):Option (Bool):=match x0 with|⟨aC,aD,aM,aN⟩=>match x2 with|⟨gR,iN⟩=>b9 (fun(DM:Bool)=>(bif DM then(dN).bind fun vS=>some vS else(pP ⟨aC,aD,aM,aN⟩).bind fun _=>b9 (fun(Wa:Bool)=>some Wa) fun K12=>(iu ⟨aC,aD,aM,aN⟩).bind fun tG=>(some (!tG)).bind fun oZ=>(bif oZ then(dN).bind fun xA=>some xA else some false).bind fun RE=>K12 RE)) fun K3=>(kP ⟨aC,aD,aM,aN⟩).bind fun kS=>(bif kS then some true else(some (x1.length:Int)).bind fun jB=>(some (decide ((12:Int)<jB))).bind fun jJ=>some jJ).bind fun RF=>K3 RF
noncomputable def fI(x0:Lr)(x1:List Pv)(x2:Pv):Option (Bool):=if iu x0=some true then fm x0 x1 x2 else fo x0 x1 x2
end Go.Proofs.YtningmnklfpfjaaGreat
namespace Go.Proofs.YtningmnklfpfjaaGreat
open Go.Fw Go.Fw.Z Go.RowKit
set_option maxHeartbeats 4000000 in
theorem qg{x0:Lr}{x1:List Pv}{x2:Pv}{r:Bool}(h:fm x0 x1 x2=some r):Pure Tryz.prog 7 [.agg (Kh x0),slc 2 (List.map L8 x1),.agg (L8 x2)] (.v (.bool r)):=by
 obtain⟨aC,aD,aM,aN⟩:=x0
 obtain⟨gR,iN⟩:=x2
 refine ay Tryz.func7 rfl (Nat.le_of_ble_eq_true rfl) (fun cO M vs hvs=>?_)
 unfold fm at h
 refine sr<|bx rfl<|bx rfl<|ag rfl<|dn<|qq<|qq ?_
 refine aF h (fun j3=>AS.bJ 213 [(1,.sv (slc 2 (List.map L8 x1))),(3,.ptr 3 0),(5,.ptr 5 0),(24,.sv (.v (.bool j3)))] [(5,⟨38,[.sv (.v (.int .i64 gR)),.sv (.v (.int .i64 iN))]⟩),(3,⟨25,[.sv (.v (.int .i64 aC)),.sv (slc 1 (List.map (eS 4 eQ) aD)),.sv (slc 1 (List.map (eS 4 eQ) aM)),.sv (slc 4 (List.map eQ aN))]⟩)] []) (fun h=>?_) (fun DM h=>?_)
 refine af<|ld rfl rfl (.cons rfl (.cons rfl (.cons rfl (.cons rfl (.nil)))))<|bE h fun kS kJ h=>cl (w5 kJ) ⟨rfl,trivial⟩<|mv rfl<|bE h fun MG Fz h=>?_
 cases kS
 refine gm rfl<|lE (F Fz) fun jB nS Fz=>gn rfl nS<|lE Fz fun jJ qb Fz=>gg _ rfl rfl qb ?_
 obtain rfl:=O Fz
 exact pF rfl<|dn<|⟨jJ,h,wR []⟩
 obtain rfl:=O (V Fz)
 exact ww<|ww<|ww<|pT rfl<|dn<|⟨true,h,wR []⟩
 try dsimp only
 refine ae.n ?_
 cases DM
 refine fs<|sr<|ld rfl rfl (.cons rfl (.cons rfl (.cons rfl (.cons rfl (.nil))))) ?_
 obtain⟨⟨iQ,iS,Dr,Ds,Rp⟩,sS,h⟩:=bS (F h)
 refine RT.BG .none (vr sS) [304,305,306] (by decide) rfl ⟨⟨rfl,T⟩,⟨rfl,T⟩,⟨rfl,T⟩,trivial⟩ rfl ⟨rfl,trivial⟩ T rfl rfl<|mo (s:=.cmp _ _) rfl<|RT.nZ .none rfl rfl T<|RT.nZ .none rfl rfl T<|an (s:=.ptr _ _) rfl<|ag rfl<|dn<|qq<|qq ?_
 refine aF h (fun j6=>AS.bJ 213 [(1,.sv (slc 2 (List.map L8 x1))),(3,.ptr 3 0),(5,.ptr 5 0),(7,.ptr 28 0),(8,.sv (.v (.int .i64 0))),(36,.sv (.v (.bool j6)))] [(28,⟨79,[.sv (.v (.bool iQ)),.sv (.v (.int .i64 iS)),.row 304,.row 305,.row 306]⟩),(5,⟨38,[.sv (.v (.int .i64 gR)),.sv (.v (.int .i64 iN))]⟩),(3,⟨25,[.sv (.v (.int .i64 aC)),.sv (slc 1 (List.map (eS 4 eQ) aD)),.sv (slc 1 (List.map (eS 4 eQ) aM)),.sv (slc 4 (List.map eQ aN))]⟩)] [(304,TR 23 1 (eS 4 eQ) Dr),(305,TR 3 1 bj Ds),(306,TR 23 1 (eS 4 eQ) Rp)]) (fun h=>?_) (fun Rr h=>?_)
 refine af<|mv rfl<|ne false rfl rfl (by decide)<|mv rfl<|bE h fun MF ado h=>RT.move (.some rfl rfl) (s:=.ptr _ _) rfl T<|RT.GM (.some rfl rfl) rfl rfl T ?_
 obtain rfl:=O (F ado)
 exact pF rfl<|dn<|⟨false,h,wR []⟩
 try dsimp only
 refine ae.n ?_
 cases Rr
 refine fs<|qq<|sr<|ag rfl<|dn<|bE (F h) fun YG YK bM=>?_
 refine aT (fun(zh:(List (List Qr))×(List Int)×(List (List Qr)))=>AS.bJ 213 [(3,.ptr 3 0),(5,.ptr 5 0),(7,.ptr 28 0)] [(28,⟨79,[.sv (.v (.bool iQ)),.sv (.v (.int .i64 iS)),.row 313,.row 314,.row 315]⟩),(5,⟨38,[.sv (.v (.int .i64 gR)),.sv (.v (.int .i64 iN))]⟩),(3,⟨25,[.sv (.v (.int .i64 aC)),.sv (slc 1 (List.map (eS 4 eQ) aD)),.sv (slc 1 (List.map (eS 4 eQ) aM)),.sv (slc 4 (List.map eQ aN))]⟩)] [(313,TR 23 1 (eS 4 eQ) zh.1),(314,TR 3 1 bj zh.2.1),(315,TR 23 1 (eS 4 eQ) zh.2.2)]) (fun zh=>zh=YG) ?_ (fun zh YL=>?_)
 refine ak ?_
 refine aU YK (fun Kl=>AS.bJ 213 [(1,.sv (slc 2 (List.map L8 x1))),(3,.ptr 3 0),(5,.ptr 5 0),(7,.ptr 28 0),(9,.sv (.v (.int .i64 Kl.1)))] [(28,⟨79,[.sv (.v (.bool iQ)),.sv (.v (.int .i64 iS)),.row 313,.row 314,.row 315]⟩),(5,⟨38,[.sv (.v (.int .i64 gR)),.sv (.v (.int .i64 iN))]⟩),(3,⟨25,[.sv (.v (.int .i64 aC)),.sv (slc 1 (List.map (eS 4 eQ) aD)),.sv (slc 1 (List.map (eS 4 eQ) aM)),.sv (slc 4 (List.map eQ aN))]⟩)] [(313,TR 23 1 (eS 4 eQ) Kl.2.1),(314,TR 3 1 bj Kl.2.2.1),(315,TR 23 1 (eS 4 eQ) Kl.2.2.2)]) (cy (fun i=>bif Nat.beq i 313 then 304 else bif Nat.beq i 314 then 305 else bif Nat.beq i 315 then 306 else i) rfl rfl rfl rfl rfl ⟨.sv (SV.aa _),.ptr,.ptr,.ptr,.sv (SV.aa _),trivial⟩ ⟨⟨_,rfl,⟨.sv (SV.aa _),.sv (SV.aa _),.row rfl,.row rfl,.row rfl,trivial⟩⟩,⟨_,rfl,⟨.sv (SV.aa _),.sv (SV.aa _),trivial⟩⟩,⟨_,rfl,⟨.sv (SV.aa _),.sv (SV.aa _),.sv (SV.aa _),.sv (SV.aa _),trivial⟩⟩,trivial⟩ ⟨⟨_,rfl,bB.refl _⟩,⟨_,rfl,bB.refl _⟩,⟨_,rfl,bB.refl _⟩,trivial⟩ (fun i hi=>by rw[bp (show i≠313 by omega)];rw[bp (show i≠314 by omega)];rw[bp (show i≠315 by omega)];rfl)) (fun Kl y30 G30 h YM YN=>?_)
 obtain⟨JE,BK,BL,BM⟩:=Kl
 try dsimp only
 refine qq<|sr<|mv rfl<|mv rfl<|lE h fun Iw KS h=>ln rfl KS<|lE h fun ri A8 h=>ls _ rfl rfl A8<|dn ?_
 cases ri
 refine cF<|bf<|ae.x<|ae.x<|aK.x<|ae.n ?_
 obtain rfl:=O (F h)
 exact⟨(BK,BL,BM),YN _ rfl,wR []⟩
 refine cT<|aH<|ae.n<|qq<|ak<|ai mixed<|mo (s:=.ptr _ _) rfl<|mv rfl<|mv rfl ?_
 obtain⟨⟨o8,qp⟩,Ep,h⟩:=bS (V h)
 refine ix rfl rfl Ep<|RT.bh .none rfl T rfl<|lr rfl rfl<|mv rfl<|mv rfl ?_
 obtain⟨⟨ac3,V7⟩,KU,h⟩:=bS h
 refine ix rfl rfl KU<|RT.bh .none rfl T rfl<|lr rfl rfl ?_
 obtain⟨⟨VZ,l34,l35,l36⟩,h64,h⟩:=bS h
 refine RT.Di .none (dM h64) 28 [313,314,315] [325,326,327] rfl ⟨rfl,rfl,rfl,trivial⟩ (by decide) (by decide) rfl ⟨⟨rfl,T⟩,⟨rfl,T⟩,⟨rfl,T⟩,trivial⟩ rfl rfl (.cons rfl (.cons rfl (.cons rfl (.nil)))) T ?_
 refine RT.done ⟨by kernel_rfl,?_⟩
 refine aK.n<|ae.n<|af<|mv rfl<|lE h fun uc yL h=>ad _ rfl rfl yL<|ag rfl<|RT.done ?_
 obtain rfl:=O h
 exact ae.n ⟨(uc,l34,l35,l36),YM _ rfl,cy (fun i=>bif Nat.beq i 313 then 325 else bif Nat.beq i 314 then 326 else bif Nat.beq i 315 then 327 else i) rfl rfl rfl rfl rfl ⟨.sv (SV.aa _),.ptr,.ptr,.ptr,.sv (SV.aa _),trivial⟩ ⟨⟨_,rfl,⟨.sv (SV.aa _),.sv (SV.aa _),.row rfl,.row rfl,.row rfl,trivial⟩⟩,⟨_,rfl,⟨.sv (SV.aa _),.sv (SV.aa _),trivial⟩⟩,⟨_,rfl,⟨.sv (SV.aa _),.sv (SV.aa _),.sv (SV.aa _),.sv (SV.aa _),trivial⟩⟩,trivial⟩ ⟨⟨_,rfl,bB.refl _⟩,⟨_,rfl,bB.refl _⟩,⟨_,rfl,bB.refl _⟩,trivial⟩ (fun i hi=>by rw[bp (show i≠313 by omega)];rw[bp (show i≠314 by omega)];rw[bp (show i≠315 by omega)];rfl)⟩
 subst YL
 obtain⟨jn,lu,lz⟩:=zh
 try dsimp only
 refine ae.n<|qq<|ai mixed<|ld rfl rfl (.cons rfl (.cons rfl (.cons rfl (.cons rfl (.nil)))))<|mo (s:=.ptr _ _) rfl<|bE bM fun KH Xt bM=>RT.cW .none (jq Xt) 28 [313,314,315] rfl ⟨rfl,rfl,rfl,trivial⟩ (by decide) rfl rfl (.cons rfl (.nil)) T ?_
 obtain⟨⟨w6,w7,w8,w9,xb⟩,Tm,bM⟩:=bS bM
 refine RT.BG .none (n9 Tm) [331,332,333] (by decide) rfl ⟨⟨rfl,T⟩,⟨rfl,T⟩,⟨rfl,T⟩,trivial⟩ rfl ⟨rfl,rfl,trivial⟩ T rfl rfl<|mo (s:=.cmp _ _) rfl<|RT.nZ .none rfl rfl T<|RT.nZ .none rfl rfl T<|an (s:=.ptr _ _) rfl<|ag rfl ?_
 refine RT.done ⟨by kernel_rfl,?_⟩
 refine ae.n<|sr<|mo (s:=.ptr _ _) rfl ?_
 obtain⟨⟨Zi,Zj,ac4⟩,h74,bM⟩:=bS bM
 refine RT.cW .none (Bt h74) 28 [313,314,315] rfl ⟨rfl,rfl,rfl,trivial⟩ (by decide) rfl rfl (.cons rfl (.nil)) T<|mv rfl<|ex rfl rfl<|ex rfl rfl<|ex rfl rfl<|ag rfl<|ag rfl<|ag rfl<|dn<|qq<|qq ?_
 refine aF bM (fun j50=>AS.bJ 213 [(3,.ptr 3 0),(5,.ptr 5 0),(7,.ptr 28 0),(10,.ptr 69 0),(12,.sv (slc 1 (List.map bj Zi))),(13,.sv (slc 1 (List.map (eS 4 eQ) Zj))),(111,.sv (.v (.bool j50)))] [(69,⟨79,[.sv (.v (.bool w6)),.sv (.v (.int .i64 w7)),.row 331,.row 332,.row 333]⟩),(28,⟨79,[.sv (.v (.bool iQ)),.sv (.v (.int .i64 iS)),.row 313,.row 314,.row 315]⟩),(5,⟨38,[.sv (.v (.int .i64 gR)),.sv (.v (.int .i64 iN))]⟩),(3,⟨25,[.sv (.v (.int .i64 aC)),.sv (slc 1 (List.map (eS 4 eQ) aD)),.sv (slc 1 (List.map (eS 4 eQ) aM)),.sv (slc 4 (List.map eQ aN))]⟩)] [(331,TR 23 1 (eS 4 eQ) w8),(332,TR 3 1 bj w9),(333,TR 23 1 (eS 4 eQ) xb),(313,TR 23 1 (eS 4 eQ) jn),(314,TR 3 1 bj lu),(315,TR 23 1 (eS 4 eQ) lz)]) (fun bM=>?_) (fun Hj bM=>?_)
 refine af<|mv rfl<|ne false rfl rfl (by decide)<|mv rfl<|bE bM fun ME adp bM=>RT.move (.some rfl rfl) (s:=.ptr _ _) rfl T<|RT.GM (.some rfl rfl) rfl rfl T ?_
 obtain rfl:=O (F adp)
 refine pF rfl<|mv rfl<|bE bM fun ae9 RG bM=>gm rfl<|lE (F RG) fun Pq XF RG=>Ki rfl _ XF ?_
 obtain rfl:=O RG
 refine pF rfl<|mv rfl<|bE bM fun afa xd bM=>?_
 cases Pq
 refine RT.move (.some rfl rfl) (s:=.ptr _ _) rfl T<|bE (F xd) fun SE XH xd=>RT.cW (.some rfl rfl) (jq XH) 69 [331,332,333] rfl ⟨rfl,rfl,rfl,trivial⟩ (by decide) rfl rfl (.cons rfl (.nil)) T<|RT.move (.some rfl rfl) (s:=.ptr _ _) rfl T<|bE xd fun x92 h92 xd=>RT.cW (.some rfl rfl) (jq h92) 28 [313,314,315] rfl ⟨rfl,rfl,rfl,trivial⟩ (by decide) rfl rfl (.cons rfl (.nil)) T<|bE xd fun Me XI xd=>gc (nG XI) ⟨rfl,rfl,trivial⟩<|lE xd fun NT h94 xd=>Ki rfl _ h94 ?_
 obtain rfl:=O xd
 refine pF rfl<|mv rfl<|bE bM fun adq xe bM=>?_
 cases NT
 refine RT.move (.some rfl rfl) (s:=.ptr _ _) rfl T<|bE (F xe) fun YF h98 xe=>RT.cW (.some rfl rfl) (kD h98) 69 [331,332,333] rfl ⟨rfl,rfl,rfl,trivial⟩ (by decide) rfl rfl (.cons rfl (.nil)) T<|RT.move (.some rfl rfl) (s:=.ptr _ _) rfl T<|bE xe fun NK YP xe=>RT.cW (.some rfl rfl) (kD YP) 28 [313,314,315] rfl ⟨rfl,rfl,rfl,trivial⟩ (by decide) rfl rfl (.cons rfl (.nil)) T<|bE xe fun adl ajh xe=>gc (kK ajh) ⟨rfl,rfl,trivial⟩<|lE xe fun KK PR xe=>Ki rfl _ PR ?_
 obtain rfl:=O xe
 refine pF rfl<|mv rfl<|bE bM fun adr xg bM=>?_
 cases KK
 refine RT.move (.some rfl rfl) (s:=.ptr _ _) rfl T<|bE (F xg) fun IA PT xg=>RT.cW (.some rfl rfl) (iF PT) 69 [331,332,333] rfl ⟨rfl,rfl,rfl,trivial⟩ (by decide) rfl rfl (.cons rfl (.nil)) T<|RT.move (.some rfl rfl) (s:=.ptr _ _) rfl T<|bE xg fun adm aji xg=>RT.cW (.some rfl rfl) (iF aji) 28 [313,314,315] rfl ⟨rfl,rfl,rfl,trivial⟩ (by decide) rfl rfl (.cons rfl (.nil)) T<|bE xg fun adn ajj xg=>gc (kK ajj) ⟨rfl,rfl,trivial⟩<|lE xg fun JC Zf xg=>?_
 refine Ki rfl _ Zf ?_
 obtain rfl:=O xg
 exact pF rfl<|dn<|⟨JC,bM,wR []⟩
 obtain rfl:=O (V xg)
 exact ww<|ww<|ww<|ww<|ww<|ww<|pT rfl<|dn<|⟨true,bM,wR []⟩
 obtain rfl:=O (V xe)
 refine ww<|ww<|ww<|ww<|ww<|ww<|pT rfl<|mv rfl<|bE bM fun ads adt bM=>?_
 obtain rfl:=O (V adt)
 exact ww<|ww<|ww<|ww<|ww<|ww<|pT rfl<|dn<|⟨true,bM,wR []⟩
 obtain rfl:=O (V xd)
 refine ww<|ww<|ww<|ww<|ww<|ww<|pT rfl<|mv rfl<|bE bM fun adu adv bM=>?_
 obtain rfl:=O (V adv)
 refine ww<|ww<|ww<|ww<|ww<|ww<|pT rfl<|mv rfl<|bE bM fun adw adx bM=>?_
 obtain rfl:=O (V adx)
 exact ww<|ww<|ww<|ww<|ww<|ww<|pT rfl<|dn<|⟨true,bM,wR []⟩
 try dsimp only
 refine ae.n ?_
 cases Hj
 refine fs<|sr<|ld rfl rfl (.cons rfl (.cons rfl (.cons rfl (.cons rfl (.nil)))))<|mv rfl ?_
 obtain⟨⟨Hl,Ho,Hp,Hq,Hr⟩,ajk,bM⟩:=bS (F bM)
 refine RT.BG .none (n9 ajk) [337,338,339] (by decide) rfl ⟨⟨rfl,T⟩,⟨rfl,T⟩,⟨rfl,T⟩,trivial⟩ rfl ⟨rfl,rfl,trivial⟩ T rfl rfl<|mo (s:=.cmp _ _) rfl<|RT.nZ .none rfl rfl T<|RT.nZ .none rfl rfl T<|an (s:=.ptr _ _) rfl<|ag rfl<|dn<|qq<|qq ?_
 refine aF bM (fun j60=>AS.bJ 213 [(5,.ptr 5 0),(7,.ptr 28 0),(10,.ptr 69 0),(146,.sv (.v (.bool j60)))] [(69,⟨79,[.sv (.v (.bool w6)),.sv (.v (.int .i64 w7)),.row 331,.row 332,.row 333]⟩),(28,⟨79,[.sv (.v (.bool iQ)),.sv (.v (.int .i64 iS)),.row 313,.row 314,.row 315]⟩),(5,⟨38,[.sv (.v (.int .i64 gR)),.sv (.v (.int .i64 iN))]⟩)] [(331,TR 23 1 (eS 4 eQ) w8),(332,TR 3 1 bj w9),(333,TR 23 1 (eS 4 eQ) xb),(313,TR 23 1 (eS 4 eQ) jn),(314,TR 3 1 bj lu),(315,TR 23 1 (eS 4 eQ) lz)]) (fun bM=>?_) (fun Hs bM=>?_)
 refine af<|mv rfl<|ne false rfl rfl (by decide)<|mv rfl<|bE bM fun JH ady bM=>RT.move (.some rfl rfl) (s:=.ptr _ _) rfl T<|RT.GM (.some rfl rfl) rfl rfl T ?_
 obtain rfl:=O (F ady)
 refine pF rfl<|mv rfl<|bE bM fun adz DN bM=>RT.move (.some rfl rfl) (s:=.ptr _ _) rfl T<|bE (F DN) fun adh ajl DN=>RT.cW (.some rfl rfl) (kD ajl) 115 [337,338,339] rfl ⟨rfl,rfl,rfl,trivial⟩ (by decide) rfl rfl (.cons rfl (.nil)) T<|gm rfl<|bE DN fun Nx h128 DN=>gc (kK h128) ⟨rfl,rfl,trivial⟩<|lE DN fun KM P1 DN=>Ki rfl _ P1 ?_
 obtain rfl:=O DN
 refine pF rfl<|mv rfl<|bE bM fun adA xh bM=>?_
 cases KM
 refine RT.move (.some rfl rfl) (s:=.ptr _ _) rfl T<|bE (F xh) fun IB P2 xh=>RT.cW (.some rfl rfl) (oC P2) 115 [337,338,339] rfl ⟨rfl,rfl,rfl,trivial⟩ (by decide) rfl rfl (.cons rfl (.nil)) T<|RT.move (.some rfl rfl) (s:=.ptr _ _) rfl T<|bE xh fun Ny P3 xh=>RT.cW (.some rfl rfl) (oC P3) 28 [313,314,315] rfl ⟨rfl,rfl,rfl,trivial⟩ (by decide) rfl rfl (.cons rfl (.nil)) T<|bE xh fun IC P4 xh=>gc (fk P4) ⟨rfl,rfl,trivial⟩<|lE xh fun KN P5 xh=>Ki rfl _ P5 ?_
 obtain rfl:=O xh
 refine pF rfl<|mv rfl<|bE bM fun adB xj bM=>?_
 cases KN
 refine RT.move (.some rfl rfl) (s:=.ptr _ _) rfl T<|bE (F xj) fun adi ajm xj=>RT.cW (.some rfl rfl) (iF ajm) 115 [337,338,339] rfl ⟨rfl,rfl,rfl,trivial⟩ (by decide) rfl rfl (.cons rfl (.nil)) T<|RT.move (.some rfl rfl) (s:=.ptr _ _) rfl T<|bE xj fun adj ajn xj=>RT.cW (.some rfl rfl) (iF ajn) 28 [313,314,315] rfl ⟨rfl,rfl,rfl,trivial⟩ (by decide) rfl rfl (.cons rfl (.nil)) T<|bE xj fun adk ajo xj=>gc (kK ajo) ⟨rfl,rfl,trivial⟩<|lE xj fun Zz ajp xj=>?_
 refine Ki rfl _ ajp ?_
 obtain rfl:=O xj
 exact pF rfl<|dn<|⟨Zz,bM,wR []⟩
 obtain rfl:=O (V xj)
 exact ww<|ww<|ww<|ww<|ww<|ww<|pT rfl<|dn<|⟨true,bM,wR []⟩
 obtain rfl:=O (V xh)
 refine ww<|ww<|ww<|ww<|ww<|ww<|pT rfl<|mv rfl<|bE bM fun adC adD bM=>?_
 obtain rfl:=O (V adD)
 exact ww<|ww<|ww<|ww<|ww<|ww<|pT rfl<|dn<|⟨true,bM,wR []⟩
 try dsimp only
 refine ae.n ?_
 cases Hs
 refine fs<|sr<|mo (s:=.ptr _ _) rfl<|bE (F bM) fun NW ajq bM=>RT.cW .none (jq ajq) 28 [313,314,315] rfl ⟨rfl,rfl,rfl,trivial⟩ (by decide) rfl rfl (.cons rfl (.nil)) T<|ag rfl<|dn<|qq<|sr<|mo (s:=.ptr _ _) rfl<|fa rfl rfl<|lV rfl rfl rfl<|fa rfl rfl<|lV rfl rfl rfl ?_
 obtain⟨⟨Zk,Rl,Rm,Zl⟩,ajr,bM⟩:=bS bM
 refine RT.Di .none (dM ajr) 28 [313,314,315] [343,344,345] rfl ⟨rfl,rfl,rfl,trivial⟩ (by decide) (by decide) rfl ⟨⟨rfl,T⟩,⟨rfl,T⟩,⟨rfl,T⟩,trivial⟩ rfl rfl (.cons rfl (.cons rfl (.cons rfl (.nil)))) T<|lE bM fun Zm ajs bM=>ne _ rfl rfl (F6 (p:=Zk) (q:=0) ajs)<|dn ?_
 cases Zm
 refine fs<|qq<|qq ?_
 refine aF (F bM) (fun V9=>AS.bJ 213 [(7,.ptr 28 0),(10,.ptr 69 0),(17,.sv (slc 1 (List.map bj NW))),(191,.sv (.v (.bool V9.1)))] [(69,⟨79,[.sv (.v (.bool w6)),.sv (.v (.int .i64 w7)),.row 331,.row 332,.row 333]⟩),(28,⟨79,[.sv (.v (.bool iQ)),.sv (.v (.int .i64 iS)),.row 361,.row 362,.row 363]⟩)] [(331,TR 23 1 (eS 4 eQ) w8),(332,TR 3 1 bj w9),(333,TR 23 1 (eS 4 eQ) xb),(361,TR 23 1 (eS 4 eQ) V9.2.1),(362,TR 3 1 bj V9.2.2.1),(363,TR 23 1 (eS 4 eQ) V9.2.2.2)]) (fun bM=>?_) (fun V9 bM=>?_)
 refine ai mixed<|fa rfl rfl<|lV rfl rfl rfl<|lE bM fun Zv ajt bM=>ls _ rfl rfl ajt<|mv rfl<|bE bM fun JG FA bM=>?_
 cases Zv
 refine RT.fieldAddr (.some rfl rfl) rfl T rfl<|RT.sy (.some rfl rfl) rfl rfl rfl T<|gm rfl<|lE (F FA) fun adf aju FA=>gn rfl aju<|lE FA fun Zw ajv FA=>RT.geq (.some rfl rfl) _ rfl rfl T ajv ?_
 obtain rfl:=O FA
 refine pF rfl<|mv rfl<|bE bM fun adE AO bM=>?_
 cases Zw
 refine RT.move (.some rfl rfl) (s:=.ptr _ _) rfl T<|RT.fieldAddr (.some rfl rfl) rfl T rfl<|RT.sy (.some rfl rfl) rfl rfl rfl T<|gm rfl<|RT.fieldAddr (.some rfl rfl) rfl T rfl<|RT.sy (.some rfl rfl) rfl rfl rfl T<|bE (F AO) fun adg ajw AO=>RT.S8 (.some rfl rfl) rfl rfl T ajw<|gr rfl rfl ?_
 obtain⟨⟨Zx,ajx,ajy,ajz⟩,ajA,AO⟩:=bS AO
 refine RT.Di (.some rfl rfl) (dM ajA) 28 [343,344,345] [367,368,369] rfl ⟨rfl,rfl,rfl,trivial⟩ (by decide) (by decide) rfl ⟨⟨rfl,T⟩,⟨rfl,T⟩,⟨rfl,T⟩,trivial⟩ rfl rfl (.cons rfl (.cons rfl (.cons rfl (.nil)))) T<|lE AO fun Zy ajB AO=>gq _ rfl rfl (F6 (p:=Zx) (q:=0) ajB) ?_
 obtain rfl:=O AO
 refine pF rfl ?_
 refine RT.done ⟨by kernel_rfl,?_⟩
 exact ae.n<|⟨(Zy,ajx,ajy,ajz),bM,cy (fun i=>bif Nat.beq i 361 then 367 else bif Nat.beq i 362 then 368 else bif Nat.beq i 363 then 369 else i) rfl rfl rfl rfl rfl ⟨.ptr,.ptr,.sv (SV.aa _),.sv (SV.aa _),trivial⟩ ⟨⟨_,rfl,⟨.sv (SV.aa _),.sv (SV.aa _),.row rfl,.row rfl,.row rfl,trivial⟩⟩,⟨_,rfl,⟨.sv (SV.aa _),.sv (SV.aa _),.row rfl,.row rfl,.row rfl,trivial⟩⟩,trivial⟩ ⟨⟨_,rfl,bB.refl _⟩,⟨_,rfl,bB.refl _⟩,⟨_,rfl,bB.refl _⟩,⟨_,rfl,bB.refl _⟩,⟨_,rfl,bB.refl _⟩,⟨_,rfl,bB.refl _⟩,trivial⟩ (fun i hi=>by rw[bp (show i≠361 by omega)];rw[bp (show i≠362 by omega)];rw[bp (show i≠363 by omega)];rfl)⟩
 obtain rfl:=O (V AO)
 refine ww<|ww<|ww<|ww<|ww<|ww<|ww<|ww<|ww<|ww<|pT rfl ?_
 refine RT.done ⟨by kernel_rfl,?_⟩
 exact ae.n<|⟨(true,Rl,Rm,Zl),bM,cy (fun i=>bif Nat.beq i 361 then 343 else bif Nat.beq i 362 then 344 else bif Nat.beq i 363 then 345 else i) rfl rfl rfl rfl rfl ⟨.ptr,.ptr,.sv (SV.aa _),.sv (SV.aa _),trivial⟩ ⟨⟨_,rfl,⟨.sv (SV.aa _),.sv (SV.aa _),.row rfl,.row rfl,.row rfl,trivial⟩⟩,⟨_,rfl,⟨.sv (SV.aa _),.sv (SV.aa _),.row rfl,.row rfl,.row rfl,trivial⟩⟩,trivial⟩ ⟨⟨_,rfl,bB.refl _⟩,⟨_,rfl,bB.refl _⟩,⟨_,rfl,bB.refl _⟩,⟨_,rfl,bB.refl _⟩,⟨_,rfl,bB.refl _⟩,⟨_,rfl,bB.refl _⟩,trivial⟩ (fun i hi=>by rw[bp (show i≠361 by omega)];rw[bp (show i≠362 by omega)];rw[bp (show i≠363 by omega)];rfl)⟩
 obtain rfl:=O (V FA)
 refine ww<|ww<|ww<|ww<|ww<|pT rfl<|mv rfl<|bE bM fun adF adG bM=>?_
 obtain rfl:=O (V adG)
 refine ww<|ww<|ww<|ww<|ww<|ww<|ww<|ww<|ww<|ww<|pT rfl ?_
 refine RT.done ⟨by kernel_rfl,?_⟩
 exact ae.n<|⟨(true,Rl,Rm,Zl),bM,cy (fun i=>bif Nat.beq i 361 then 343 else bif Nat.beq i 362 then 344 else bif Nat.beq i 363 then 345 else i) rfl rfl rfl rfl rfl ⟨.ptr,.ptr,.sv (SV.aa _),.sv (SV.aa _),trivial⟩ ⟨⟨_,rfl,⟨.sv (SV.aa _),.sv (SV.aa _),.row rfl,.row rfl,.row rfl,trivial⟩⟩,⟨_,rfl,⟨.sv (SV.aa _),.sv (SV.aa _),.row rfl,.row rfl,.row rfl,trivial⟩⟩,trivial⟩ ⟨⟨_,rfl,bB.refl _⟩,⟨_,rfl,bB.refl _⟩,⟨_,rfl,bB.refl _⟩,⟨_,rfl,bB.refl _⟩,⟨_,rfl,bB.refl _⟩,⟨_,rfl,bB.refl _⟩,trivial⟩ (fun i hi=>by rw[bp (show i≠361 by omega)];rw[bp (show i≠362 by omega)];rw[bp (show i≠363 by omega)];rfl)⟩
 obtain⟨Ht,BN,BO,BP⟩:=V9
 try dsimp only
 refine ae.n ?_
 cases Ht
 refine fs<|qq ?_
 refine aF (F bM) (fun ajC=>AS.bJ 213 [(6,.sv (.v (.bool ajC)))] [] []) (fun bM=>?_) (fun Ru bM=>?_)
 refine af<|mo (s:=.ptr _ _) rfl<|bE bM fun ac8 ajD bM=>RT.cW .none (jq ajD) 28 [361,362,363] rfl ⟨rfl,rfl,rfl,trivial⟩ (by decide) rfl rfl (.cons rfl (.nil)) T<|mv rfl<|bE bM fun Zq ajE bM=>cl (nG ajE) ⟨rfl,rfl,trivial⟩<|mv rfl<|bE bM fun JF AP bM=>?_
 cases Zq
 obtain rfl:=O (F AP)
 refine ww<|ww<|ww<|ww<|ww<|pF rfl<|mv rfl<|bE bM fun adH adI bM=>?_
 obtain rfl:=O (F adI)
 refine ww<|ww<|ww<|ww<|ww<|pF rfl<|mv rfl<|bE bM fun adJ adK bM=>?_
 obtain rfl:=O (F adK)
 exact ww<|pF rfl<|ag rfl<|dn<|⟨false,bM,wR []⟩
 refine RT.move (.some rfl rfl) (s:=.ptr _ _) rfl T<|bE (V AP) fun ac9 ajF AP=>RT.cW (.some rfl rfl) (kD ajF) 69 [331,332,333] rfl ⟨rfl,rfl,rfl,trivial⟩ (by decide) rfl rfl (.cons rfl (.nil)) T<|RT.move (.some rfl rfl) (s:=.ptr _ _) rfl T<|bE AP fun ada ajG AP=>RT.cW (.some rfl rfl) (kD ajG) 28 [361,362,363] rfl ⟨rfl,rfl,rfl,trivial⟩ (by decide) rfl rfl (.cons rfl (.nil)) T<|bE AP fun Zs ajH AP=>gc (kK ajH) ⟨rfl,rfl,trivial⟩ ?_
 obtain rfl:=O AP
 refine pT rfl<|mv rfl<|bE bM fun adL AQ bM=>?_
 cases Zs
 obtain rfl:=O (F AQ)
 refine ww<|ww<|ww<|ww<|ww<|pF rfl<|mv rfl<|bE bM fun adM adN bM=>?_
 obtain rfl:=O (F adN)
 exact ww<|pF rfl<|ag rfl<|dn<|⟨false,bM,wR []⟩
 refine RT.move (.some rfl rfl) (s:=.ptr _ _) rfl T<|bE (V AQ) fun adb ajI AQ=>RT.cW (.some rfl rfl) (pO ajI) 69 [331,332,333] rfl ⟨rfl,rfl,rfl,trivial⟩ (by decide) rfl rfl (.cons rfl (.nil)) T<|RT.move (.some rfl rfl) (s:=.ptr _ _) rfl T<|bE AQ fun ade ajJ AQ=>RT.cW (.some rfl rfl) (pO ajJ) 28 [361,362,363] rfl ⟨rfl,rfl,rfl,trivial⟩ (by decide) rfl rfl (.cons rfl (.nil)) T<|bE AQ fun Zt ajK AQ=>gc (fk ajK) ⟨rfl,rfl,trivial⟩ ?_
 obtain rfl:=O AQ
 refine pT rfl<|mv rfl<|bE bM fun adO MH bM=>?_
 cases Zt
 obtain rfl:=O (F MH)
 exact ww<|pF rfl<|ag rfl<|dn<|⟨false,bM,wR []⟩
 refine bE (V MH) fun Zu ajL MH=>gc (kE ajL) trivial ?_
 obtain rfl:=O MH
 exact pT rfl<|ag rfl<|dn<|⟨Zu,bM,wR []⟩
 try dsimp only
 refine ae.n<|aj ?_
 obtain rfl:=O bM
 exact R1 rfl
 refine cT<|sr<|ag rfl<|dn<|aj<|ae.r ?_
 obtain rfl:=O (V bM)
 exact R1 rfl
 refine cT<|qq ?_
 refine aF (V bM) (fun j77=>AS.bJ 213 [(6,.sv (.v (.bool j77)))] [] []) (fun bM=>?_) (fun V8 bM=>?_)
 refine af<|mo (s:=.ptr _ _) rfl<|bE bM fun ac5 ajM bM=>RT.cW .none (jq ajM) 28 [343,344,345] rfl ⟨rfl,rfl,rfl,trivial⟩ (by decide) rfl rfl (.cons rfl (.nil)) T<|mv rfl<|bE bM fun Zn ajN bM=>cl (nG ajN) ⟨rfl,rfl,trivial⟩<|mv rfl<|bE bM fun MD xX bM=>?_
 cases Zn
 obtain rfl:=O (F xX)
 refine ww<|ww<|ww<|ww<|ww<|pF rfl<|mv rfl<|bE bM fun afb YX bM=>?_
 obtain rfl:=O (F YX)
 exact ww<|pF rfl<|ag rfl<|dn<|⟨false,bM,wR []⟩
 refine RT.move (.some rfl rfl) (s:=.ptr _ _) rfl T<|bE (V xX) fun ac6 ajO xX=>RT.cW (.some rfl rfl) (kD ajO) 69 [331,332,333] rfl ⟨rfl,rfl,rfl,trivial⟩ (by decide) rfl rfl (.cons rfl (.nil)) T<|RT.move (.some rfl rfl) (s:=.ptr _ _) rfl T<|bE xX fun ac7 ajP xX=>RT.cW (.some rfl rfl) (kD ajP) 28 [343,344,345] rfl ⟨rfl,rfl,rfl,trivial⟩ (by decide) rfl rfl (.cons rfl (.nil)) T<|bE xX fun Zo ajQ xX=>gc (kK ajQ) ⟨rfl,rfl,trivial⟩ ?_
 obtain rfl:=O xX
 refine pT rfl<|mv rfl<|bE bM fun afc DG bM=>?_
 cases Zo
 obtain rfl:=O (F DG)
 exact ww<|pF rfl<|ag rfl<|dn<|⟨false,bM,wR []⟩
 refine bE (V DG) fun Zp ajR DG=>gc (kE ajR) trivial ?_
 obtain rfl:=O DG
 exact pT rfl<|ag rfl<|dn<|⟨Zp,bM,wR []⟩
 try dsimp only
 refine ae.n<|aj<|ae.r ?_
 obtain rfl:=O bM
 exact R1 rfl
 refine cT<|sr<|ag rfl<|dn<|aj<|ae.r ?_
 obtain rfl:=O (V bM)
 exact R1 rfl
 refine cT<|sr<|ag rfl<|dn<|aj<|ae.r ?_
 obtain rfl:=O (V bM)
 exact R1 rfl
 refine cT<|qq ?_
 refine aF (V h) (fun j15=>AS.bJ 213 [(6,.sv (.v (.bool j15)))] [] []) (fun h=>?_) (fun V6 h=>?_)
 refine af<|mv rfl<|eq false rfl rfl (by decide)<|mv rfl<|bE h fun Rt Hf h=>?_
 obtain rfl:=O (F Hf)
 refine ww<|ww<|ww<|pF rfl<|mv rfl<|bE h fun ajS kU h=>?_
 obtain rfl:=O (F kU)
 exact ww<|pF rfl<|ag rfl<|dn<|⟨false,h,wR []⟩
 try dsimp only
 refine ae.n<|aj<|ae.r ?_
 obtain rfl:=O h
 exact R1 rfl
 refine cT<|sr<|bE (V h) fun vS qc h=>cl (kE qc) trivial<|ag rfl<|dn<|aj<|ae.r ?_
 obtain rfl:=O h
 exact R1 rfl
end Go.Proofs.YtningmnklfpfjaaGreat
namespace Go.Proofs.YtningmnklfpfjaaGreat
open Go.Fw Go.Fw.Z Go.RowKit
theorem qh{x0:Lr}{x1:List Pv}{x2:Pv}{r:Bool}(h:fo x0 x1 x2=some r):Pure Tryz.prog 7 [.agg (Kh x0),slc 2 (List.map L8 x1),.agg (L8 x2)] (.v (.bool r)):=by
 obtain⟨aC,aD,aM,aN⟩:=x0
 obtain⟨gR,iN⟩:=x2
 refine ay Tryz.func7 rfl (Nat.le_of_ble_eq_true rfl) (fun cO M vs hvs=>?_)
 unfold fo at h
 refine sr<|bx rfl<|bx rfl<|ag rfl<|dn<|qq<|qq ?_
 refine aF h (fun j3=>AS.bJ 213 [(1,.sv (slc 2 (List.map L8 x1))),(3,.ptr 3 0),(5,.ptr 5 0),(24,.sv (.v (.bool j3)))] [(5,⟨38,[.sv (.v (.int .i64 gR)),.sv (.v (.int .i64 iN))]⟩),(3,⟨25,[.sv (.v (.int .i64 aC)),.sv (slc 1 (List.map (eS 4 eQ) aD)),.sv (slc 1 (List.map (eS 4 eQ) aM)),.sv (slc 4 (List.map eQ aN))]⟩)] []) (fun h=>?_) (fun DM h=>?_)
 refine af<|ld rfl rfl (.cons rfl (.cons rfl (.cons rfl (.cons rfl (.nil)))))<|bE h fun kS kJ h=>cl (w5 kJ) ⟨rfl,trivial⟩<|mv rfl<|bE h fun RF DI h=>?_
 cases kS
 refine gm rfl<|lE (F DI) fun jB nS DI=>gn rfl nS<|lE DI fun jJ qb DI=>gg _ rfl rfl qb ?_
 obtain rfl:=O DI
 exact pF rfl<|dn<|⟨jJ,h,wR []⟩
 obtain rfl:=O (V DI)
 exact ww<|ww<|ww<|pT rfl<|dn<|⟨true,h,wR []⟩
 try dsimp only
 refine ae.n ?_
 cases DM
 refine fs<|sr<|ld rfl rfl (.cons rfl (.cons rfl (.cons rfl (.cons rfl (.nil)))))<|bE (F h) fun _ sS h=>cl (JA sS) ⟨rfl,trivial⟩<|mv rfl<|ex rfl rfl<|ex rfl rfl<|ag rfl<|ag rfl<|dn<|qq<|sr<|mv rfl<|ne true rfl rfl (by decide)<|mv rfl<|ww<|ww<|pT rfl<|dn<|cT ?_
 refine qq ?_
 refine aF h (fun j12=>AS.bJ 213 [(6,.sv (.v (.bool j12)))] [] []) (fun h=>?_) (fun Wa h=>?_)
 refine af<|mv rfl<|eq true rfl rfl (by decide)<|mv rfl<|gl rfl rfl (.cons rfl (.cons rfl (.cons rfl (.cons rfl (.nil)))))<|bE h fun tG zX h=>gc (qD zX) ⟨rfl,trivial⟩<|lE h fun oZ xE h=>Ki rfl _ xE<|pT rfl<|mv rfl<|bE h fun RE dZ h=>?_
 cases oZ
 obtain rfl:=O (F dZ)
 exact ww<|pF rfl<|ag rfl<|dn<|⟨false,h,wR []⟩
 refine bE (V dZ) fun xA Gp dZ=>gc (kE Gp) trivial ?_
 obtain rfl:=O dZ
 exact pT rfl<|ag rfl<|dn<|⟨xA,h,wR []⟩
 try dsimp only
 refine ae.n<|aj<|ae.r ?_
 obtain rfl:=O h
 exact R1 rfl
 refine cT<|sr<|bE (V h) fun vS qc h=>cl (kE qc) trivial<|ag rfl<|dn<|aj<|ae.r ?_
 obtain rfl:=O h
 exact R1 rfl
end Go.Proofs.YtningmnklfpfjaaGreat
namespace Go.Proofs.YtningmnklfpfjaaGreat
open Go.Fw Go.Fw.Z Go.RowKit
theorem qY{x0:Lr}{x1:List Pv}{x2:Pv}{r:Bool}(h:fI x0 x1 x2=some r):Pure Tryz.prog 7 [.agg (Kh x0),slc 2 (List.map L8 x1),.agg (L8 x2)] (.v (.bool r)):=by
 unfold fI at h
 split at h
 ·exact qg h
 ·exact qh h
end Go.Proofs.YtningmnklfpfjaaGreat
namespace Go.Fw
theorem vY{n:Nat}(h:n≤9223372036854775807):IntKind.i64.wrap (n:Int)=n:=mZ (by omega)
theorem cx{x:Int}(h: -9223372036854775808≤x)(h':x≤9223372036854775807):IntKind.i64.wrap x=x:=mZ ⟨h,h'⟩
theorem bk{n:Nat}(h:n<9223372036854775807):IntKind.i64.wrap ((n:Int)+1)=((n+1:Nat):Int):=by rw[mZ (by omega)];simp
theorem vZ{n m:Nat}(h:n+m≤9223372036854775807):IntKind.i64.wrap ((n:Int)+(m:Int))=((n+m:Nat):Int):=by rw[mZ (by omega)];simp
theorem JI{n:Nat}(h:n≤9223372036854775807):IntKind.i64.wrap (((n+1:Nat):Int)-1)=(n:Int):=by rw[mZ (by omega)];omega
theorem aP{α:Type}{l:List α}{i:Nat}{a:α}(h:l[i]? =some a):cz l (i:Int)=some a:=by simp[cz,h]
theorem An{α:Type}{l:List α}{a:α}(h:l[0]? =some a):cz l 0=some a:=by simp[cz,h]
theorem RH{α:Type}{l:List α}{a:α}(h:l[1]? =some a):cz l 1=some a:=by simp[cz,h]
theorem bn{α:Type}{l:List α}{i:Nat}(h:i<l.length):kQ l (i:Int)=some i:=by simp[kQ,h]
theorem ep{α:Type}{l:List α}{i:Nat}{y:α}(h:i<l.length):stM l i y=some (l.set i y):=by simp[stM,h]
theorem RI{α:Type}{b:Nat}{l k:List α}(h:(l.length+k.length)*b≤140737488355328)(h':l.length+k.length≤140737488355328):zM b l k=some (l++k):=by simp[zM,h,h']
theorem DO{α:Type}{b:Nat}{l:List α}{x:α}(hb:b≤100)(h:l.length≤1000000000000):zM b l [x]=some (l++[x]):=by
 apply RI
 ·have:(l.length+[x].length)*b≤1000000000001*100:=Nat.mul_le_mul (by simp;omega) hb
  omega
 ·simp;omega
theorem ajT{α:Type}{b:Nat}{l k:List α}(hb:b≤100)(h:l.length+k.length≤1000000000000):zM b l k=some (l++k):=by
 apply RI
 ·have:(l.length+k.length)*b≤1000000000000*100:=Nat.mul_le_mul h hb
  omega
 ·omega
theorem DP{α:Type}{b:Nat}{n:Nat}(hb:b≤100)(h:n≤1000000000000):OX (α:=α) b (n:Int)=some []:=by
 have:b*n≤100*1000000000000:=Nat.mul_le_mul hb h
 have h2:(b:Int)*(n:Int)=((b*n:Nat):Int):=by simp
 unfold OX
 rw[h2,if_pos ⟨by omega,by omega,by omega⟩]
theorem pQ{α:Type}{b:Nat}{n:Nat}{z:α}(hb:b≤100)(h:n≤1000000000000):D4 b (n:Int) z=some (List.replicate n z):=by
 have:b*n≤100*1000000000000:=Nat.mul_le_mul hb h
 have h2:(b:Int)*(n:Int)=((b*n:Nat):Int):=by simp
 unfold D4
 rw[h2,if_pos ⟨by omega,by omega,by omega⟩,Int.toNat_natCast]
theorem RJ{α:Type}{l:List α}{i j:Nat}(h:i≤j)(h':j≤l.length):Ei l (i:Int) (j:Int)=some (cut l i j):=by
 unfold Ei;rw[if_pos ⟨by omega,by omega,by omega⟩];simp
theorem Ao{α:Type}{l:List α}{j:Nat}(h':j≤l.length):Ei l 0 (j:Int)=some (l.take j):=by
 have:=RJ (l:=l) (i:=0) (j:=j) (by omega) h'
 simpa[cut]using this
theorem th{M a b:Nat}(h:b≤a)(h':a<M):qa M a b=a-b:=by
 unfold qa;rw[show(a:Int)-(b:Int)=((a-b:Nat):Int) by omega,←Int.natCast_emod,Int.toNat_natCast,Nat.mod_eq_of_lt (by omega)]
theorem BQ{M a b:Nat}(h:a<b)(h':b≤M):qa M a b=M+a-b:=by
 unfold qa
 have:((a:Int)-(b:Int))%(M:Int)=((M+a-b:Nat):Int):=by
  rw[←Int.add_emod_right (a:=(a:Int)-b),show(a:Int)-(b:Int)+(M:Int)=((M+a-b:Nat):Int) by omega,←Int.natCast_emod,Nat.mod_eq_of_lt (by omega)]
 rw[this,Int.toNat_natCast]
theorem BR{o n i:Nat}(h:i<n):SA o n (i:Int)=some (o+i):=by simp[SA,h]
theorem rV{α:Type}{l l':List α}(h:l'.length=l.length):wQ l l'=some ():=by simp[wQ,h]
theorem Hu{M a b:Nat}(h:b≠0)(h':a<M):F5 M a b=some (a/b):=by
 unfold F5;rw[if_neg h,Nat.mod_eq_of_lt (Nat.lt_of_le_of_lt (Nat.div_le_self _ _) h')]
theorem BS{a b:Nat}(h:b≠0):Ej a b=some (a%b):=by unfold Ej;rw[if_neg h]
theorem bV{α β:Type}{a:α}{f:α→Option β}:Option.bind (some a) f=f a:=by
 have h:∀o,o=some a→Option.bind o f=f a:=by intro o ho;rw[ho];rfl
 exact h _ rfl
theorem jQ{α:Type}{x y:α}:(bif true then x else y)=x:=by
 have h:∀b,b=true→(bif b then x else y)=x:=by intro b hb;rw[hb];rfl
 exact h _ rfl
theorem jX{α:Type}{x y:α}:(bif false then x else y)=y:=by
 have h:∀b,b=false→(bif b then x else y)=y:=by intro b hb;rw[hb];rfl
 exact h _ rfl
theorem nu{S E R:Type}{body:S→Option (S⊕E)}{s:S}{f:E→Option R}{r:R}(I:S→Prop)(Post:E→Prop)(μ:S→Nat)
  (step:∀s,I s→(∃s',body s=some (.inl s')∧I s'∧μ s'<μ s)∨(∃e,body s=some (.inr e)∧Post e)) (h:I s) (hf:∀e,Post e→f e=some r):(bQ body s).bind f=some r:=by
 obtain⟨e,h1,h2⟩:=rD I Post μ step h
 rw[h1];exact hf e h2
theorem mH{S E R:Type}{body:S→Option (S⊕E)}{s:S}{f:E→Option R}{Q:R→Prop}(I:S→Prop)(Post:E→Prop)(μ:S→Nat)
  (step:∀s,I s→(∃s',body s=some (.inl s')∧I s'∧μ s'<μ s)∨(∃e,body s=some (.inr e)∧Post e)) (h:I s) (hf:∀e,Post e→∃r,f e=some r∧Q r):∃r,(bQ body s).bind f=some r∧Q r:=by
 obtain⟨e,h1,h2⟩:=rD I Post μ step h
 rw[h1];exact hf e h2
theorem aW{S E R:Type}{body:S→Option (S⊕E)}{s:S}{f:E→Option R}{r:R}(st:Nat→S)(n:Nat)(e:E)(h0:s=st 0)(hs:∀k,k<n→body (st k)=some (.inl (st (k+1))))(he:body (st n)=some (.inr e))(hf:f e=some r):(bQ body s).bind f=some r:=by
 rw[h0,O1 st n hs he];exact hf
theorem tj{S R:Type}{body:Nat→S→Option S}{s:S}{f:S→Option R}{r:R}(st:Nat→S){n:Nat}(h0:s=st 0)(hs:∀k,k<n→body k (st k)=some (st (k+1)))(hf:f (st n)=some r):(ot body n s).bind f=some r:=by
 rw[h0,zN st n hs];exact hf
theorem bind_eq{α β:Type}{x:Option α}{a:α}{f:α→Option β}{r:Option β}(h:x=some a)(hf:f a=r):x.bind f=r:=by rw[h];exact hf
theorem aV{α:Type}{b:Bool}{x y r:α}(hb:b=true)(h:x=r):(bif b then x else y)=r:=by rw[hb];exact h
theorem aE{α:Type}{b:Bool}{x y r:α}(hb:b=false)(h:y=r):(bif b then x else y)=r:=by rw[hb];exact h
end Go.Fw
namespace Go.Fw
def val(B:Nat):List Nat→Nat
 |[]=>0
 |x::l=>x+B*val B l
def ga(B:Nat):Nat→Nat→List Nat
 |0,_=>[]
 |n+1,v=>v%B::ga B n (v/B)
def mI(ws:List Nat):List Nat:=(ws.reverse.dropWhile (· ==0)).reverse
def can(B v:Nat):List Nat:=mI (ga B v v)
theorem bA(B:Nat):∀n v,(ga B n v).length=n
 |0,_=>rfl
 |n+1,v=>by simp[ga,bA B n]
theorem mJ(B:Nat):∀n v,val B (ga B n v)=v%B^n
 |0,v=>by simp[ga,val,Nat.mod_one]
 |n+1,v=>by
  rw[ga,val,mJ B n,Nat.pow_succ,Nat.mul_comm (B^n) B,Nat.mod_mul]
theorem oD{B:Nat}(hB:0<B):∀(n v x:Nat),x∈ga B n v→x<B
 |n+1,v,x,h=>by
  rcases List.mem_cons.1 h with rfl|h
  ·exact Nat.mod_lt _ hB
  ·exact oD hB n _ x h
theorem jR{B:Nat}:∀(l:List Nat),(∀x∈l,x<B)→val B l<B^l.length
 |[],_=>by simp[val]
 |x::l,h=>by
  have h1:=jR l (fun y hy=>h y (List.mem_cons_of_mem _ hy))
  have h2:=h x (by simp)
  rw[val,List.length_cons,Nat.pow_succ]
  calc x+B*val B l<B+B*val B l:=by omega
   _=B*(val B l+1):=by rw[Nat.mul_add];omega
   _≤B*B^l.length:=Nat.mul_le_mul_left _ h1
   _=B^l.length*B:=Nat.mul_comm _ _
theorem BT{B:Nat}:∀(l:List Nat),(∀x∈l,x<B)→ga B l.length (val B l)=l
 |[],_=>rfl
 |x::l,h=>by
  have h2:=h x (by simp)
  have hB:0<B:=by omega
  rw[List.length_cons,ga,val,Nat.add_mul_mod_self_left,Nat.mod_eq_of_lt h2,Nat.add_mul_div_left _ _ hB,Nat.div_eq_of_lt h2,Nat.zero_add,BT l (fun y hy=>h y (List.mem_cons_of_mem _ hy))]
theorem zk{B:Nat}:∀(n v j:Nat),j<n→(ga B n v)[j]? =some (v/B^j%B)
 |n+1,v,0,_=>by simp[ga]
 |n+1,v,j+1,h=>by
  rw[ga,List.getElem?_cons_succ,zk n _ j (by omega),Nat.div_div_eq_div_mul,Nat.pow_succ,Nat.mul_comm B]
theorem Hv{B:Nat}:∀(a b:List Nat),val B (a++b)=val B a+B^a.length*val B b
 |[],b=>by simp[val]
 |x::a,b=>by
  rw[List.cons_append,val,val,Hv a b,List.length_cons,Nat.pow_succ,Nat.mul_add,Nat.add_assoc,Nat.mul_comm (B^a.length) B,Nat.mul_assoc]
theorem pR{B:Nat}:∀(n v:Nat),ga B (n+1) v=ga B n v++[v/B^n%B]
 |0,v=>by simp[ga]
 |n+1,v=>by
  rw[ga,pR n,ga,List.cons_append,Nat.div_div_eq_div_mul,Nat.pow_succ,Nat.mul_comm B]
theorem vv(B:Nat):∀k,ga B k 0=List.replicate k 0
 |0=>rfl
 |k+1=>by rw[ga,Nat.zero_mod,Nat.zero_div,vv B k];rfl
theorem DQ{B:Nat}(hB:0<B):∀(n k v:Nat),v<B^n→ga B (n+k) v=ga B n v++List.replicate k 0
 |0,k,v,h=>by
  have:v=0:=by simpa using h
  subst this;rw[Nat.zero_add,vv];rfl
 |n+1,k,v,h=>by
  rw[show n+1+k=n+k+1 by omega,ga,ga,List.cons_append,DQ hB n k (v/B) (by rw[Nat.div_lt_iff_lt_mul hB];rwa[Nat.pow_succ]at h)]
theorem tq{B:Nat}(hB:2≤B):∀v,v<B^v
 |0=>by simp
 |v+1=>by
  have:=tq hB v
  rw[Nat.pow_succ]
  have h2:B^v*2≤B^v*B:=Nat.mul_le_mul_left _ hB
  omega
theorem tu(l:List Nat):mI (l++[0])=mI l:=by simp[mI]
theorem vw(l:List Nat):∀k,mI (l++List.replicate k 0)=mI l
 |0=>by simp
 |k+1=>by rw[List.replicate_succ',←List.append_assoc,tu,vw l k]
theorem ya(l:List Nat){x:Nat}(h:x≠0):mI (l++[x])=l++[x]:=by simp[mI,h]
theorem yc(xs:List Nat):xs=[]∨(∃ys,xs=ys++[0])∨(∃ys y,y≠0∧xs=ys++[y]):=by
 rcases List.eq_nil_or_concat xs with rfl|⟨ys,y,rfl⟩
 ·exact .inl rfl
 ·by_cases hy:y=0
  ·subst hy;exact .inr (.inl ⟨ys,by simp⟩)
  ·exact .inr (.inr ⟨ys,y,hy,by simp⟩)
theorem Ap:∀(n:Nat) (l:List Nat),l.length=n→∃k,l=mI l++List.replicate k 0:=by
 intro n
 induction n with
 |zero=>intro l h;obtain rfl:=List.length_eq_zero_iff.1 h;exact⟨0,rfl⟩
 |succ n ih=>
  intro l h
  rcases yc l with rfl|⟨ys,rfl⟩|⟨ys,y,hy,rfl⟩
  ·simp at h
  ·obtain⟨k,hk⟩:=ih ys (by simpa using h)
   refine⟨k+1,?_⟩
   rw[tu,List.replicate_succ',←List.append_assoc,←hk]
  ·exact⟨0,by rw[ya _ hy];simp⟩
theorem NX{l:List Nat}{x:Nat}(h:x∈mI l):x∈l:=by
 obtain⟨k,hk⟩:=Ap _ l rfl
 rw[hk];exact List.mem_append_left _ h
theorem FB(l:List Nat):(mI l).length≤l.length:=by
 obtain⟨k,hk⟩:=Ap _ l rfl
 have:=congrArg List.length hk
 rw[List.length_append]at this;omega
theorem FC(B:Nat):∀k,val B (List.replicate k 0)=0
 |0=>rfl
 |k+1=>by rw[List.replicate_succ,val,FC B k];simp
theorem RK(B:Nat)(l:List Nat):val B (mI l)=val B l:=by
 obtain⟨k,hk⟩:=Ap _ l rfl
 conv=>rhs;rw[hk,Hv,FC]
 simp
theorem JJ{B:Nat}(hB:2≤B){n v:Nat}(h:v<B^n):mI (ga B n v)=can B v:=by
 have hv:=tq hB v
 rcases Nat.le_total n v with hn|hn
 ·obtain⟨k,rfl⟩:=Nat.exists_eq_add_of_le hn
  rw[can,DQ (by omega) n k _ h,vw]
 ·obtain⟨k,rfl⟩:=Nat.exists_eq_add_of_le hn
  rw[can,DQ (by omega) v k _ hv,vw]
theorem rW{B:Nat}(hB:2≤B){l:List Nat}(h:∀x∈l,x<B):mI l=can B (val B l):=by
 conv=>lhs;rw[←BT l h]
 exact JJ hB (jR l h)
theorem tw{B:Nat}(hB:2≤B)(v:Nat):val B (can B v)=v:=by
 rw[can,RK,mJ,Nat.mod_eq_of_lt (tq hB v)]
theorem mK{B:Nat}(hB:2≤B){v x:Nat}(h:x∈can B v):x<B:=oD (by omega) v v x (NX h)
theorem vz(B:Nat):can B 0=[]:=rfl
theorem Hw{B:Nat}(hB:2≤B){v:Nat}(h:can B v=[]):v=0:=by have:=tw hB v;rw[h]at this;exact this.symm
theorem T6{B:Nat}(hB:2≤B){v n:Nat}(h:v<B^n):(can B v).length≤n:=by
 rw[←JJ hB h]
 have:=FB (ga B n v)
 rwa[bA]at this
theorem T7{B:Nat}(hB:2≤B)(v:Nat):mI (can B v)=can B v:=by
 rw[rW hB (fun x hx=>mK hB hx),tw hB]
theorem T8{B:Nat}(hB:2≤B)(v:Nat):can B v=ga B (can B v).length v:=by
 have:=BT (can B v) (fun x hx=>mK hB hx)
 rw[tw hB]at this;exact this.symm
theorem dV{B:Nat}(hB:2≤B)(v:Nat):v<B^(can B v).length:=by
 have:=jR (can B v) (fun x hx=>mK hB hx)
 rwa[tw hB]at this
theorem Hx{B:Nat}(hB:2≤B){v j:Nat}(h:j<(can B v).length):(can B v)[j]? =some (v/B^j%B):=by
 rw[T8 hB v]at h⊢
 rw[bA]at h
 exact zk _ _ _ h
theorem DR{B:Nat}(hB:2≤B){v j:Nat}(h:(can B v).length≤j):v/B^j=0:=by
 refine Nat.div_eq_of_lt (Nat.lt_of_lt_of_le (dV hB v) ?_)
 exact Nat.pow_le_pow_right (by omega) h
theorem JK{B:Nat}(hB:2≤B){v:Nat}(h:v≠0):∃l x,x≠0∧can B v=l++[x]:=by
 rcases yc (can B v)with e|⟨ys,e⟩|⟨ys,y,hy,e⟩
 ·exact absurd (Hw hB e) h
 ·exfalso
  have h1:=T7 hB v
  rw[e,tu]at h1
  have h2:=FB ys
  rw[h1]at h2;simp at h2;omega
 ·exact⟨ys,y,hy,e⟩
theorem xk{B:Nat}(hB:2≤B){v n:Nat}(h:n<(can B v).length):B^n≤v:=by
 by_cases h0:v=0
 ·subst h0;simp[vz]at h
 obtain⟨l,x,hx,e⟩:=JK hB h0
 have h1:=tw hB v
 rw[e,Hv]at h1
 have hl:n≤l.length:=by rw[e]at h;simp at h;omega
 have h2:B^n≤B^l.length:=Nat.pow_le_pow_right (by omega) hl
 have h3:B^l.length≤B^l.length*val B [x]:=Nat.le_mul_of_pos_right _ (by simp[val];omega)
 omega
theorem fE{B:Nat}(hB:2≤B){v n:Nat}:(can B v).length≤n↔v<B^n:=by
 refine⟨fun h=>?_,T6 hB⟩
 exact Nat.lt_of_lt_of_le (dV hB v) (Nat.pow_le_pow_right (by omega) h)
theorem RL{B:Nat}(hB:2≤B){l:List Nat}{x:Nat}(hx:x≠0)(h:∀y∈l++[x],y<B):l++[x]=can B (val B (l++[x])):=by
 rw[←rW hB h,ya _ hx]
theorem rX{B:Nat}:∀(l:List Nat),(∀x∈l,x<B)→∀k,l.getD k 0=val B l/B^k%B
 |[],_,k=>by simp[val]
 |x::l,h,0=>by
  have h2:=h x (by simp)
  simp[val,Nat.add_mul_mod_self_left,Nat.mod_eq_of_lt h2]
 |x::l,h,k+1=>by
  have h2:=h x (by simp)
  have hB:0<B:=by omega
  rw[List.getD_cons_succ,rX l (fun y hy=>h y (List.mem_cons_of_mem _ hy)) k,val,Nat.pow_succ,Nat.mul_comm (B^k) B,←Nat.div_div_eq_div_mul,Nat.add_mul_div_left _ _ hB,Nat.div_eq_of_lt h2,Nat.zero_add]
theorem ia(B V k:Nat):V%B^(k+1)=V%B^k+B^k*(V/B^k%B):=by
 rw[Nat.pow_succ,Nat.mod_mul]
def HR(B V W k:Nat):Nat:=(V%B^k+W%B^k)/B^k
theorem LI{B:Nat}(hB:0<B)(V W k:Nat):HR B V W k≤1:=by
 have hP:0<B^k:=Nat.pow_pos hB
 have h1:=Nat.mod_lt V hP
 have h2:=Nat.mod_lt W hP
 have:HR B V W k<2:=by rw[HR,Nat.div_lt_iff_lt_mul hP];omega
 omega
theorem JM{B:Nat}(hB:0<B)(V W k:Nat):(V/B^k%B+W/B^k%B+HR B V W k)/B=HR B V W (k+1):=by
 have hP:0<B^k:=Nat.pow_pos hB
 rw[HR,HR,ia,ia,Nat.pow_succ,←Nat.div_div_eq_div_mul]
 congr 1
 rw[show V%B^k+B^k*(V/B^k%B)+(W%B^k+B^k*(W/B^k%B))=(V%B^k+W%B^k)+B^k*(V/B^k%B+W/B^k%B) by rw[Nat.mul_add];omega,Nat.add_mul_div_left _ _ hP]
 omega
theorem Hy{B:Nat}(hB:0<B)(V W k:Nat):(V/B^k%B+W/B^k%B+HR B V W k)%B=(V+W)/B^k%B:=by
 have hP:0<B^k:=Nat.pow_pos hB
 have h:(V+W)/B^k=V/B^k+W/B^k+HR B V W k:=by
  have e1:=Nat.div_add_mod V (B^k)
  have e2:=Nat.div_add_mod W (B^k)
  rw[HR]
  conv=>lhs;rw[←e1,←e2]
  rw[show B^k*(V/B^k)+V%B^k+(B^k*(W/B^k)+W%B^k)=(V%B^k+W%B^k)+B^k*(V/B^k+W/B^k) by rw[Nat.mul_add];omega,Nat.add_mul_div_left _ _ hP]
  omega
 rw[h]
 simp[Nat.add_mod]
theorem T9{B:Nat}{V W k:Nat}(hV:V<B^k)(hW:W<B^k):HR B V W k=(V+W)/B^k:=by
 rw[HR,Nat.mod_eq_of_lt hV,Nat.mod_eq_of_lt hW]
theorem JN(B V W:Nat):HR B V W 0=0:=by simp[HR,Nat.mod_one]
def Bu(B V W k:Nat):Nat:=(V%B^k+B^k-W%B^k)/B^k
theorem JO(B V W:Nat):Bu B V W 0=1:=by simp[Bu,Nat.mod_one]
theorem RM{B:Nat}(hB:0<B)(V W k:Nat):Bu B V W k≤1:=by
 have hP:0<B^k:=Nat.pow_pos hB
 have h1:=Nat.mod_lt V hP
 have:Bu B V W k<2:=by
  rw[Bu,Nat.div_lt_iff_lt_mul hP]
  generalize W%B^k=y at*
  generalize V%B^k=x at*
  omega
 omega
theorem MI{B:Nat}(hB:0<B)(V W k:Nat):V%B^(k+1)+B^(k+1)-W%B^(k+1)=(V%B^k+B^k-W%B^k)+B^k*(V/B^k%B+(B-1-W/B^k%B)):=by
 have hP:0<B^k:=Nat.pow_pos hB
 have h1:=Nat.mod_lt V hP
 have h2:=Nat.mod_lt W hP
 have h3:=Nat.mod_lt (W/B^k) hB
 rw[ia,ia,Nat.pow_succ]
 generalize B^k=p at*
 generalize V/p%B=x at*
 generalize W/p%B=y at*
 obtain⟨z,rfl⟩:∃z,B=y+1+z:=⟨B-y-1,by omega⟩
 have e1:y+1+z-1-y=z:=by omega
 rw[e1,Nat.mul_add p x z,Nat.mul_add p (y+1) z,Nat.mul_add p y 1]
 omega
theorem JP{B:Nat}(hB:0<B)(V W k:Nat):(V/B^k%B+(B-1-W/B^k%B)+Bu B V W k)/B=Bu B V W (k+1):=by
 have hP:0<B^k:=Nat.pow_pos hB
 rw[Bu,Bu,MI hB,Nat.pow_succ,←Nat.div_div_eq_div_mul,Nat.add_mul_div_left _ _ hP]
 congr 1
 omega
theorem LJ{Q V W:Nat}(hQ:0<Q)(h:W≤V):(V%Q+Q-W%Q)%Q=(V-W)%Q:=by
 have e1:=Nat.div_add_mod V Q
 have e2:=Nat.div_add_mod W Q
 have h1:=Nat.mod_lt V hQ
 have h2:=Nat.mod_lt W hQ
 have hq:W/Q≤V/Q:=Nat.div_le_div_right h
 generalize V%Q=r at*
 generalize W%Q=s at*
 generalize V/Q=a at*
 generalize W/Q=b at*
 obtain⟨c,rfl⟩:=Nat.exists_eq_add_of_le hq
 rw[Nat.mul_add]at e1
 rcases Nat.lt_or_ge r s with hrs|hrs
 ·cases c with
  |zero=>simp at e1;omega
  |succ c=>
   rw[Nat.mul_add,Nat.mul_one]at e1
   rw[show V-W=Q*c+(r+Q-s) by omega,Nat.mul_add_mod]
 ·rw[show V-W=Q*c+(r-s) by omega,Nat.mul_add_mod,show r+Q-s=r-s+Q by omega,Nat.add_mod_right]
theorem MJ{B:Nat}(hB:0<B){V W:Nat}(h:W≤V)(k:Nat):(V/B^k%B+(B-1-W/B^k%B)+Bu B V W k)%B=(V-W)/B^k%B:=by
 have hP:0<B^k:=Nat.pow_pos hB
 have hQ:0<B^(k+1):=Nat.pow_pos hB
 have e:=LJ hQ h
 have e2:V/B^k%B+(B-1-W/B^k%B)+Bu B V W k=(V%B^(k+1)+B^(k+1)-W%B^(k+1))/B^k:=by
  rw[MI hB,Nat.add_mul_div_left _ _ hP,Bu];omega
 rw[e2,←Nat.mod_mul_right_div_self,←Nat.mod_mul_right_div_self,←Nat.pow_succ,e]
end Go.Fw
namespace Go.Fw
theorem MK{B:Nat}(hB:0<B):∀(j N lo p d hi:Nat),lo<B^j→p<B→d<B→j<N→(ga B N (lo+B^j*(p+B*hi))).set j d=ga B N (lo+B^j*(d+B*hi))
 |0,N+1,lo,p,d,hi,hlo,hp,hd,_=>by
  have:lo=0:=by simpa using hlo
  subst this
  simp only[Nat.pow_zero,Nat.zero_add,Nat.one_mul,ga,List.set_cons_zero,Nat.add_mul_mod_self_left,Nat.mod_eq_of_lt hd]
  rw[Nat.add_mul_div_left _ _ hB,Nat.add_mul_div_left _ _ hB,Nat.div_eq_of_lt hp,Nat.div_eq_of_lt hd]
 |j+1,N+1,lo,p,d,hi,hlo,hp,hd,hN=>by
  have e:∀q,(lo+B^(j+1)*(q+B*hi))%B=lo%B:=fun q=>by
   rw[Nat.pow_succ,Nat.mul_comm (B^j) B,Nat.mul_assoc,Nat.add_mul_mod_self_left]
  have e2:∀q,(lo+B^(j+1)*(q+B*hi))/B=lo/B+B^j*(q+B*hi):=fun q=>by
   rw[Nat.pow_succ,Nat.mul_comm (B^j) B,Nat.mul_assoc,Nat.add_mul_div_left _ _ hB]
  have ajU:lo/B<B^j:=by rw[Nat.div_lt_iff_lt_mul hB];rwa[Nat.pow_succ]at hlo
  rw[ga,ga,List.set_cons_succ,e,e,e2,e2,MK hB j N (lo/B) p d hi ajU hp hd (by omega)]
theorem v9{B:Nat}(hB:0<B){N j u u' d:Nat}(hj:j<N)(hd:d<B)(hlo:u'%B^j=u%B^j)(ZA:u'/B^j%B=d)(hhi:u'/B^(j+1)=u/B^(j+1)):(ga B N u).set j d=ga B N u':=by
 have hP:0<B^j:=Nat.pow_pos hB
 have f:∀u,u=u%B^j+B^j*(u/B^j%B+B*(u/B^(j+1))):=fun u=>by
  have e1:=Nat.mod_add_div u (B^j)
  have e2:=NY B u j
  rw[Nat.add_comm]at e2
  rw[←e2,e1]
 rw[f u,MK hB j N _ _ d _ (Nat.mod_lt _ hP) (Nat.mod_lt _ hB) hd hj]
 conv=>rhs;rw[f u',hlo,ZA,hhi]
where
 NY (B v m:Nat):v/B^m=B*(v/B^(m+1))+v/B^m%B:=by
  rw[Nat.pow_succ,←Nat.div_div_eq_div_mul,Nat.div_add_mod]
def mT(B V W i k:Nat):Nat:=((V%B^i)*W)%B^(i+k)+B^i*(V/B^i%B)*(W%B^k)
def mC(B V W i k:Nat):Nat:=mT B V W i k/B^(i+k)
def mV(B V W i k:Nat):Nat:=mT B V W i k%B^(i+k)+B^(i+k)*(((V%B^i)*W)/B^(i+k))
theorem Wb{B:Nat}(hB:0<B)(V W i k:Nat):mT B V W i k<B^(i+k)*B:=by
 have h1:((V%B^i)*W)%B^(i+k)<B^(i+k):=Nat.mod_lt _ (Nat.pow_pos hB)
 have h2:V/B^i%B<B:=Nat.mod_lt _ hB
 have h3:W%B^k<B^k:=Nat.mod_lt _ (Nat.pow_pos hB)
 have h4:B^i*(V/B^i%B)*(W%B^k)≤B^i*(B-1)*B^k:=Nat.mul_le_mul (Nat.mul_le_mul_left _ (by omega)) (Nat.le_of_lt h3)
 have h5:B^i*(B-1)*B^k=B^(i+k)*(B-1):=by rw[Nat.pow_add,Nat.mul_assoc,Nat.mul_assoc,Nat.mul_comm (B-1)]
 have h6:B^(i+k)*B=B^(i+k)*(B-1)+B^(i+k):=by
  obtain⟨b,rfl⟩:∃b,B=b+1:=⟨B-1,by omega⟩
  rw[Nat.add_sub_cancel,Nat.mul_add,Nat.mul_one]
 unfold mT
 omega
theorem Wc{B:Nat}(hB:0<B)(V W i k:Nat):mC B V W i k<B:=by
 rw[mC,Nat.div_lt_iff_lt_mul (Nat.pow_pos hB),Nat.mul_comm];exact Wb hB V W i k
theorem Hz{B:Nat}(V W i k:Nat):mT B V W i (k+1)=mT B V W i k+B^(i+k)*(((V%B^i)*W)/B^(i+k)%B+(V/B^i%B)*(W/B^k%B)):=by
 have e1:((V%B^i)*W)%B^(i+(k+1))=((V%B^i)*W)%B^(i+k)+B^(i+k)*(((V%B^i)*W)/B^(i+k)%B):=by rw[←Nat.add_assoc,ia]
 have e2:W%B^(k+1)=W%B^k+B^k*(W/B^k%B):=ia B W k
 unfold mT
 rw[e1,e2,Nat.mul_add,Nat.mul_add (B^(i+k))]
 have e3:B^i*(V/B^i%B)*(B^k*(W/B^k%B))=B^(i+k)*((V/B^i%B)*(W/B^k%B)):=by
  rw[Nat.pow_add,Nat.mul_assoc,Nat.mul_assoc,Nat.mul_left_comm (V/B^i%B)]
 omega
theorem Ua{B:Nat}(hB:0<B)(V W i k:Nat):(((V%B^i)*W)/B^(i+k)%B+(V/B^i%B)*(W/B^k%B)+mC B V W i k)/B=mC B V W i (k+1):=by
 have hP:0<B^(i+k):=Nat.pow_pos hB
 rw[mC,mC,Hz,←Nat.add_assoc,Nat.pow_succ,←Nat.div_div_eq_div_mul,Nat.add_mul_div_left _ _ hP]
 congr 1;omega
theorem Wd{B:Nat}(V W i k:Nat):mV B V W i k%B^(i+k)=mT B V W i k%B^(i+k):=by
 rw[mV,Nat.add_mul_mod_self_left,Nat.mod_mod]
theorem ML{B:Nat}(hB:0<B)(V W i k:Nat):mV B V W i k/B^(i+k)=((V%B^i)*W)/B^(i+k):=by
 have hP:0<B^(i+k):=Nat.pow_pos hB
 rw[mV,Nat.add_mul_div_left _ _ hP,Nat.div_eq_of_lt (Nat.mod_lt _ hP),Nat.zero_add]
theorem ZB{B:Nat}(hB:0<B){V W i k N:Nat}(h:i+k<N):(ga B N (mV B V W i k))[i+k]? =some (((V%B^i)*W)/B^(i+k)%B):=by
 rw[zk _ _ _ h,ML hB]
theorem Ub{B:Nat}(hB:0<B){V W i k N:Nat}(h:i+k<N):
  (ga B N (mV B V W i k)).set (i+k) ((((V%B^i)*W)/B^(i+k)%B+(V/B^i%B)*(W/B^k%B)+mC B V W i k)%B)=ga B N (mV B V W i (k+1)):=by
 have hP:0<B^(i+k):=Nat.pow_pos hB
 have hPB:B^(i+(k+1))=B^(i+k)*B:=by rw[←Nat.add_assoc,Nat.pow_succ]
 have hs:mT B V W i (k+1)/B^(i+k)=((V%B^i)*W)/B^(i+k)%B+(V/B^i%B)*(W/B^k%B)+mC B V W i k:=by
  rw[Hz,Nat.add_mul_div_left _ _ hP,mC];omega
 have ht:mT B V W i (k+1)%B^(i+k)=mT B V W i k%B^(i+k):=by rw[Hz,Nat.add_mul_mod_self_left]
 refine v9 hB h (Nat.mod_lt _ hB) ?_ ?_ ?_
 ·rw[Wd,←ht,mV,hPB,Nat.mul_assoc,Nat.add_mul_mod_self_left,Nat.mod_mul_right_mod]
 ·rw[mV,hPB,Nat.mul_assoc,Nat.add_mul_div_left _ _ hP,Nat.add_mul_mod_self_left,Nat.mod_mul_right_div_self,Nat.mod_mod,hs]
 ·rw[show i+k+1=i+(k+1) by omega,ML hB,show i+(k+1)=i+k+1 by omega,Nat.pow_succ,←Nat.div_div_eq_div_mul,←Nat.div_div_eq_div_mul,ML hB]
theorem Ud{B:Nat}(V W i:Nat):mV B V W i 0=(V%B^i)*W:=by
 rw[mV,mT,Nat.pow_zero,Nat.mod_one,Nat.mul_zero,Nat.add_zero,Nat.add_zero,Nat.mod_mod,Nat.mod_add_div]
theorem Ue{B:Nat}(hB:0<B)(V W i:Nat):mC B V W i 0=0:=by
 rw[mC,mT,Nat.pow_zero,Nat.mod_one,Nat.mul_zero,Nat.add_zero,Nat.add_zero]
 exact Nat.div_eq_of_lt (Nat.mod_lt _ (Nat.pow_pos hB))
theorem ZC{B:Nat}(hB:0<B){V W i n N:Nat}(hW:W<B^n)(h:i+n<N):(ga B N (mV B V W i n)).set (i+n) ((0+mC B V W i n)%B)=ga B N ((V%B^(i+1))*W):=by
 have hP:0<B^(i+n):=Nat.pow_pos hB
 have hp:(V%B^i)*W<B^(i+n):=by
  have h1:V%B^i<B^i:=Nat.mod_lt _ (Nat.pow_pos hB)
  rw[Nat.pow_add]
  by_cases h0:W=0
  ·subst h0;rw[Nat.mul_zero];exact Nat.mul_pos (Nat.pow_pos hB) (Nat.pow_pos hB)
  ·calc (V%B^i)*W<B^i*W:=Nat.mul_lt_mul_of_pos_right h1 (by omega)
    _≤B^i*B^n:=Nat.mul_le_mul_left _ (Nat.le_of_lt hW)
 have hT:mT B V W i n=(V%B^(i+1))*W:=by
  rw[mT,Nat.mod_eq_of_lt hp,Nat.mod_eq_of_lt hW,ia,Nat.add_mul]
 have hlt:=Wb hB V W i n
 rw[hT]at hlt
 refine v9 hB h (Nat.mod_lt _ hB) ?_ ?_ ?_
 ·rw[Wd,hT]
 ·rw[Nat.zero_add,mC,hT]
 ·rw[Nat.pow_succ B (i+n),Nat.div_eq_of_lt hlt,←Nat.div_div_eq_div_mul,ML hB,Nat.div_eq_of_lt hp,Nat.zero_div]
def sT(B V f e i:Nat):Nat:=V%B^i*f+e
def sC(B V f e i:Nat):Nat:=sT B V f e i/B^i
theorem MM(B V f e:Nat):sC B V f e 0=e:=by simp[sC,sT,Nat.mod_one]
theorem MN(B V f e i:Nat):sT B V f e (i+1)=sT B V f e i+B^i*(V/B^i%B*f):=by
 unfold sT
 rw[ia,Nat.add_mul,Nat.mul_assoc];omega
theorem MO{B:Nat}(hB:0<B)(V f e i:Nat):(V/B^i%B*f+sC B V f e i)/B=sC B V f e (i+1):=by
 have hP:0<B^i:=Nat.pow_pos hB
 rw[sC,sC,MN,Nat.pow_succ,←Nat.div_div_eq_div_mul,Nat.add_mul_div_left _ _ hP]
 congr 1;omega
theorem RN{B:Nat}(hB:0<B)(V f e i:Nat):(V/B^i%B*f+sC B V f e i)%B=(V*f+e)/B^i%B:=by
 have hP:0<B^i:=Nat.pow_pos hB
 have h1:V*f+e=sT B V f e (i+1)+B^i*(B*(V/B^(i+1)*f)):=by
  have e1:=Nat.mod_add_div V (B^(i+1))
  unfold sT
  conv=>lhs;rw[←e1,Nat.add_mul]
  rw[Nat.pow_succ,Nat.mul_assoc,Nat.mul_assoc];omega
 rw[h1,Nat.add_mul_div_left _ _ hP,Nat.add_mul_mod_self_left,MN,Nat.add_mul_div_left _ _ hP,sC,Nat.add_comm]
theorem We{B:Nat}(hB:0<B){V f e:Nat}(hf:f<B)(he:e<B)(i:Nat):sC B V f e i<B:=by
 have hP:0<B^i:=Nat.pow_pos hB
 rw[sC,Nat.div_lt_iff_lt_mul hP]
 have h1:V%B^i≤B^i-1:=by have:=Nat.mod_lt V hP;omega
 have h2:V%B^i*f≤(B^i-1)*(B-1):=Nat.mul_le_mul h1 (by omega)
 obtain⟨p,hp⟩:∃p,B^i=p+1:=⟨B^i-1,by omega⟩
 obtain⟨b,rfl⟩:∃b,B=b+1:=⟨B-1,by omega⟩
 unfold sT
 rw[hp]at h2⊢
 rw[Nat.add_sub_cancel,Nat.add_sub_cancel]at h2
 have h3:(b+1)*(p+1)=p*b+b+p+1:=by rw[Nat.add_mul,Nat.mul_add,Nat.mul_comm b p];omega
 omega
theorem ZD{B V f e i:Nat}(h:V<B^i):sC B V f e i=(V*f+e)/B^i:=by rw[sC,sT,Nat.mod_eq_of_lt h]
def sU(B V f e i:Nat):Nat:=sT B V f e i%B^i+B^i*(V/B^i)
def qU(B V d n:Nat):Nat:=V%B^n+B^n*(V/B^n/d)
theorem Uf(B V d:Nat):qU B V d 0=V/d:=by simp[qU,Nat.mod_one]
theorem ZE{B V d n:Nat}(h:V<B^n):qU B V d n=V:=by simp[qU,Nat.mod_eq_of_lt h,Nat.div_eq_of_lt h]
theorem Ug(B V m:Nat):V/B^m=B*(V/B^(m+1))+V/B^m%B:=by rw[Nat.pow_succ,←Nat.div_div_eq_div_mul,Nat.div_add_mod]
theorem Wf{B d:Nat}(V m:Nat):V/B^m=(V/B^(m+1)%d*B+V/B^m%B)+d*(B*(V/B^(m+1)/d)):=by
 have h1:=Ug B V m
 have h2:=Nat.mod_add_div (V/B^(m+1)) d
 generalize V/B^(m+1)=q at*
 generalize V/B^m%B=y at*
 rw[h1]
 conv=>lhs;rw[←h2]
 rw[Nat.mul_add,Nat.mul_left_comm B d,Nat.mul_comm B (q%d)];omega
theorem adP{B d:Nat}(hd:0<d)(V m:Nat):V/B^m/d=B*(V/B^(m+1)/d)+(V/B^(m+1)%d*B+V/B^m%B)/d:=by
 conv=>lhs;rw[Wf (B:=B) (d:=d) V m]
 rw[Nat.add_mul_div_left _ _ hd,Nat.add_comm]
theorem adQ{B d:Nat}(V m:Nat):V/B^m%d=(V/B^(m+1)%d*B+V/B^m%B)%d:=by
 conv=>lhs;rw[Wf (B:=B) (d:=d) V m]
 rw[Nat.add_mul_mod_self_left]
theorem adR{B d:Nat}(hB:0<B)(hd:0<d)(V m:Nat):V/B^(m+1)%d*B+V/B^m%B<d*B:=by
 have h1:=Nat.mod_lt (V/B^(m+1)) hd
 have h2:=Nat.mod_lt (V/B^m) hB
 have h3:(V/B^(m+1)%d+1)*B≤d*B:=Nat.mul_le_mul_right _ h1
 rw[Nat.add_mul]at h3;omega
theorem RO{B:Nat}(hB:0<B)(V d n:Nat):qU B V d n/B^n=V/B^n/d:=by
 have hP:0<B^n:=Nat.pow_pos hB
 rw[qU,Nat.add_mul_div_left _ _ hP,Nat.div_eq_of_lt (Nat.mod_lt _ hP),Nat.zero_add]
theorem adS(B V d n:Nat):qU B V d n%B^n=V%B^n:=by rw[qU,Nat.add_mul_mod_self_left,Nat.mod_mod]
theorem Uh{B:Nat}(V d m:Nat):qU B V d (m+1)%B^m=V%B^m:=by
 rw[qU,Nat.pow_succ,Nat.mul_assoc,Nat.add_mul_mod_self_left,Nat.mod_mul_right_mod]
theorem ZF{B:Nat}(hB:0<B){V d m N:Nat}(h:m<N):(ga B N (qU B V d (m+1)))[m]? =some (V/B^m%B):=by
 have hP:0<B^m:=Nat.pow_pos hB
 rw[zk _ _ _ h,qU,Nat.pow_succ,Nat.mul_assoc,Nat.add_mul_div_left _ _ hP,Nat.add_mul_mod_self_left,Nat.mod_mul_right_div_self,Nat.mod_mod]
theorem Ui{B:Nat}(hB:0<B){V d m N:Nat}(hd:0<d)(h:m<N):(ga B N (qU B V d (m+1))).set m ((V/B^(m+1)%d*B+V/B^m%B)/d)=ga B N (qU B V d m):=by
 have hx:(V/B^(m+1)%d*B+V/B^m%B)/d<B:=by rw[Nat.div_lt_iff_lt_mul hd,Nat.mul_comm B d];exact adR hB hd V m
 have hq:=adP (B:=B) hd V m
 refine v9 hB h hx ?_ ?_ ?_
 ·rw[adS,Uh]
 ·rw[RO hB,hq,Nat.mul_add_mod,Nat.mod_eq_of_lt hx]
 ·rw[RO hB,Nat.pow_succ,←Nat.div_div_eq_div_mul,RO hB,hq,Nat.mul_add_div hB,Nat.div_eq_of_lt hx,←Nat.pow_succ];rfl
end Go.Fw
namespace Go.Fw
theorem Uj{B v:Nat}(hB:2≤B)(h0:v≠0)(h:v<B):can B v=[v]:=by
 have:=RL hB (l:=[]) h0 (by simpa using h)
 simpa[val]using this.symm
theorem Uk{B v:Nat}(hB:2≤B)(h0:v/B≠0)(h:v<B*B):can B v=[v%B,v/B]:=by
 have h1:v/B<B:=by rw[Nat.div_lt_iff_lt_mul (by omega)];exact h
 have h2:v%B<B:=Nat.mod_lt _ (by omega)
 have:=RL hB (l:=[v%B]) h0 (by simp;exact⟨h2,h1⟩)
 simp only[List.cons_append,List.nil_append,val,Nat.mul_zero,Nat.add_zero]at this
 rw[Nat.mod_add_div]at this
 exact this.symm
theorem qK{B:Nat}{l:List Nat}(h:∀x∈l,x<B){i:Nat}(hi:i<l.length):l[i]? =some (val B l/B^i%B):=by
 rw[←rX l h i];simp[List.getD,hi]
def EH(v w:Nat):Int:=if v<w then-1 else if v=w then 0 else 1
theorem zm{v w:Nat}(h:v<w):EH v w=-1:=by simp[EH,h]
theorem HA(v:Nat):EH v v=0:=by simp[EH]
theorem BU{v w:Nat}(h:w<v):EH v w=1:=by
 have h1:¬v<w:=by omega
 have h2:¬v=w:=by omega
 simp[EH,h1,h2]
theorem DS{B v w:Nat}(hB:2≤B)(h:(can B v).length<(can B w).length):v<w:=
 Nat.lt_of_lt_of_le (dV hB v) (xk hB h)
theorem JQ(B v m:Nat):v/B^m=B*(v/B^(m+1))+v/B^m%B:=by
 rw[Nat.pow_succ,←Nat.div_div_eq_div_mul,Nat.div_add_mod]
theorem FD{B v w m:Nat}(h:v/B^m<w/B^m):v<w:=by
 rcases Nat.lt_or_ge v w with h1|h1
 ·exact h1
 ·have:=Nat.div_le_div_right (c:=B^m) h1;omega
theorem NZ{B v w m:Nat}(h:v/B^(m+1)=w/B^(m+1)):(v/B^m%B=w/B^m%B∧v/B^m=w/B^m)∨(v/B^m%B<w/B^m%B∧v<w)∨(w/B^m%B<v/B^m%B∧w<v):=by
 have h1:=JQ B v m
 have h2:=JQ B w m
 rw[←h]at h2
 rcases Nat.lt_trichotomy (v/B^m%B) (w/B^m%B)with h3|h3|h3
 ·exact .inr (.inl ⟨h3,FD (B:=B) (m:=m) (by omega)⟩)
 ·exact .inl ⟨h3,by omega⟩
 ·exact .inr (.inr ⟨h3,FD (B:=B) (m:=m) (by omega)⟩)
end Go.Fw
namespace Go.Proofs.YtningmnklfpfjaaGreat
open Go.Fw
theorem BV(l:List Nat)(hl:l.length≤1000000000000):aG l=some (mI l):=by
 unfold aG
 refine nu (fun y=>y.length≤1000000000000∧mI y=mI l) (fun e=>e=mI l) (fun y=>y.length) ?_ ⟨hl,rfl⟩ (fun e he=>by rw[he])
 rintro y ⟨hy,ht⟩
 rcases yc y with rfl|⟨ys,rfl⟩|⟨ys,x,hx,rfl⟩
 ·right;exact⟨[],by simp[b9],ht⟩
 ·left
  have h1:((ys++[0]).length:Int)=((ys.length+1:Nat):Int):=by simp
  have h2:ys.length≤9223372036854775807:=by simp at hy;omega
  refine⟨ys,?_,⟨by simp at hy⊢;omega,by rw[←ht,tu]⟩,by simp⟩
  simp only[b9,Option.bind_some,h1,JI h2]
  rw[aP (a:=0) (by simp),Ao (by simp)]
  simp
 ·right
  have h1:((ys++[x]).length:Int)=((ys.length+1:Nat):Int):=by simp
  have h2:ys.length≤9223372036854775807:=by simp at hy;omega
  refine⟨ys++[x],?_,by rw[←ht,ya _ hx]⟩
  simp only[b9,Option.bind_some,h1,JI h2]
  rw[aP (a:=x) (by simp)]
  simp[hx]
def zc(n:Bool)(v:Nat):Zr:=⟨n&&v != 0,can 4294967296 v⟩
theorem MP(n:Bool):zc n 0=⟨false,[]⟩:=by simp[zc,vz]
theorem RQ(n:Bool){v:Nat}(h:v≠0):zc n v=⟨n,can 4294967296 v⟩:=by simp[zc,h]
def HS(l:List Nat):Prop:=(∀x∈l,x<4294967296)∧l.length≤100000000000
abbrev vl(l:List Nat):Nat:=val 4294967296 l
theorem k8(n:Bool)(l:List Nat)(h:HS l):bO n l=some (zc n (vl l)):=by
 unfold bO
 rw[BV l (by have:=h.2;omega),rW (by decide) h.1]
 show _=some (zc n (val 4294967296 l))
 by_cases hz:val 4294967296 l=0
 ·rw[hz,MP];simp[vz]
 ·have:can 4294967296 (val 4294967296 l)≠[]:=fun e=>hz (Hw (by decide) e)
  rw[RQ _ hz];simp[this]
theorem rY(n:Bool)(v:Nat)(h:v<18446744073709551616):dI n v=some (zc n v):=by
 unfold dI
 by_cases hz:v=0
 ·subst hz;simp[MP]
 ·rw[RQ _ hz]
  by_cases h1:v/2^32=0
  ·rw[Uj (by decide) hz (by omega)]
   simp only[Option.bind_some,hz,h1,decide_false,decide_true,cond_false,cond_true]
   rw[Nat.mod_eq_of_lt (by omega)]
  ·rw[Uk (by decide) (by omega) (by omega)]
   simp only[Option.bind_some,hz,h1,decide_false,cond_false]
   rw[Nat.mod_eq_of_lt (a:=v/2^32) (by omega)]
theorem RR{a b s:Nat}(h:a<2^s):a ||| b*2^s=a+b*2^s:=by
 rw[Nat.or_comm,Nat.mul_comm b,←Nat.two_pow_add_eq_or_of_lt h,Nat.add_comm]
theorem low_eq(l:List Nat)(h:∀x∈l,x<4294967296)(hl:l.length≤2):dB l=some (vl l):=by
 rcases l with _|⟨x,_|⟨y,_|⟨z,l⟩⟩⟩
 ·simp[dB,vl,val]
 ·have hx:=h x (by simp)
  simp only[dB,An (l:=[x]) (a:=x) rfl]
  simp[vl,val];omega
 ·have hx:=h x (by simp)
  have hy:=h y (by simp)
  simp only[dB,An (l:=[x,y]) (a:=x) rfl,RH (l:=[x,y]) (a:=y) rfl,Option.bind_some]
  rw[Nat.mod_eq_of_lt (a:=x) (by omega),Nat.mod_eq_of_lt (a:=y) (by omega),Nat.mod_eq_of_lt (a:=y*2^32) (by omega),RR (by omega),Nat.mod_eq_of_lt (by omega)]
  simp[vl,val];omega
 ·simp at hl
theorem iy(x c:Nat)(h:x+c<18446744073709551616):bz x c=some ((x+c)%4294967296,(x+c)/4294967296):=by
 simp[bz,Nat.mod_eq_of_lt h]
theorem lA(v w:Nat)(hv:(can 4294967296 v).length≤100000000000)(hw:(can 4294967296 w).length≤100000000000):cJ (can 4294967296 v) (can 4294967296 w)=some (EH v w):=by
 unfold cJ
 rcases Nat.lt_trichotomy (can 4294967296 v).length (can 4294967296 w).length with hl|hl|hl
 ·rw[zm (DS (by decide) hl)]
  simp only[Option.bind_some]
  rw[show decide (((can 4294967296 v).length:Int)≠((can 4294967296 w).length:Int))=true by simp;omega,show decide (((can 4294967296 v).length:Int)<((can 4294967296 w).length:Int))=true by simp;omega];rfl
 ·simp only[Option.bind_some]
  rw[show decide (((can 4294967296 v).length:Int)≠((can 4294967296 w).length:Int))=false by simp;omega,cond_false]
  refine nu (fun y=>∃n:Nat,y=(n:Int)-1∧n≤(can 4294967296 v).length∧v/4294967296^n=w/4294967296^n) (fun e=>e=(if v=w then .inl ()else .inr (EH v w))) (fun y=>(y+1).toNat) ?_ ⟨(can 4294967296 v).length,?_,Nat.le_refl _,?_⟩ ?_
  ·rintro y ⟨n,rfl,hn,he⟩
   cases n with
   |zero=>
    right
    have:v=w:=by simpa using he
    subst this
    exact⟨_,by simp,rfl⟩
   |succ m=>
    have HQ:=Hx (B:=4294967296) (by decide) (v:=v) (j:=m) (by omega)
    have hgw:=Hx (B:=4294967296) (by decide) (v:=w) (j:=m) (by omega)
    have e0:((m+1:Nat):Int)-1=(m:Int):=by omega
    rw[e0]
    rcases NZ he with⟨h1,h2⟩|⟨h1,h2⟩|⟨h1,h2⟩
    ·left
     refine⟨(m:Int)-1,?_,⟨m,rfl,by omega,h2⟩,by omega⟩
     simp only[Option.bind_some,aP HQ,aP hgw,h1]
     rw[cx (by omega) (by omega)]
     simp
    ·right
     refine⟨.inr (-1),?_,by rw[if_neg (by omega),zm h2]⟩
     simp only[Option.bind_some,aP HQ,aP hgw]
     simp[h1,Nat.ne_of_lt h1]
    ·right
     refine⟨.inr 1,?_,by rw[if_neg (by omega),BU h2]⟩
     simp only[Option.bind_some,aP HQ,aP hgw]
     simp[Nat.not_lt_of_lt h1,Nat.ne_of_gt h1]
  ·rw[cx (by omega) (by omega)]
  ·rw[DR (by decide) (Nat.le_refl _),DR (by decide) (by omega)]
  ·rintro e rfl
   by_cases h:v=w
   ·subst h;simp[HA]
   ·simp[h]
 ·rw[BU (DS (by decide) hl)]
  simp only[Option.bind_some]
  rw[show decide (((can 4294967296 v).length:Int)≠((can 4294967296 w).length:Int))=true by simp;omega,show decide (((can 4294967296 v).length:Int)<((can 4294967296 w).length:Int))=false by simp;omega];rfl
theorem BW{l:List Nat}(h:∀x∈l,x<4294967296)(i:Nat):l.getD i 0<4294967296:=by
 rcases Nat.lt_or_ge i l.length with hi|hi
 ·exact h _ (List.mem_of_getElem? (uy hi))
 ·rw[xy hi];decide
theorem AR(a b:List Nat)(ha:HS a)(hb:HS b):dy a b=some (ga 4294967296 (max a.length b.length+1) (vl a+vl b)):=by
 obtain⟨hA,hla⟩:=ha
 obtain⟨hB,hlb⟩:=hb
 have hV:val 4294967296 a<4294967296^(max a.length b.length):=Nat.lt_of_lt_of_le (jR a hA) (Nat.pow_le_pow_right (by decide) (by omega))
 have hW:val 4294967296 b<4294967296^(max a.length b.length):=Nat.lt_of_lt_of_le (jR b hB) (Nat.pow_le_pow_right (by decide) (by omega))
 unfold dy
 simp only[Option.bind_some]
 rw[show max (a.length:Int) (b.length:Int)=((max a.length b.length:Nat):Int) by omega,bk (by omega),DP (by decide) (by omega),Option.bind_some]
 refine tj (fun k=>(HR 4294967296 (vl a) (vl b) k,ga 4294967296 k (vl a+vl b))) (by simp[JN,ga]) (fun k hk=>?_) ?_
 ·have hx:=BW hA k
  have hy:=BW hB k
  have hc:=LI (B:=4294967296) (by decide) (vl a) (vl b) k
  have hxe:=rX a hA k
  have hye:=rX b hB k
  simp only[Option.bind_some]
  rw[Nat.mod_eq_of_lt (a:=a.getD k 0) (by omega),Nat.mod_eq_of_lt (a:=b.getD k 0) (by omega),Nat.mod_eq_of_lt (a:=a.getD k 0+b.getD k 0) (by omega),iy _ _ (by omega)]
  simp only[Option.bind_some]
  rw[DO (by decide) (by rw[bA];omega),Option.bind_some,hxe,hye,JM (by decide),Hy (by decide),←pR]
 ·have hc:=LI (B:=4294967296) (by decide) (vl a) (vl b) (max a.length b.length)
  simp only
  rw[iy _ _ (by omega)]
  simp only[Option.bind_some]
  rw[DO (by decide) (by rw[bA];omega),Option.bind_some,Nat.zero_add,T9 hV hW,←pR]
theorem AT(a b:List Nat)(ha:HS a)(hb:HS b)(hl:b.length≤a.length)(hle:vl b≤vl a):cg a b=some (ga 4294967296 a.length (vl a-vl b)):=by
 obtain⟨hA,hla⟩:=ha
 obtain⟨hB,hlb⟩:=hb
 have hmx:max a.length b.length=a.length:=by omega
 unfold cg
 simp only[Option.bind_some]
 rw[DP (by decide) (by omega),Option.bind_some,hmx]
 refine tj (fun k=>(Bu 4294967296 (vl a) (vl b) k,ga 4294967296 k (vl a-vl b))) (by simp[JO,ga]) (fun k hk=>?_) rfl
 have hx:=BW hA k
 have hy:=BW hB k
 have hc:=RM (B:=4294967296) (by decide) (vl a) (vl b) k
 have hxe:=rX a hA k
 have hye:=rX b hB k
 simp only[Option.bind_some]
 rw[Nat.mod_eq_of_lt (a:=a.getD k 0) (by omega),Nat.mod_eq_of_lt (a:=b.getD k 0) (by omega),th (by omega) (by omega),Nat.mod_eq_of_lt (a:=a.getD k 0+(4294967295-b.getD k 0)) (by omega),iy _ _ (by omega)]
 simp only[Option.bind_some]
 rw[DO (by decide) (by rw[bA];omega),Option.bind_some,hxe,hye,JP (B:=4294967296) (by decide),MJ (B:=4294967296) (by decide) hle,←pR]
theorem JR(a b:List Nat)(ha:HS a)(hb:HS b):dX a b=some (ga 4294967296 (a.length+b.length) (vl a*vl b)):=by
 obtain⟨hA,hla⟩:=ha
 obtain⟨hB,hlb⟩:=hb
 unfold dX
 simp only[Option.bind_some]
 rw[vZ (by omega),pQ (by decide) (by omega),Option.bind_some]
 refine aW (fun i=>((i:Int),ga 4294967296 (a.length+b.length) (vl a%4294967296^i*vl b))) a.length (ga 4294967296 (a.length+b.length) (vl a%4294967296^a.length*vl b)) (by simp[Nat.mod_one,vv]) (fun i hi=>?_) (by simp) (by rw[Nat.mod_eq_of_lt (jR a hA)])
 have hgx:=qK hA hi
 have hx:val 4294967296 a/4294967296^i%4294967296<4294967296:=Nat.mod_lt _ (by decide)
 simp only[Option.bind_some,show decide ((i:Int)<(a.length:Int))=true by simp;omega,cond_true]
 rw[aP hgx,Option.bind_some]
 refine aW (fun k=>((k:Int),mC 4294967296 (vl a) (vl b) i k,ga 4294967296 (a.length+b.length) (mV 4294967296 (vl a) (vl b) i k))) b.length (mC 4294967296 (vl a) (vl b) i b.length,ga 4294967296 (a.length+b.length) (mV 4294967296 (vl a) (vl b) i b.length)) (by simp[Ue,Ud]) (fun k hk=>?_) (by simp) ?_
 ·have hgy:=qK hB hk
  have hgp:=ZB (B:=4294967296) (by decide) (V:=vl a) (W:=vl b) (i:=i) (k:=k) (N:=a.length+b.length) (by omega)
  have hy:val 4294967296 b/4294967296^k%4294967296<4294967296:=Nat.mod_lt _ (by decide)
  have hp:vl a%4294967296^i*vl b/4294967296^(i+k)%4294967296<4294967296:=Nat.mod_lt _ (by decide)
  have hc:=Wc (B:=4294967296) (by decide) (vl a) (vl b) i k
  have hxy:val 4294967296 a/4294967296^i%4294967296*(val 4294967296 b/4294967296^k%4294967296)≤4294967295*4294967295:=Nat.mul_le_mul (by omega) (by omega)
  simp only[Option.bind_some,show decide ((k:Int)<(b.length:Int))=true by simp;omega,cond_true]
  rw[aP hgy,Option.bind_some,vZ (by omega),bn (by rw[bA];omega),Option.bind_some,hgp,Option.bind_some]
  rw[Nat.mod_eq_of_lt (a:=vl a%4294967296^i*vl b/4294967296^(i+k)%4294967296) (by omega),Nat.mod_eq_of_lt (a:=val 4294967296 a/4294967296^i%4294967296) (b:=18446744073709551616) (by omega),Nat.mod_eq_of_lt (a:=val 4294967296 b/4294967296^k%4294967296) (b:=18446744073709551616) (by omega),Nat.mod_eq_of_lt (a:=val 4294967296 a/4294967296^i%4294967296*(val 4294967296 b/4294967296^k%4294967296)) (by omega),Nat.mod_eq_of_lt (a:=vl a%4294967296^i*vl b/4294967296^(i+k)%4294967296+_) (by omega),iy _ _ (by omega)]
  simp only[Option.bind_some]
  rw[ep (by rw[bA];omega),Option.bind_some,Ua (B:=4294967296) (by decide),Ub (B:=4294967296) (by decide) (by omega),bk (by omega)]
 ·have hc:=Wc (B:=4294967296) (by decide) (vl a) (vl b) i b.length
  simp only[Option.bind_some]
  rw[vZ (by omega),iy _ _ (by omega)]
  simp only[Option.bind_some]
  rw[bn (by rw[bA];omega),Option.bind_some,ep (by rw[bA];omega),Option.bind_some,ZC (B:=4294967296) (by decide) (jR b hB) (by omega),bk (by omega)]
end Go.Proofs.YtningmnklfpfjaaGreat
namespace Go.Proofs.YtningmnklfpfjaaGreat
open Go.Fw
theorem Ul{a b s:Nat}(h:a<2^s):b*2^s ||| a=b*2^s+a:=by rw[Nat.or_comm,RR h,Nat.add_comm]
theorem MQ{a b:Nat}(h:a<4294967296):b*4294967296 ||| a=b*4294967296+a:=Ul (s:=32) h
theorem JS(a:List Nat)(d:Nat)(ha:HS a)(hd:0<d)(hd2:d≤4294967296):iJ a d=some (vl a%d,ga 4294967296 a.length (vl a/d)):=by
 obtain⟨hA,hla⟩:=ha
 unfold iJ
 simp only[Option.bind_some]
 rw[cx (by omega) (by omega)]
 refine aW (fun i=>(vl a/4294967296^(a.length-i)%d,((a.length-i:Nat):Int)-1,ga 4294967296 a.length (qU 4294967296 (vl a) d (a.length-i)))) a.length (vl a%d,ga 4294967296 a.length (vl a/d)) ?_ (fun i hi=>?_) (by simp[Uf]) ?_
 ·simp only[Nat.sub_zero]
  rw[ZE (jR a hA),BT a hA,Nat.div_eq_of_lt (jR a hA),Nat.zero_mod]
 ·obtain⟨m,hm⟩:∃m,a.length-i=m+1:=⟨a.length-i-1,by omega⟩
  have hm':a.length-(i+1)=m:=by omega
  have hml:m<a.length:=by omega
  rw[hm,hm']
  have hy:vl a/4294967296^m%4294967296<4294967296:=Nat.mod_lt _ (by decide)
  have hr:vl a/4294967296^(m+1)%d<d:=Nat.mod_lt _ hd
  have hq:=adR (B:=4294967296) (by decide) hd (vl a) m
  have hqd:(vl a/4294967296^(m+1)%d*4294967296+vl a/4294967296^m%4294967296)/d<4294967296:=by rw[Nat.div_lt_iff_lt_mul hd,Nat.mul_comm 4294967296 d];exact hq
  have hg:=ZF (B:=4294967296) (by decide) (V:=vl a) (d:=d) (m:=m) (N:=a.length) hml
  have hlt:vl a/4294967296^(m+1)%d*4294967296+vl a/4294967296^m%4294967296<18446744073709551616:=by omega
  have hs1:vl a/4294967296^(m+1)%d*4294967296<18446744073709551616:=Nat.lt_of_le_of_lt (Nat.le_add_right _ _) hlt
  have Ef:vl a/4294967296^m%4294967296<18446744073709551616:=Nat.lt_of_le_of_lt (Nat.le_add_left _ _) hlt
  have hi1:((m+1:Nat):Int)-1=(m:Int):=by omega
  simp only[hi1,show decide ((0:Int)≤(m:Int))=true by simp,cond_true,Option.bind_some]
  rw[bn (by rw[bA];omega),Option.bind_some,hg]
  simp only[Option.bind_some]
  rw[show(2:Nat)^32=4294967296 from rfl]
  rw[Nat.mod_eq_of_lt (a:=vl a/4294967296^(m+1)%d*4294967296) hs1,Nat.mod_eq_of_lt (a:=vl a/4294967296^m%4294967296) (b:=18446744073709551616) Ef,MQ hy,Nat.mod_eq_of_lt (a:=vl a/4294967296^(m+1)%d*4294967296+vl a/4294967296^m%4294967296) hlt,Hu (by omega) hlt,BS (by omega)]
  simp only[Option.bind_some]
  rw[Nat.mod_eq_of_lt (b:=4294967296) (a:=(vl a/4294967296^(m+1)%d*4294967296+vl a/4294967296^m%4294967296)/d) hqd,ep (by rw[bA];omega),Option.bind_some,cx (by omega) (by omega)]
  rw[Ui (B:=4294967296) (by decide) hd hml,←adQ (B:=4294967296) (d:=d) (vl a) m]
 ·simp only
  rw[rV (by rw[bA]),Option.bind_some]
theorem shiftLeft_eq(a:List Nat)(s:Nat)(ha:HS a)(hs:s<32):fH a s=some (ga 4294967296 (a.length+1) (vl a*2^s)):=by
 obtain⟨hA,hla⟩:=ha
 have hf:2^s<4294967296:=by
  have:2^s<2^32:=Nat.pow_lt_pow_right (by decide) hs
  omega
 unfold fH
 simp only[Option.bind_some]
 rw[bk (by omega),DP (by decide) (by omega),Option.bind_some]
 refine aW (fun i=>((i:Int),sC 4294967296 (vl a) (2^s) 0 i,ga 4294967296 i (vl a*2^s+0))) a.length (sC 4294967296 (vl a) (2^s) 0 a.length,ga 4294967296 a.length (vl a*2^s+0)) (by simp[MM,ga]) (fun i hi=>?_) (by simp) ?_
 ·have hx:vl a/4294967296^i%4294967296<4294967296:=Nat.mod_lt _ (by decide)
  have hc:=We (B:=4294967296) (by decide) (V:=vl a) hf (show(0:Nat)<4294967296 by decide) i
  have hxf:vl a/4294967296^i%4294967296*2^s≤4294967295*4294967295:=Nat.mul_le_mul (by omega) (by omega)
  have hg:a[i]? =some (vl a/4294967296^i%4294967296):=qK hA hi
  simp only[show decide ((i:Int)<(a.length:Int))=true by simp;omega,cond_true]
  rw[aP hg]
  simp only[Option.bind_some]
  rw[show min s 64=s by omega,Nat.mod_eq_of_lt (a:=vl a/4294967296^i%4294967296) (b:=18446744073709551616) (by omega),Nat.mod_eq_of_lt (b:=18446744073709551616) (by omega),iy _ _ (by omega)]
  simp only[Option.bind_some]
  rw[DO (by decide) (by rw[bA];omega),Option.bind_some,MO (B:=4294967296) (by decide),RN (B:=4294967296) (by decide),bk (by omega),←pR]
 ·have hc:=We (B:=4294967296) (by decide) (V:=vl a) hf (show(0:Nat)<4294967296 by decide) a.length
  simp only
  rw[iy _ _ (by omega)]
  simp only[Option.bind_some]
  rw[DO (by decide) (by rw[bA];omega),Option.bind_some,Nat.zero_add,ZD (jR a hA),←pR]
  simp
theorem EI(a:List Nat)(s:Nat):jc a s=fH a s:=rfl
def yd:Sy:=[0,1,2,2,3,3,3,3,4,4,4,4,4,4,4,4,5,5,5,5,5,5,5,5,5,5,5,5,5,5,5,5]++List.replicate 32 6++List.replicate 64 7++List.replicate 128 8
theorem ZG:∀y:Nat,y<256→wP yd (y:Int)=some ((wP yd (y:Int)).getD 0)∧(wP yd (y:Int)).getD 0≤8∧y<2^(wP yd (y:Int)).getD 0∧(y=0∨2^(wP yd (y:Int)).getD 0≤2*y):=by decide+kernel
set_option maxRecDepth 20000 in
theorem RU(x:Nat)(h:x<4294967296):∃n:Nat,gV x=some (n:Int)∧n≤32∧x<2^n∧(x=0∨2^n≤2*x):=by
 have key:∀(y k:Nat),y<256→y=x/2^k→k≤24→(x≠0→y≠0)→∃n:Nat,(((wP yd ((y%256:Nat):Int)).bind fun iY=>(some (IntKind.i64.wrap (iY:Int))).bind fun gx=>(some (IntKind.i64.wrap ((k:Int)+gx))).bind fun fF=>some fF)=some (n:Int))∧n≤32∧x<2^n∧(x=0∨2^n≤2*x):=by
  intro y k hy hyx hk hnz
  obtain⟨h1,h2,h3,h4⟩:=ZG y hy
  rw[Nat.mod_eq_of_lt hy,h1]
  generalize (wP yd (y:Int)).getD 0=t at*
  have hp:0<2^k:=Nat.two_pow_pos _
  have e1:2^(k+t)=2^k*2^t:=Nat.pow_add ..
  have e2:=Nat.div_add_mod x (2^k)
  have e3:=Nat.mod_lt x hp
  rw[←hyx]at e2
  refine⟨k+t,?_,by omega,?_,?_⟩
  ·simp only[Option.bind_some]
   rw[vY (by omega),vZ (by omega)]
  ·rw[e1]
   have:2^k*(y+1)≤2^k*2^t:=Nat.mul_le_mul_left _ h3
   rw[Nat.mul_add]at this
   omega
  ·rcases h4 with h4|h4
   ·left
    cases Nat.eq_zero_or_pos x with
    |inl h=>exact h
    |inr h=>exact absurd h4 (hnz (by omega))
   ·right
    rw[e1]
    have:2^k*2^t≤2^k*(2*y):=Nat.mul_le_mul_left _ h4
    rw[show 2^k*(2*y)=2*(2^k*y) by rw[Nat.mul_left_comm]]at this
    omega
 unfold gV
 simp only[b9,Option.bind_some]
 by_cases c1:65536≤x
 ·rw[show decide (65536≤x)=true by simpa using c1]
  simp only[cond_true]
  by_cases c2:256≤x/2^16
  ·rw[show decide (256≤x/2^16)=true by simpa using c2]
   simp only[cond_true]
   rw[show IntKind.i64.wrap (16+8)=((24:Nat):Int) by decide]
   exact key (x/2^16/2^8) 24 (by omega) (by omega) (by omega) (by omega)
  ·rw[show decide (256≤x/2^16)=false by simpa using c2]
   simp only[cond_false]
   exact key (x/2^16) 16 (by omega) rfl (by omega) (by omega)
 ·rw[show decide (65536≤x)=false by simpa using c1]
  simp only[cond_false]
  by_cases c2:256≤x
  ·rw[show decide (256≤x)=true by simpa using c2]
   simp only[cond_true]
   rw[show IntKind.i64.wrap (0+8)=((8:Nat):Int) by decide]
   exact key (x/2^8) 8 (by omega) rfl (by omega) (by omega)
  ·rw[show decide (256≤x)=false by simpa using c2]
   simp only[cond_false]
   exact key x 0 (by omega) (by simp) (by omega) (fun h=>h)
theorem adT(x:Nat)(h:x<4294967296)(h0:x≠0):∃s:Nat,dm x=some (s:Int)∧s<32∧2147483648≤x*2^s∧x*2^s<4294967296:=by
 obtain⟨n,h1,h2,h3,h4⟩:=RU x h
 have h4:2^n≤2*x:=h4.resolve_left h0
 have hn:n≠0:=by rintro rfl;simp at h3;omega
 refine⟨32-n,?_,by omega,?_,?_⟩
 ·unfold dm
  rw[h1]
  simp only[Option.bind_some]
  rw[cx (by omega) (by omega)]
  congr 1;omega
 ·have:2^n*2^(32-n)≤2*x*2^(32-n):=Nat.mul_le_mul_right _ h4
  rw[←Nat.pow_add,show n+(32-n)=32 by omega,Nat.mul_assoc]at this
  omega
 ·have:x*2^(32-n)<2^n*2^(32-n):=Nat.mul_lt_mul_of_pos_right h3 (Nat.two_pow_pos _)
  rw[←Nat.pow_add,show n+(32-n)=32 by omega]at this
  omega
end Go.Proofs.YtningmnklfpfjaaGreat
namespace Go.Fw
section adU
variable {B V U W:Nat}
theorem ZH{P F T:Nat}(hP:0<P)(hF:0<F)(hV:F*P≤V)(hU:U<(T+1)*P):U/V≤T/F:=by
 have ZI:0<V:=Nat.lt_of_lt_of_le (Nat.mul_pos hF hP) hV
 rw[Nat.le_div_iff_mul_le hF]
 rcases Nat.lt_or_ge T (U/V*F)with h|h
 ·exfalso
  have h1:U/V*V≤U:=Nat.div_mul_le_self U V
  have h2:U/V*(F*P)≤U/V*V:=Nat.mul_le_mul_left _ hV
  have h3:(T+1)*P≤U/V*F*P:=Nat.mul_le_mul_right _ h
  rw[Nat.mul_assoc]at h3
  omega
 ·exact h
theorem Um{P F S T u g r:Nat}(hV:(F*B+S)*P≤V)(hU:U<(T*B+u+1)*P)(hgr:g*F+r=T)(h:r*B+u<g*S):U<g*V:=by
 have h1:g*((F*B+S)*P)≤g*V:=Nat.mul_le_mul_left _ hV
 have h2:(T*B+u+1)*P≤g*(F*B+S)*P:=by
  apply Nat.mul_le_mul_right
  rw[Nat.mul_add,←Nat.mul_assoc,←hgr,Nat.add_mul]
  omega
 rw[Nat.mul_assoc]at h2
 omega
theorem ZJ{P V2 U2 g:Nat}(hV:V<(V2+1)*P)(hU:U2*P≤U)(hq:U/V<B)(hB:B≤V2)(ZI:0<V)(h:g*V2≤U2):g≤U/V+1:=by
 rcases Nat.lt_or_ge (U/V+1) g with h'|h'
 ·exfalso
  have h1:U<(U/V+1)*V:=by have:=Nat.lt_div_mul_add (a:=U) ZI;rw[Nat.add_mul,Nat.one_mul];exact this
  have h2:(U/V+1)*V≤(U/V+1)*((V2+1)*P):=Nat.mul_le_mul_left _ (Nat.le_of_lt hV)
  have h3:g*V2*P≤U2*P:=Nat.mul_le_mul_right _ h
  have h4:(U/V+2)*V2≤g*V2:=Nat.mul_le_mul_right _ h'
  have h5:(U/V+2)*V2*P≤g*V2*P:=Nat.mul_le_mul_right _ h4
  have h6:(U/V+1)*((V2+1)*P)≤(U/V+2)*V2*P:=by
   rw[←Nat.mul_assoc]
   apply Nat.mul_le_mul_right
   rw[Nat.mul_add,Nat.add_mul (U/V) 2 V2,Nat.add_mul (U/V) 1 V2]
   omega
  omega
 ·exact h'
end adU
def mix(B o i X U A:Nat):Nat:=A%B^o+B^o*(X%B^i+B^i*(U/B^i))
theorem MR(B o i X U A:Nat):mix B o i X U A%B^o=A%B^o:=by rw[mix,Nat.add_mul_mod_self_left,Nat.mod_mod]
section mix
variable {B:Nat}(hB:0<B)(o i X U A:Nat)
include hB
theorem zo:mix B o i X U A/B^o=X%B^i+B^i*(U/B^i):=by
 rw[mix,Nat.add_mul_div_left _ _ (Nat.pow_pos hB),Nat.div_eq_of_lt (Nat.mod_lt _ (Nat.pow_pos hB)),Nat.zero_add]
theorem zq:mix B o i X U A/B^(o+i)=U/B^i:=by
 rw[Nat.pow_add,←Nat.div_div_eq_div_mul,zo hB,Nat.add_mul_div_left _ _ (Nat.pow_pos hB),Nat.div_eq_of_lt (Nat.mod_lt _ (Nat.pow_pos hB)),Nat.zero_add]
theorem Uo:mix B o i X U A%B^(o+i)=A%B^o+B^o*(X%B^i):=by
 rw[Nat.pow_add,Nat.mod_mul,MR,zo hB,Nat.add_mul_mod_self_left,Nat.mod_mod]
theorem HB{N:Nat}(h:o+i<N):(ga B N (mix B o i X U A)).set (o+i) (X/B^i%B)=ga B N (mix B o (i+1) X U A):=by
 apply v9 hB h (Nat.mod_lt _ hB)
 ·rw[Uo hB,Nat.pow_add,Nat.mod_mul,MR,zo hB,Nat.pow_succ B i,Nat.mul_assoc,Nat.add_mul_mod_self_left,Nat.mod_mul,Nat.add_mul_mod_self_left,Nat.mod_mod]
 ·rw[Nat.pow_add,←Nat.div_div_eq_div_mul,zo hB,Nat.pow_succ B i,Nat.mod_mul,Nat.mul_assoc,Nat.add_assoc,←Nat.mul_add,Nat.add_mul_div_left _ _ (Nat.pow_pos hB),Nat.div_eq_of_lt (Nat.mod_lt _ (Nat.pow_pos hB)),Nat.zero_add,Nat.add_mul_mod_self_left,Nat.mod_mod]
 ·have h1:=zq hB o (i+1) X U A
  have h2:=zq hB o i X U A
  rw[show o+i+1=o+(i+1) by omega,h1,show o+(i+1)=(o+i)+1 by omega,Nat.pow_succ B (o+i),←Nat.div_div_eq_div_mul,h2,Nat.pow_succ,←Nat.div_div_eq_div_mul]
end mix
theorem JU{B o m X U A:Nat}(hU:U<B^m):mix B o m X U A=A%B^o+B^o*(X%B^m):=by rw[mix,Nat.div_eq_of_lt hU];simp
theorem JV{B:Nat}(o X A:Nat):mix B o 0 X (A/B^o) A=A:=by
 simp only[mix,Nat.pow_zero,Nat.mod_one,Nat.zero_add,Nat.one_mul,Nat.div_one]
 exact Nat.mod_add_div A (B^o)
theorem N0{B U U' T i:Nat}(h:U%B^i=U'%B^i):Bu B U T i=Bu B U' T i:=by rw[Bu,Bu,h]
theorem RV{B:Nat}(hB:0<B){U T m i:Nat}(hi:i<m)(hT:T≤U+B^m):(U/B^i%B+(B-1-T/B^i%B)+Bu B U T i)%B=(U+B^m-T)/B^i%B:=by
 have e:B^m=B^i*(B*B^(m-i-1)):=by rw[←Nat.pow_succ',←Nat.pow_add];congr 1;omega
 have h1:(U+B^m)%B^i=U%B^i:=by rw[e,Nat.add_mul_mod_self_left]
 have h2:(U+B^m)/B^i%B=U/B^i%B:=by rw[e,Nat.add_mul_div_left _ _ (Nat.pow_pos hB),Nat.add_mul_mod_self_left]
 rw[←h2,N0 (U':=U+B^m) h1.symm,MJ hB hT]
theorem Up{B m U T:Nat}(hB:0<B)(hU:U<B^m)(hT:T<B^m):Bu B U T m=if U<T then 0 else 1:=by
 rw[Bu,Nat.mod_eq_of_lt hU,Nat.mod_eq_of_lt hT]
 have hp:0<B^m:=Nat.pow_pos hB
 split
 ·exact Nat.div_eq_of_lt (by omega)
 ·rw[show U+B^m-T=(U-T)+B^m by omega,Nat.add_div_right _ hp,Nat.div_eq_of_lt (by omega)]
end Go.Fw
namespace Go.Proofs.YtningmnklfpfjaaGreat
open Go.Fw
theorem oa{N A j:Nat}(h:j<N):(ga 4294967296 N A)[j]? =some (A/4294967296^j%4294967296):=zk N A j h
theorem two32:(2:Nat)^32=4294967296:=rfl
theorem adV:(2:Nat)^63=9223372036854775808:=rfl
theorem HC(A o j:Nat):A/4294967296^(o+j)=A/4294967296^o/4294967296^j:=by rw[Nat.pow_add,Nat.div_div_eq_div_mul]
theorem JW{N A o n:Nat}{v:List Nat}(hv:HS v)(hn:v.length=n+2)(hN:N≤100000000001)(ho:o+(n+2)<N)
  (hU:A/4294967296^o<4294967296*vl v) (RW:2147483648*4294967296^(n+1)≤vl v):
  ∃r,iK (ga 4294967296 N A) o (n+3) v=some r∧r.2=ga 4294967296 N A∧A/4294967296^o/vl v≤r.1∧r.1≤A/4294967296^o/vl v+1:=by
 obtain⟨hV,hlv⟩:=hv
 obtain⟨U,SJ⟩:∃U,A/4294967296^o=U:=⟨_,rfl⟩
 obtain⟨V,SK⟩:∃V,vl v=V:=⟨_,rfl⟩
 have Bv:V<4294967296^(n+2):=by rw[←SK,←hn];exact jR v hV
 have Wg:0<4294967296^(n+1):=Nat.pow_pos (by decide)
 have hP:0<4294967296^n:=Nat.pow_pos (by decide)
 have ZK:4294967296^(n+1)=4294967296^n*4294967296:=Nat.pow_succ ..
 have JX:4294967296^(n+2)=4294967296^(n+1)*4294967296:=Nat.pow_succ ..
 rw[SJ,SK]at hU⊢
 rw[SK]at RW
 have adW:U<4294967296^(n+1)*4294967296*4294967296:=by
  have:4294967296*V<4294967296*4294967296^(n+2):=Nat.mul_lt_mul_of_pos_left Bv (by decide)
  rw[JX]at this
  omega
 obtain⟨F,hF⟩:∃F,V/4294967296^(n+1)=F:=⟨_,rfl⟩
 obtain⟨S,hS⟩:∃S,V/4294967296^n%4294967296=S:=⟨_,rfl⟩
 obtain⟨T,hT⟩:∃T,U/4294967296^(n+1)=T:=⟨_,rfl⟩
 obtain⟨u,hu⟩:∃u,U/4294967296^n%4294967296=u:=⟨_,rfl⟩
 have ajY:F<4294967296:=by rw[←hF,Nat.div_lt_iff_lt_mul Wg];rw[JX,Nat.mul_comm]at Bv;exact Bv
 have amG:2147483648≤F:=by rw[←hF,Nat.le_div_iff_mul_le Wg];exact RW
 have amH:S<4294967296:=by rw[←hS];exact Nat.mod_lt _ (by decide)
 have adX:u<4294967296:=by rw[←hu];exact Nat.mod_lt _ (by decide)
 have ajZ:T<4294967296*4294967296:=by rw[←hT,Nat.div_lt_iff_lt_mul Wg];rw[Nat.mul_comm,←Nat.mul_assoc];exact adW
 have hV2:V/4294967296^n=F*4294967296+S:=by rw[←hF,←hS,ZK,←Nat.div_div_eq_div_mul,Nat.mul_comm,Nat.div_add_mod]
 have hU2:U/4294967296^n=T*4294967296+u:=by rw[←hT,←hu,ZK,←Nat.div_div_eq_div_mul,Nat.mul_comm,Nat.div_add_mod]
 have hq:U/V<4294967296:=by rw[Nat.div_lt_iff_lt_mul (by omega)];exact hU
 have adY:(F*4294967296+S)*4294967296^n≤V:=by rw[←hV2];exact Nat.div_mul_le_self _ _
 have adZ:V<(F*4294967296+S+1)*4294967296^n:=by rw[←hV2,Nat.add_mul,Nat.one_mul];exact Nat.lt_div_mul_add hP
 have ad0:(T*4294967296+u)*4294967296^n≤U:=by rw[←hU2];exact Nat.div_mul_le_self _ _
 have ad1:U<(T*4294967296+u+1)*4294967296^n:=by rw[←hU2,Nat.add_mul,Nat.one_mul];exact Nat.lt_div_mul_add hP
 have Wh:F*4294967296^(n+1)≤V:=by rw[←hF];exact Nat.div_mul_le_self _ _
 have Wi:U<(T+1)*4294967296^(n+1):=by rw[←hT,Nat.add_mul,Nat.one_mul];exact Nat.lt_div_mul_add Wg
 have Wj:V<(F+1)*4294967296^(n+1):=by rw[←hF,Nat.add_mul,Nat.one_mul];exact Nat.lt_div_mul_add Wg
 have hTF:T<4294967296*(F+1):=by
  rw[←hT,Nat.div_lt_iff_lt_mul Wg]
  have:4294967296*V<4294967296*((F+1)*4294967296^(n+1)):=Nat.mul_lt_mul_of_pos_left Wj (by decide)
  rw[Nat.mul_assoc]
  omega
 have g1:(ga 4294967296 N A)[o+(n+2)]? =some (U/4294967296^(n+2)%4294967296):=by rw[oa (by omega),HC,SJ]
 have g2:(ga 4294967296 N A)[o+(n+1)]? =some (U/4294967296^(n+1)%4294967296):=by rw[oa (by omega),HC,SJ]
 have g3:(ga 4294967296 N A)[o+n]? =some u:=by rw[oa (by omega),HC,SJ,hu]
 have g4:v[n+1]? =some F:=by rw[qK hV (by omega),show val 4294967296 v=V from SK,hF,Nat.mod_eq_of_lt ajY]
 have g5:v[n]? =some S:=by rw[qK hV (by omega),show val 4294967296 v=V from SK,hS]
 have hun:U/4294967296^(n+2)<4294967296:=by rw[JX,←Nat.div_div_eq_div_mul,hT,Nat.div_lt_iff_lt_mul (by decide)];exact ajZ
 have LK:U/4294967296^(n+2)%4294967296*4294967296+U/4294967296^(n+1)%4294967296=T:=by
  rw[Nat.mod_eq_of_lt hun,JX,←Nat.div_div_eq_div_mul,hT,Nat.mul_comm,Nat.div_add_mod]
 obtain⟨t1,ht1⟩:∃t,U/4294967296^(n+2)%4294967296=t:=⟨_,rfl⟩
 obtain⟨t2,ht2⟩:∃t,U/4294967296^(n+1)%4294967296=t:=⟨_,rfl⟩
 have l1:t1<4294967296:=by rw[←ht1];exact Nat.mod_lt _ (by decide)
 have l2:t2<4294967296:=by rw[←ht2];exact Nat.mod_lt _ (by decide)
 rw[ht1]at g1 LK
 rw[ht2]at g2 LK
 clear ht1 ht2 hU2 hV2
 have c1:((n+2:Nat):Int)-1=((n+1:Nat):Int):=by omega
 have c2:((n+2:Nat):Int)-2=(n:Int):=by omega
 unfold iK
 simp only[Option.bind_some,hn,c1,c2]
 rw[vY (by omega),vY (by omega),BR (by omega),BR (by omega),BR (by omega)]
 simp only[Option.bind_some]
 rw[g1,g2,aP g4,aP g5]
 simp only[Option.bind_some,two32]
 rw[Nat.mod_eq_of_lt (a:=t1) (by omega),Nat.mod_eq_of_lt (a:=t2) (by omega),Nat.mod_eq_of_lt (a:=t1*4294967296) (by omega),MQ l2,LK,Nat.mod_eq_of_lt (a:=T) (by omega),Nat.mod_eq_of_lt (a:=F) (by omega),Nat.mod_eq_of_lt (a:=S) (by omega),Hu (by omega) (by omega),BS (by omega)]
 simp only[Option.bind_some]
 have aj4:=ZH (V:=V) (U:=U) Wg (show 0<F by omega) Wh Wi
 have hle:∀g,g*(F*4294967296+S)≤T*4294967296+u→g≤U/V+1:=fun g h=>ZJ (B:=4294967296) adZ ad0 hq (by omega) (by omega) h
 have aj5:∀g r,g*F+r=T→r*4294967296+u<g*S→U/V<g:=fun g r i1 ht=>(Nat.div_lt_iff_lt_mul (by omega)).2 (Um adY ad1 i1 ht)
 have hg0:T/F≤4294967297:=by
  have:T/F<4294967298:=by
   rw[Nat.div_lt_iff_lt_mul (by omega)]
   omega
  omega
 generalize U/V=q at*
 clear adY adZ ad0 ad1 Wh Wi Wj hTF adW RW Bv ZK JX hP Wg hF hS hT hu SJ SK hU
 have hdm:=Nat.div_add_mod T F
 have hml:=Nat.mod_lt T (show 0<F by omega)
 have aj6:T/F*F+T%F=T:=by rw[Nat.mul_comm];exact hdm
 clear hdm
 refine mH (fun x=>x.1*F+x.2=T∧q≤x.1∧x.2<4294967296∧x.1≤4294967297) (fun e=>q≤e∧e≤q+1) (fun x=>x.1) ?_ ⟨aj6,aj4,by show T%F<_;omega,hg0⟩ ?_
 ·rintro⟨g,r⟩ ⟨i1,i2,i3,i4⟩
  simp only at i1 i2 i3 i4
  have down:q<g→(∃s',(bif decide ((r+F)%18446744073709551616/4294967296≠0)then some (.inr (qa 18446744073709551616 g 1))else some (.inl (qa 18446744073709551616 g 1,(r+F)%18446744073709551616)):Option ((Nat×Nat)⊕Nat))=some (.inl s')∧(s'.1*F+s'.2=T∧q≤s'.1∧s'.2<4294967296∧s'.1≤4294967297)∧s'.1<g)∨
    (∃e,(bif decide ((r+F)%18446744073709551616/4294967296≠0)then some (.inr (qa 18446744073709551616 g 1))else some (.inl (qa 18446744073709551616 g 1,(r+F)%18446744073709551616)):Option ((Nat×Nat)⊕Nat))=some (.inr e)∧q≤e∧e≤q+1):=by
   intro hlt
   have e1:(g-1)*F+(r+F)=T:=by
    obtain⟨k,rfl⟩:∃k,g=k+1:=⟨g-1,by omega⟩
    rw[Nat.add_sub_cancel];rw[Nat.add_mul]at i1;omega
   rw[th (by omega) (by omega),Nat.mod_eq_of_lt (a:=r+F) (by omega)]
   by_cases hb:r+F<4294967296
   ·left
    refine⟨(g-1,r+F),by simp[Nat.div_eq_of_lt hb],⟨e1,by simp only;omega,hb,by simp only;omega⟩,by simp only;omega⟩
   ·right
    have hne:(r+F)/4294967296≠0:=by omega
    refine⟨g-1,by simp[hne],by omega,?_⟩
    refine hle _ ?_
    have m1:(g-1)*S≤4294967296*4294967295:=Nat.mul_le_mul (by omega) (by omega)
    rw[Nat.mul_add,←Nat.mul_assoc]
    have m2:((g-1)*F+(r+F))*4294967296=T*4294967296:=by rw[e1]
    rw[Nat.add_mul]at m2
    omega
  simp only[b9,bV]
  by_cases hg:g<4294967296
  ·rw[show decide (g/4294967296≠0)=false by simp;omega]
   have hgS:g*S≤4294967295*4294967295:=Nat.mul_le_mul (by omega) (by omega)
   simp only[jX]
   rw[g3]
   simp only[bV]
   rw[Nat.mod_eq_of_lt (a:=g*S) (by omega),Nat.mod_eq_of_lt (a:=r*4294967296) (by omega),Nat.mod_eq_of_lt (a:=u) (by omega),MQ adX,Nat.mod_eq_of_lt (a:=r*4294967296+u) (by omega)]
   by_cases ht:r*4294967296+u<g*S
   ·rw[show decide (r*4294967296+u<g*S)=true by simpa using ht]
    simp only[bV,jQ]
    exact down (aj5 _ _ i1 ht)
   ·rw[show decide (r*4294967296+u<g*S)=false by simpa using ht]
    right
    refine⟨g,by simp,i2,?_⟩
    refine hle _ ?_
    rw[Nat.mul_add,←Nat.mul_assoc,←i1,Nat.add_mul]
    omega
  ·rw[show decide (g/4294967296≠0)=true by simp;omega]
   simp only[bV,jQ]
   exact down (by omega)
 ·rintro e ⟨h2,h3⟩
  exact⟨(e,ga 4294967296 N A),by rw[rV rfl,Option.bind_some],rfl,h2,h3⟩
end Go.Proofs.YtningmnklfpfjaaGreat
namespace Go.Proofs.YtningmnklfpfjaaGreat
open Go.Fw
theorem wK{N A o n f:Nat}{v:List Nat}(hv:HS v)(hn:v.length=n)(hN:N≤100000000001)(ho:o+n<N)(hf:f≤4294967296)
  (hU:A/4294967296^o<4294967296^(n+1)):
  cY (ga 4294967296 N A) o (n+1) v f=some (decide (A/4294967296^o<vl v*f),ga 4294967296 N (A%4294967296^o+4294967296^o*((A/4294967296^o+4294967296^(n+1)-vl v*f)%4294967296^(n+1)))):=by
 obtain⟨hV,hlv⟩:=hv
 obtain⟨U,SJ⟩:∃U,A/4294967296^o=U:=⟨_,rfl⟩
 obtain⟨V,SK⟩:∃V,vl v=V:=⟨_,rfl⟩
 have Bv:V<4294967296^n:=by rw[←SK,←hn];exact jR v hV
 have ON:4294967296^(n+1)=4294967296^n*4294967296:=Nat.pow_succ ..
 have hT:V*f<4294967296^(n+1):=by
  rw[ON]
  calc V*f≤V*4294967296:=Nat.mul_le_mul_left _ hf
   _<4294967296^n*4294967296:=Nat.mul_lt_mul_of_pos_right Bv (by decide)
 rw[SJ]at hU⊢
 rw[SK]
 obtain⟨X,hX⟩:∃X,U+4294967296^(n+1)-V*f=X:=⟨_,rfl⟩
 rw[hX]
 unfold cY
 simp only[bV]
 have ZL:∀i,Bu 4294967296 U (V*f) i≤1:=fun i=>RM (by decide) _ _ _
 refine aW (fun i=>(1-Bu 4294967296 U (V*f) i,(i:Int),sC 4294967296 V f 0 i,ga 4294967296 N (mix 4294967296 o i X U A))) (n+1) (1-Bu 4294967296 U (V*f) (n+1),ga 4294967296 N (mix 4294967296 o (n+1) X U A)) ?_ (fun i hi=>?_) ?_ ?_
 ·rw[JO,MM,←SJ,JV];rfl
 ·
  obtain⟨t,ht⟩:∃t,V*f/4294967296^i%4294967296=t:=⟨_,rfl⟩
  obtain⟨c,hc⟩:∃c,sC 4294967296 V f 0 i=c:=⟨_,rfl⟩
  obtain⟨p,hp⟩:∃p,V/4294967296^i%4294967296*f=p:=⟨_,rfl⟩
  have amK:c<4294967296:=by
   rw[←hc,sC,sT,Nat.add_zero,Nat.div_lt_iff_lt_mul (Nat.pow_pos (by decide))]
   calc V%4294967296^i*f≤V%4294967296^i*4294967296:=Nat.mul_le_mul_left _ hf
    _<4294967296*4294967296^i:=by rw[Nat.mul_comm];exact Nat.mul_lt_mul_of_pos_left (Nat.mod_lt _ (Nat.pow_pos (by decide))) (by decide)
  have amL:p≤4294967295*4294967296:=by
   rw[←hp];exact Nat.mul_le_mul (by have:=Nat.mod_lt (V/4294967296^i) (show 0<4294967296 by decide);omega) hf
  have ZA:(p+c)%4294967296=t:=by rw[←hp,←hc,RN (B:=4294967296) (by decide),Nat.add_zero,ht]
  have hstep:(p+c)/4294967296=sC 4294967296 V f 0 (i+1):=by rw[←hp,←hc,MO (B:=4294967296) (by decide)]
  have amM:t<4294967296:=by rw[←ht];exact Nat.mod_lt _ (by decide)
  obtain⟨u,hu⟩:∃u,U/4294967296^i%4294967296=u:=⟨_,rfl⟩
  have adX:u<4294967296:=by rw[←hu];exact Nat.mod_lt _ (by decide)
  have hg:(ga 4294967296 N (mix 4294967296 o i X U A))[o+i]? =some u:=by rw[oa (by omega),zq (by decide),hu]
  have hl:=ZL i
  obtain⟨l,hle⟩:∃l,Bu 4294967296 U (V*f) i=l:=⟨_,rfl⟩
  have hxd:(u+(4294967296-1-t)+l)%4294967296=X/4294967296^i%4294967296:=by rw[←hu,←ht,←hle,RV (B:=4294967296) (by decide) hi (by omega),hX]
  have hls:(u+(4294967296-1-t)+l)/4294967296=Bu 4294967296 U (V*f) (i+1):=by rw[←hu,←ht,←hle,JP (B:=4294967296) (by decide)]
  rw[hle]at hl
  have hput:=HB (B:=4294967296) (by decide) o i X U A (N:=N) (by omega)
  rw[hle,hc,←hls]
  simp only[show decide ((i:Int)<((n+1:Nat):Int))=true by simp;omega,jQ,bV,b9]
  rw[BR (by omega)]
  simp only[bV,hg]
  have way:∀k:Nat→Option ((Nat×Int×Nat×List Nat)⊕(Nat×List Nat)),(bif decide ((i:Int)<(v.length:Int))then(cz v (i:Int)).bind fun ir=>k (ir%18446744073709551616*f%18446744073709551616)else k 0)=k p:=by
   intro k
   by_cases hin:i<v.length
   ·rw[show decide ((i:Int)<(v.length:Int))=true by simp;omega,jQ]
    have HQ:v[i]? =some (V/4294967296^i%4294967296):=by rw[←SK];exact qK hV hin
    rw[aP HQ,bV,Nat.mod_eq_of_lt (a:=V/4294967296^i%4294967296) (b:=18446744073709551616) (by have:=Nat.mod_lt (V/4294967296^i) (show 0<4294967296 by decide);omega),hp,Nat.mod_eq_of_lt (a:=p) (by omega)]
   ·rw[show decide ((i:Int)<(v.length:Int))=false by simp;omega,jX]
    have:V/4294967296^i=0:=Nat.div_eq_of_lt (Nat.lt_of_lt_of_le Bv (Nat.pow_le_pow_right (by decide) (by omega)))
    rw[←hp,this];simp
  refine(way (fun y=>(bz y c).bind _)).trans ?_
  rw[iy _ _ (by omega)]
  simp only[bV]
  rw[ZA,hstep,Nat.mod_eq_of_lt (a:=u) (by omega),Nat.mod_eq_of_lt (a:=t) (by omega)]
  rw[ep (by rw[bA];omega),bV,bk (by omega),adV]
  by_cases WI:u<t+(1-l)
  ·have e1:qa 18446744073709551616 (qa 18446744073709551616 u t) (1-l)=18446744073709551616+u-t-(1-l):=by
    by_cases h1:u<t
    ·rw[BQ h1 (by omega),th (by omega) (by omega)]
    ·rw[th (a:=u) (b:=t) (by omega) (by omega),BQ (by omega) (by omega)];omega
   rw[e1]
   have e2:(18446744073709551616+u-t-(1-l))%4294967296=X/4294967296^i%4294967296:=by rw[←hxd];omega
   have e3:(18446744073709551616+u-t-(1-l))/9223372036854775808=1-(u+(4294967296-1-t)+l)/4294967296:=by omega
   rw[e2,e3,hput]
  ·have e1:qa 18446744073709551616 (qa 18446744073709551616 u t) (1-l)=u-t-(1-l):=by
    rw[th (a:=u) (b:=t) (by omega) (by omega),th (by omega) (by omega)]
   rw[e1]
   have e2:(u-t-(1-l))%4294967296=X/4294967296^i%4294967296:=by rw[←hxd];omega
   have e3:(u-t-(1-l))/9223372036854775808=1-(u+(4294967296-1-t)+l)/4294967296:=by omega
   rw[e2,e3,hput]
 ·simp
 ·simp only[bV]
  rw[rV (by rw[bA,bA]),bV,JU hU,Up (by decide) hU hT]
  congr 2
  by_cases h:U<V*f<;>simp[h]
end Go.Proofs.YtningmnklfpfjaaGreat
namespace Go.Proofs.YtningmnklfpfjaaGreat
open Go.Fw
theorem ad2{B V:Nat}(hB:0<B)(hV:0<V)(A k:Nat):A%(V*B^(k+1))/B^k<B*V:=by
 rw[Nat.div_lt_iff_lt_mul (Nat.pow_pos hB)]
 have:V*B^(k+1)=B*V*B^k:=by rw[Nat.pow_succ,Nat.mul_comm (B^k),←Nat.mul_assoc,Nat.mul_comm V]
 rw[←this]
 exact Nat.mod_lt _ (Nat.mul_pos hV (Nat.pow_pos hB))
theorem ZM{B V:Nat}(A k:Nat):A%(V*B^(k+1))%B^k+B^k*(A%(V*B^(k+1))/B^k%V)=A%(V*B^k):=by
 rw[←Nat.mod_mul,Nat.mul_comm (B^k),Nat.mod_mod_of_dvd]
 rw[Nat.pow_succ,←Nat.mul_assoc];exact Nat.dvd_mul_right _ _
theorem ZN{B V:Nat}(A k:Nat):A%(V*B^(k+1))/B^k/V=A/V/B^k%B:=by
 rw[Nat.div_div_eq_div_mul,Nat.mul_comm (B^k),Nat.pow_succ,←Nat.mul_assoc,Nat.mod_mul_right_div_self,Nat.div_div_eq_div_mul]
theorem RX{B:Nat}(hB:0<B){N k:Nat}(h:k<N)(Q:Nat):(ga B N (Q/B^(k+1)*B^(k+1))).set k (Q/B^k%B)=ga B N (Q/B^k*B^k):=by
 have hP:0<B^k:=Nat.pow_pos hB
 refine v9 hB h (Nat.mod_lt _ hB) ?_ ?_ ?_
 ·rw[Nat.mul_mod_left,Nat.pow_succ,Nat.mul_comm (B^k),←Nat.mul_assoc,Nat.mul_mod_left]
 ·rw[Nat.mul_div_cancel _ hP]
 ·rw[Nat.mul_div_cancel _ (Nat.pow_pos hB),Nat.pow_succ,←Nat.div_div_eq_div_mul,Nat.mul_div_cancel _ hP,Nat.div_div_eq_div_mul]
theorem MS{α:Type}{l:List α}{o n:Nat}(h:o<l.length)(h':o+n≤l.length):WS l (o:Int) ((o+n:Nat):Int)=some (o,n):=by
 unfold WS
 rw[if_pos (by omega)]
 congr 2
 omega
theorem Uq{U V g M:Nat}(hV:0<V)(h1:U/V≤g)(h2:g≤U/V+1)(hM:U<M)(hVM:V≤M):
  (V*g≤U∧g=U/V∧(U+M-V*g)%M=U%V)∨(U<V*g∧g=U/V+1∧U+M-V*g<M∧(U+M-V*g+V)%M=U%V):=by
 have hd:=Nat.div_add_mod U V
 have hm:=Nat.mod_lt U hV
 revert h1 h2 hd hm
 generalize U/V=q
 generalize U%V=r
 intro h1 h2 hd hm
 rcases Nat.lt_or_ge q g with h|h
 ·obtain rfl:g=q+1:=by omega
  have e:V*(q+1)=V*q+V:=Nat.mul_succ ..
  right
  refine⟨by omega,rfl,by omega,?_⟩
  rw[show U+M-V*(q+1)+V=r+M by omega,Nat.add_mod_right,Nat.mod_eq_of_lt (by omega)]
 ·obtain rfl:g=q:=by omega
  left
  refine⟨by omega,rfl,?_⟩
  rw[show U+M-V*g=r+M by omega,Nat.add_mod_right,Nat.mod_eq_of_lt (by omega)]
theorem Ur{R D e i:Nat}(hD:0<D)(he:4294967296=D*e):(R*D/4294967296^(i+1)%4294967296*4294967296+R*D/4294967296^i%4294967296)/D%4294967296=R/4294967296^i%4294967296:=by
 have h1:R*D/4294967296^(i+1)%4294967296*4294967296+R*D/4294967296^i%4294967296=R*D/4294967296^i%(4294967296*4294967296):=by
  rw[Nat.mod_mul,Nat.div_div_eq_div_mul,show 4294967296^i*4294967296=4294967296^(i+1)from(Nat.pow_succ ..).symm,Nat.add_comm,Nat.mul_comm 4294967296]
 have h2:(4294967296*4294967296:Nat)=D*(e*4294967296):=by
  rw[←Nat.mul_assoc,←he]
 rw[h1,h2,Nat.mod_mul_right_div_self,Nat.mod_mul_left_mod,Nat.div_div_eq_div_mul,Nat.mul_comm (4294967296^i) D,←Nat.div_div_eq_div_mul,Nat.mul_div_cancel _ hD]
theorem ZO{B:Nat}(hB:0<B){N i R:Nat}(h:i<N):(ga B N (R%B^i)).set i (R/B^i%B)=ga B N (R%B^(i+1)):=by
 refine v9 hB h (Nat.mod_lt _ hB) ?_ ?_ ?_
 ·rw[Nat.mod_mod,Nat.mod_mod_of_dvd _ (Nat.pow_dvd_pow _ (Nat.le_succ i))]
 ·rw[Nat.pow_succ,Nat.mod_mul_right_div_self,Nat.mod_mod]
 ·rw[Nat.div_eq_of_lt (Nat.mod_lt _ (Nat.pow_pos hB)),Nat.div_eq_of_lt]
  exact Nat.lt_of_lt_of_le (Nat.mod_lt _ (Nat.pow_pos hB)) (Nat.pow_le_pow_right hB (Nat.le_succ i))
theorem LL(a b:List Nat)(ha:HS a)(hb:HS b){n:Nat}(hn:b.length=n+2)(hl:b.length≤a.length)(LK:b[n+1]? ≠some 0):
  fM a b=some (ga 4294967296 (a.length-b.length+1) (vl a/vl b),ga 4294967296 b.length (vl a%vl b)):=by
 obtain⟨hA,hla⟩:=ha
 obtain⟨hB,hlb⟩:=hb
 have hP:∀k,0<4294967296^k:=fun k=>Nat.pow_pos (by decide)
 obtain⟨Va,hVa⟩:∃V,vl a=V:=⟨_,rfl⟩
 obtain⟨Vb,hVb⟩:∃V,vl b=V:=⟨_,rfl⟩
 have ZP:Vb<4294967296^(n+2):=by rw[←hVb,←hn];exact jR b hB
 have halt:Va<4294967296^a.length:=by rw[←hVa];exact jR a hA
 have JX:4294967296^(n+2)=4294967296^(n+1)*4294967296:=Nat.pow_succ ..
 obtain⟨x,hx⟩:∃x,Vb/4294967296^(n+1)=x:=⟨_,rfl⟩
 have ad3:x<4294967296:=by rw[←hx,Nat.div_lt_iff_lt_mul (hP _)];rw[JX,Nat.mul_comm]at ZP;exact ZP
 have hgx:b[n+1]? =some x:=by rw[qK hB (by omega),show val 4294967296 b=Vb from hVb,hx,Nat.mod_eq_of_lt ad3]
 have hx0:x≠0:=fun e=>LK (by rw[hgx,e])
 obtain⟨s,hs1,Ef,hs3,hs4⟩:=adT x ad3 hx0
 have Us:0<2^s:=Nat.two_pow_pos s
 have ad4:2^s<4294967296:=by
  have:2^s<2^32:=Nat.pow_lt_pow_right (by decide) Ef
  rw[two32]at this;exact this
 obtain⟨D,hD⟩:∃D,2^s=D:=⟨_,rfl⟩
 rw[hD]at hs3 hs4 Us ad4
 obtain⟨V,hV⟩:∃V,Vb*D=V:=⟨_,rfl⟩
 obtain⟨A,hAe⟩:∃A,Va*D=A:=⟨_,rfl⟩
 have Bv:V<4294967296^(n+2):=by
  have h1:Vb<(x+1)*4294967296^(n+1):=by rw[←hx,Nat.add_mul,Nat.one_mul];exact Nat.lt_div_mul_add (hP _)
  have h2:(x+1)*D≤4294967296:=by
   obtain⟨e,he⟩:∃e,4294967296=D*e:=⟨2^(32-s),by rw[←hD,←Nat.pow_add,show s+(32-s)=32 by omega,two32]⟩
   have h3:x<e:=by
    apply Nat.lt_of_mul_lt_mul_left (a:=D)
    rw[←he,Nat.mul_comm];exact hs4
   calc (x+1)*D≤e*D:=Nat.mul_le_mul_right _ h3
    _=4294967296:=by rw[Nat.mul_comm,←he]
  rw[←hV,JX]
  calc Vb*D<(x+1)*4294967296^(n+1)*D:=Nat.mul_lt_mul_of_pos_right h1 Us
   _=4294967296^(n+1)*((x+1)*D):=by rw[Nat.mul_comm (x+1),Nat.mul_assoc]
   _≤4294967296^(n+1)*4294967296:=Nat.mul_le_mul_left _ h2
 have RY:2147483648*4294967296^(n+1)≤V:=by
  have h1:x*4294967296^(n+1)≤Vb:=by rw[←hx];exact Nat.div_mul_le_self _ _
  rw[←hV]
  calc 2147483648*4294967296^(n+1)≤x*D*4294967296^(n+1):=Nat.mul_le_mul_right _ hs3
   _=x*4294967296^(n+1)*D:=by rw[Nat.mul_assoc,Nat.mul_comm D,←Nat.mul_assoc]
   _≤Vb*D:=Nat.mul_le_mul_right _ h1
 have ZI:0<V:=Nat.lt_of_lt_of_le (Nat.mul_pos (by decide) (hP _)) RY
 have hb0:0<Vb:=by
  rcases Nat.eq_zero_or_pos Vb with h|h
  ·rw[←hV,h,Nat.zero_mul]at ZI;omega
  ·exact h
 have hAV:A/V=Va/Vb:=by rw[←hAe,←hV,Nat.mul_div_mul_right _ _ Us]
 have aj8:A%V=Va%Vb*D:=by rw[←hAe,←hV,Nat.mul_mod_mul_right]
 obtain⟨K,hK⟩:∃K,a.length=K+(n+2):=⟨a.length-(n+2),by omega⟩
 have hA0:A<V*4294967296^(K+1):=by
  have h1:4294967296^(n+1)≤Vb:=by
   have:1*4294967296^(n+1)≤x*4294967296^(n+1):=Nat.mul_le_mul_right _ (by omega)
   have h2:x*4294967296^(n+1)≤Vb:=by rw[←hx];exact Nat.div_mul_le_self _ _
   omega
  rw[←hAe,←hV]
  calc Va*D<4294967296^a.length*D:=Nat.mul_lt_mul_of_pos_right halt Us
   _=4294967296^(n+1)*4294967296^(K+1)*D:=by rw[hK,←Nat.pow_add];congr 2;omega
   _≤Vb*4294967296^(K+1)*D:=Nat.mul_le_mul_right _ (Nat.mul_le_mul_right _ h1)
   _=Vb*D*4294967296^(K+1):=by rw[Nat.mul_assoc,Nat.mul_comm _ D,←Nat.mul_assoc]
 obtain⟨v,hve⟩:∃v,ga 4294967296 (n+2) V=v:=⟨_,rfl⟩
 have hvl:v.length=n+2:=by rw[←hve,bA]
 have hvW:HS v:=⟨fun y hy=>by rw[←hve]at hy;exact oD (by decide) _ _ _ hy,by omega⟩
 have hvv:vl v=V:=by rw[←hve];show val _ _=_;rw[mJ,Nat.mod_eq_of_lt Bv]
 have ad7:List.take b.length (ga 4294967296 (b.length+1) (Vb*2^s))=v:=by
  rw[hD,hV,hn,pR,List.take_append_of_le_length (by rw[bA];omega),List.take_of_length_le (by rw[bA];omega),hve]
 unfold fM
 simp only[bV]
 rw[show((b.length:Nat):Int)-1=((n+1:Nat):Int) by omega,vY (by omega),aP hgx,bV,hs1,bV]
 rw[show((s:Int)%18446744073709551616).toNat=s by rw[Int.emod_eq_of_lt (by omega) (by omega)];simp]
 rw[EI,shiftLeft_eq a s ⟨hA,hla⟩ Ef,bV,shiftLeft_eq b s ⟨hB,hlb⟩ Ef,bV,Ao (by rw[bA];omega),bV]
 obtain⟨Q,hQ⟩:∃Q,A/V=Q:=⟨_,rfl⟩
 have aka:Q<4294967296^(K+1):=by rw[←hQ,Nat.div_lt_iff_lt_mul ZI,Nat.mul_comm];exact hA0
 rw[hVa,hVb,←hAV,hQ,ad7,hD,hAe,hn]
 rw[show a.length-(n+2)+1=K+1 by omega]
 rw[cx (x:=(a.length:Int)-((n+2:Nat):Int)) (by omega) (by omega),cx (x:=(a.length:Int)-((n+2:Nat):Int)+1) (by omega) (by omega),show(a.length:Int)-((n+2:Nat):Int)+1=((K+1:Nat):Int) by omega,pQ (by decide) (by omega),bV,show(a.length:Int)-((n+2:Nat):Int)=(K:Int) by omega]
 refine aW (fun j=>((K:Int)-(j:Int),ga 4294967296 (K+1) (Q/4294967296^(K+1-j)*4294967296^(K+1-j)),ga 4294967296 (a.length+1) (A%(V*4294967296^(K+1-j))))) (K+1) (ga 4294967296 (K+1) Q,ga 4294967296 (a.length+1) (A%V)) ?_ (fun j hj=>?_) ?_ ?_
 ·rw[show K+1-0=K+1 by omega,Nat.mod_eq_of_lt hA0,Nat.div_eq_of_lt aka,Nat.zero_mul,vv];simp
 ·
  obtain⟨k,hk⟩:∃k,K=k+j:=⟨K-j,by omega⟩
  rw[show K+1-j=k+1 by omega,show K+1-(j+1)=k by omega,show(K:Int)-(j:Int)=(k:Int) by omega,show(K:Int)-((j+1:Nat):Int)=(k:Int)-1 by omega]
  have hU:=ad2 (B:=4294967296) (by decide) ZI A k
  have Ut:=ZM (B:=4294967296) (V:=V) A k
  have ZQ:=ZN (B:=4294967296) (V:=V) A k
  obtain⟨N,hN⟩:∃N,a.length+1=N:=⟨_,rfl⟩
  obtain⟨A1,hA1⟩:∃A1,A%(V*4294967296^(k+1))=A1:=⟨_,rfl⟩
  rw[hN]
  rw[hA1]at hU Ut ZQ⊢
  rw[hQ]at ZQ
  obtain⟨⟨g,lg⟩,hge,hgl,hg1,Oq⟩:=JW (N:=N) (A:=A1) (o:=k) (n:=n) (v:=v) hvW hvl (by omega) (by omega) (by rw[hvv];exact hU) (by rw[hvv];exact RY)
  simp only at hgl hg1 Oq
  rw[hvv]at hg1 Oq
  subst hgl
  have hsub:=wK (N:=N) (A:=A1) (o:=k) (n:=n+2) (v:=v) (f:=g) hvW hvl (by omega) (by omega) ?_ ?_
  ·rw[hvv]at hsub
   obtain⟨U,SJ⟩:∃U,A1/4294967296^k=U:=⟨_,rfl⟩
   rw[SJ]at hU Ut ZQ hg1 Oq hsub
   have Uu:4294967296^(n+2+1)=4294967296^(n+2)*4294967296:=Nat.pow_succ ..
   have hUM:U<4294967296^(n+2+1):=by
    have:4294967296*V<4294967296*4294967296^(n+2):=Nat.mul_lt_mul_of_pos_left Bv (by decide)
    rw[Uu];omega
   have R3:=Uq (M:=4294967296^(n+2+1)) ZI hg1 Oq hUM (by rw[Uu];omega)
   have hql:U/V<4294967296:=by rw[ZQ];exact Nat.mod_lt _ (by decide)
   rw[show decide ((0:Int)≤(k:Int))=true by simp,jQ]
   rw[vZ (by omega),bk (by omega),show k+(n+2)+1=k+(n+3) by omega,MS (by rw[bA];omega) (by rw[bA];omega),bV,hge,bV,rV rfl,bV,MS (by rw[bA];omega) (by rw[bA];omega),bV]
   show(Option.bind (cY _ k (n+2+1) v g) _)=_
   rw[hsub,bV,rV (by rw[bA,bA]),bV]
   simp only[b9]
   rcases R3 with⟨hc1,Ia,hc3⟩|⟨hc1,Ia,hc3,hc4⟩
   ·rw[show decide (U<V*g)=false by simp;omega,jX,hc3,Ut,Ia,Nat.mod_eq_of_lt hql,ZQ,bn (by rw[bA];omega),bV,ep (by rw[bA];omega),bV,RX (by decide) (by omega),cx (by omega) (by omega)]
   ·rw[show decide (U<V*g)=true by simp;omega,jQ,th (by omega) (by omega),show g-1=U/V by omega,Nat.mod_eq_of_lt hql,ZQ]
    rw[Nat.mod_eq_of_lt hc3]
    obtain⟨Y,hY⟩:∃Y,U+4294967296^(n+2+1)-V*g=Y:=⟨_,rfl⟩
    rw[hY]at hc3 hc4⊢
    obtain⟨A2,hA2⟩:∃A2,A1%4294967296^k+4294967296^k*Y=A2:=⟨_,rfl⟩
    rw[hA2]
    have hw2:A2/4294967296^k=Y:=by rw[←hA2,Nat.add_mul_div_left _ _ (hP k),Nat.div_eq_of_lt (Nat.mod_lt _ (hP k)),Nat.zero_add]
    have Oe:A2%4294967296^k=A1%4294967296^k:=by rw[←hA2,Nat.add_mul_mod_self_left,Nat.mod_mod]
    have hcr:∀i,HR 4294967296 Y V i≤1:=fun i=>LI (by decide) _ _ _
    refine aW (fun i=>((i:Int),HR 4294967296 Y V i,ga 4294967296 N (mix 4294967296 k i (Y+V) Y A2))) (n+2) (HR 4294967296 Y V (n+2),ga 4294967296 N (mix 4294967296 k (n+2) (Y+V) Y A2)) ?_ (fun i hi=>?_) ?_ ?_
    ·rw[JN,←hw2,JV];rfl
    ·have HQ:v[i]? =some (V/4294967296^i%4294967296):=by rw[←hvv];exact qK hvW.1 (by omega)
     have hgu:(ga 4294967296 N (mix 4294967296 k i (Y+V) Y A2))[k+i]? =some (Y/4294967296^i%4294967296):=by rw[oa (by omega),zq (by decide)]
     have hs1:=JM (B:=4294967296) (by decide) Y V i
     have Ef:=Hy (B:=4294967296) (by decide) Y V i
     have hput:=HB (B:=4294967296) (by decide) k i (Y+V) Y A2 (N:=N) (by omega)
     have hci:=hcr i
     have hv1:=Nat.mod_lt (V/4294967296^i) (show 0<4294967296 by decide)
     have hy1:=Nat.mod_lt (Y/4294967296^i) (show 0<4294967296 by decide)
     simp only[show decide ((i:Int)<(v.length:Int))=true by simp;omega,jQ]
     rw[aP HQ,bV,vZ (by omega),bn (by rw[bA];omega),bV,hgu,bV,Nat.mod_eq_of_lt (a:=Y/4294967296^i%4294967296) (b:=18446744073709551616) (by omega),Nat.mod_eq_of_lt (a:=V/4294967296^i%4294967296) (b:=18446744073709551616) (by omega),Nat.mod_eq_of_lt (b:=18446744073709551616) (by omega),iy _ _ (by omega),bV,bV,ep (by rw[bA];omega),bV,bk (by omega)]
     rw[hs1,Ef,hput]
    ·simp[hvl]
    ·have hgu:(ga 4294967296 N (mix 4294967296 k (n+2) (Y+V) Y A2))[k+(n+2)]? =some (Y/4294967296^(n+2)%4294967296):=by rw[oa (by omega),zq (by decide)]
     have Ef:=Hy (B:=4294967296) (by decide) Y V (n+2)
     have hput:=HB (B:=4294967296) (by decide) k (n+2) (Y+V) Y A2 (N:=N) (by omega)
     have hci:=hcr (n+2)
     have hy1:=Nat.mod_lt (Y/4294967296^(n+2)) (show 0<4294967296 by decide)
     rw[Nat.div_eq_of_lt Bv,Nat.zero_mod,Nat.add_zero]at Ef
     simp only[]
     rw[bn (by rw[bA];omega),bV,hgu,bV,Nat.mod_eq_of_lt (a:=Y/4294967296^(n+2)%4294967296) (b:=18446744073709551616) (by omega),iy _ _ (by omega),bV,bV,ep (by rw[bA];omega),bV,Ef,hput,JU hc3,Oe,hc4,Ut,bn (by rw[bA];omega),bV,ep (by rw[bA];omega),bV,RX (by decide) (by omega),cx (by omega) (by omega)]
  ·
   have hql:A1/4294967296^k/V<4294967296:=by rw[ZQ];exact Nat.mod_lt _ (by decide)
   omega
  ·have Uu:4294967296^(n+2+1)=4294967296^(n+2)*4294967296:=Nat.pow_succ ..
   have:4294967296*V<4294967296*4294967296^(n+2):=Nat.mul_lt_mul_of_pos_left Bv (by decide)
   rw[Uu];omega
 ·rw[show K+1-(K+1)=0 by omega,Nat.pow_zero,Nat.mul_one,Nat.mul_one,Nat.div_one,show decide (0≤(K:Int)-((K+1:Nat):Int))=false by simp;omega,jX]
 ·
  obtain⟨R,hR⟩:∃R,Va%Vb=R:=⟨_,rfl⟩
  rw[aj8,hR]
  have akf:R<4294967296^(n+2):=by rw[←hR];exact Nat.lt_trans (Nat.mod_lt _ hb0) ZP
  rw[pQ (by decide) (by omega),bV]
  refine aW (fun i=>((i:Int),ga 4294967296 (n+2) (R%4294967296^i))) (n+2) (ga 4294967296 (n+2) R) ?_ (fun i hi=>?_) ?_ rfl
  ·rw[Nat.pow_zero,Nat.mod_one,vv];rfl
  ·obtain⟨e,he⟩:∃e,4294967296=D*e:=⟨2^(32-s),by rw[←hD,←Nat.pow_add,show s+(32-s)=32 by omega,two32]⟩
   have ad9:=Ur (R:=R) (i:=i) Us he
   obtain⟨u,hu⟩:∃u,R*D/4294967296^i%4294967296=u:=⟨_,rfl⟩
   obtain⟨w,hw⟩:∃w,R*D/4294967296^(i+1)%4294967296=w:=⟨_,rfl⟩
   have hu1:u<4294967296:=by rw[←hu];exact Nat.mod_lt _ (by decide)
   have hw1:w<4294967296:=by rw[←hw];exact Nat.mod_lt _ (by decide)
   rw[hu,hw]at ad9
   simp only[show decide ((i:Int)<((n+2:Nat):Int))=true by simp;omega,jQ]
   rw[bn (by rw[bA];omega),bV,oa (by omega),bV,hu,bk (by omega),bn (by rw[bA];omega),bV,oa (by omega),bV,hw,Nat.mod_eq_of_lt (a:=u) (by omega),Nat.mod_eq_of_lt (a:=w) (by omega),two32,Nat.mod_eq_of_lt (a:=w*4294967296) (by omega),Nat.or_comm,MQ hu1,Nat.mod_eq_of_lt (a:=w*4294967296+u) (by omega),show min s 64=s by omega,hD,ad9,bn (by rw[bA];omega),bV,ep (by rw[bA];omega),bV]
   rw[ZO (by decide) hi]
  ·rw[Nat.mod_eq_of_lt akf];simp
end Go.Proofs.YtningmnklfpfjaaGreat
namespace Go.Proofs.YtningmnklfpfjaaGreat
open Go.Fw
def sv(n:Bool)(v:Nat):Int:=bif n then-(v:Int)else v
def zi(z:Zr):Int:=sv z.neg (vl z.w)
def zn(i:Int):Zr:=⟨decide (i<0),can 4294967296 i.natAbs⟩
def Wl(z:Zr):Prop:=(∀x∈z.w,x<4294967296)∧z.w.length≤10000000000
def Fit(L:Nat)(i:Int):Prop:=i.natAbs<4294967296^L
theorem R4(n:Bool)(v:Nat):(sv n v).natAbs=v:=by cases n<;>simp[sv]
theorem HD(z:Zr):(zi z).natAbs=vl z.w:=R4 _ _
theorem ZR(n:Bool)(v:Nat):decide (sv n v<0)=(n&&v != 0):=by
 cases n
 ·have:¬((v:Int)<0):=by omega
  simp[sv,this]
 ·rcases v with _|v
  ·simp[sv]
  ·simp[sv]
theorem qL(n:Bool)(v:Nat):zc n v=zn (sv n v):=by rw[zc,zn,ZR,R4]
theorem Uv(i:Int):sv (decide (i<0)) i.natAbs=i:=by
 by_cases h:i<0
 ·rw[show decide (i<0)=true by simp[h]];simp[sv];omega
 ·rw[show decide (i<0)=false by simp[h]];simp[sv];omega
theorem gu(i:Int):zi (zn i)=i:=by
 show sv (decide (i<0)) (vl (can 4294967296 i.natAbs))=i
 rw[show vl (can 4294967296 i.natAbs)=i.natAbs from tw (by decide) _,Uv]
theorem HE(n:Bool)(v:Nat):sv (!n) v=-sv n v:=by cases n<;>simp[sv]
theorem pS(v:Nat):sv false v=v:=rfl
theorem Fit.mono{L M:Nat}{i:Int}(h:Fit L i)(hl:L≤M):Fit M i:=Nat.lt_of_lt_of_le h (Nat.pow_le_pow_right (by decide) hl)
theorem Fit.neg{L:Nat}{i:Int}(h:Fit L i):Fit L (-i):=by unfold Fit at*;rw[Int.natAbs_neg];exact h
theorem Fit.add{L:Nat}{i j:Int}(h:Fit L i)(h':Fit L j):Fit (L+1) (i+j):=by
 unfold Fit at*
 have:=Int.natAbs_add_le i j
 rw[Nat.pow_succ];omega
theorem Fit.sub{L:Nat}{i j:Int}(h:Fit L i)(h':Fit L j):Fit (L+1) (i-j):=by
 rw[Int.sub_eq_add_neg];exact h.add h'.neg
theorem Fit.mul{L M:Nat}{i j:Int}(h:Fit L i)(h':Fit M j):Fit (L+M) (i*j):=by
 unfold Fit at*
 rw[Int.natAbs_mul,Nat.pow_add]
 exact Nat.mul_lt_mul'' h h'
theorem Fit.i64{i:Int}(h: -9223372036854775808≤i)(h':i≤9223372036854775807):Fit 2 i:=by
 unfold Fit;rw[show(4294967296:Nat)^2=18446744073709551616 by decide];omega
theorem Fit.le{L:Nat}{i j:Int}(h:Fit L i)(h':j.natAbs≤i.natAbs):Fit L j:=Nat.lt_of_le_of_lt h' h
theorem lf{L:Nat}{i:Int}(h:Fit L i)(hL:L≤10000000000):Wl (zn i):=
 ⟨fun _ hx=>mK (by decide) hx,Nat.le_trans ((fE (by decide)).2 h) hL⟩
theorem Wl.fit{z:Zr}(h:Wl z):Fit z.w.length (zi z):=by
 unfold Fit;rw[HD];exact jR z.w h.1
theorem Wl.lt{z:Zr}(h:Wl z):vl z.w<4294967296^z.w.length:=jR z.w h.1
theorem Wl.cl{z:Zr}(h:Wl z):(can 4294967296 (vl z.w)).length≤10000000000:=
 Nat.le_trans ((fE (by decide)).2 (Wl.lt h)) h.2
theorem Wl.trim{z:Zr}(h:Wl z):aG z.w=some (can 4294967296 (vl z.w)):=by
 rw[BV _ (by have:=h.2;omega),rW (by decide) h.1]
theorem ic{v:Nat}(h:(can 4294967296 v).length≤10000000001):HS (can 4294967296 v):=⟨fun _ hx=>mK (by decide) hx,by omega⟩
theorem fe(v:Nat):vl (can 4294967296 v)=v:=tw (by decide) v
theorem gK{v:Nat}:((can 4294967296 v).length:Int)≤2↔v<18446744073709551616:=by
 have:=fE (B:=4294967296) (by decide) (v:=v) (n:=2)
 rw[show(4294967296:Nat)^2=18446744073709551616 by decide]at this
 omega
theorem mL{v:Nat}:((can 4294967296 v).length:Int)≤1↔v<4294967296:=by
 have:=fE (B:=4294967296) (by decide) (v:=v) (n:=1)
 rw[show(4294967296:Nat)^1=4294967296 by decide]at this
 omega
theorem rZ{v:Nat}:(can 4294967296 v).length=0↔v=0:=by
 constructor
 ·intro h;exact Hw (by decide) (List.length_eq_zero_iff.1 h)
 ·intro h;rw[h,vz];rfl
theorem zu(l:List Nat)(h:l.length≤1000000000000):dj l=some l:=by
 unfold dj;rw[ajT (by decide) (by simp;omega)];simp
end Go.Proofs.YtningmnklfpfjaaGreat
namespace Go.Proofs.YtningmnklfpfjaaGreat
open Go.Fw
theorem JY(a b:Nat):decide (EH a b<0)=decide (a<b):=by
 rcases Nat.lt_trichotomy a b with h|h|h
 ·rw[zm h];simp[h]
 ·rw[h,HA];simp
 ·rw[BU h];simp;omega
theorem AU(a b:Nat)(ha:(can 4294967296 a).length≤10000000000)(hb:(can 4294967296 b).length≤10000000000)(h0:b≠0):
  ∃q r,dY (can 4294967296 a) (can 4294967296 b)=some (q,r)∧HS q∧vl q=a/b∧HS r∧vl r=a%b∧q.length≤10000000001∧r.length≤10000000001:=by
 unfold dY
 rw[lA a b (by omega) (by omega)]
 simp only[bV]
 by_cases hlt:a<b
 ·rw[zm hlt]
  simp only[show decide ((-1:Int)<0)=true by decide,jQ]
  rw[zu _ (by omega)]
  refine⟨_,_,rfl,⟨by simp,by simp⟩,?_,ic (by omega),?_,by simp,by omega⟩
  ·rw[Nat.div_eq_of_lt hlt];rfl
  ·rw[fe,Nat.mod_eq_of_lt hlt]
 ·rw[JY,show decide (a<b)=false by simp[hlt]]
  simp only[jX]
  by_cases h2:a<18446744073709551616
  ·rw[show decide (((can 4294967296 a).length:Int)≤2)=true by rw[decide_eq_true_eq];exact gK.2 h2]
   have BA:b<18446744073709551616:=by omega
   simp only[jQ]
   have l1:=low_eq (can 4294967296 a) (fun _ hx=>mK (by decide) hx) (by have:=gK.2 h2;omega)
   have l2:=low_eq (can 4294967296 b) (fun _ hx=>mK (by decide) hx) (by have:=gK.2 BA;omega)
   rw[fe]at l1 l2
   rw[l1,bV,l2,bV,Hu h0 h2,bV,rY _ _ (Nat.lt_of_le_of_lt (Nat.div_le_self _ _) h2),bV,BS h0,bV,rY _ _ (Nat.lt_of_le_of_lt (Nat.mod_le _ _) h2),bV]
   have hq:a/b<18446744073709551616:=Nat.lt_of_le_of_lt (Nat.div_le_self _ _) h2
   have hr:a%b<18446744073709551616:=Nat.lt_of_le_of_lt (Nat.mod_le _ _) h2
   have c1:=gK.2 hq
   have c2:=gK.2 hr
   exact⟨_,_,rfl,ic (by omega),fe _,ic (by omega),fe _,by show(can _ _).length≤_;omega,by show(can _ _).length≤_;omega⟩
  ·rw[show decide (((can 4294967296 a).length:Int)≤2)=false by rw[decide_eq_false_iff_not];exact fun h=>h2 (gK.1 h)]
   simp only[jX]
   have AE:(can 4294967296 b).length≠0:=fun h=>h0 (rZ.1 h)
   by_cases h1:b<4294967296
   ·have h1':=mL.2 h1
    rw[show decide (((can 4294967296 b).length:Int)=1)=true by simp;omega,jQ]
    have hg:(can 4294967296 b)[0]? =some b:=by rw[Hx (by decide) (by omega)];simp;exact h1
    rw[zu _ (by omega),bV,An hg,bV,Nat.mod_eq_of_lt (b:=18446744073709551616) (by omega),JS _ _ (ic (by omega)) (by omega) (by omega),bV,fe]
    simp only[]
    rw[rV (by rw[bA]),bV]
    have hm:a%b<b:=Nat.mod_lt _ (by omega)
    rw[Nat.mod_eq_of_lt (a:=a%b) (by omega)]
    refine⟨_,_,rfl,⟨fun x hx=>oD (by decide) _ _ _ hx,by rw[bA];omega⟩,?_,⟨?_,by simp⟩,?_,by rw[bA];omega,by simp⟩
    ·show val _ _=_
     rw[mJ,Nat.mod_eq_of_lt (Nat.lt_of_le_of_lt (Nat.div_le_self _ _) (dV (by decide) a))]
    ·intro x hx;simp at hx;omega
    ·simp[vl,val]
   ·have h1':¬(((can 4294967296 b).length:Int)≤1):=fun h=>h1 (mL.1 h)
    rw[show decide (((can 4294967296 b).length:Int)=1)=false by simp;omega,jX]
    obtain⟨n,hn⟩:∃n,(can 4294967296 b).length=n+2:=⟨(can 4294967296 b).length-2,by omega⟩
    have hl:(can 4294967296 b).length≤(can 4294967296 a).length:=(fE (by decide)).2 (Nat.lt_of_le_of_lt (by omega) (dV (by decide) a))
    obtain⟨l,x,hx,he⟩:=JK (B:=4294967296) (by decide) h0
    have LK:(can 4294967296 b)[n+1]? ≠some 0:=by
     have:l.length=n+1:=by rw[he]at hn;simp at hn;omega
     rw[he,←this];simp;exact hx
    rw[LL _ _ (ic (by omega)) (ic (by omega)) hn hl LK,bV,fe,fe]
    have hbp:0<b:=by omega
    have e1:a<4294967296^(can 4294967296 a).length:=dV (by decide) a
    have e2:b<4294967296^(can 4294967296 b).length:=dV (by decide) b
    have e3:4294967296^(n+1)≤b:=xk (by decide) (by omega)
    refine⟨_,_,rfl,⟨fun x hx=>oD (by decide) _ _ _ hx,by rw[bA];omega⟩,?_,⟨fun x hx=>oD (by decide) _ _ _ hx,by rw[bA];omega⟩,?_,by rw[bA];omega,by rw[bA];omega⟩
    ·show val _ _=_
     rw[mJ,Nat.mod_eq_of_lt]
     rw[Nat.div_lt_iff_lt_mul hbp]
     have:4294967296^((can 4294967296 a).length-(can 4294967296 b).length+1)*4294967296^(n+1)=4294967296^(can 4294967296 a).length:=by rw[←Nat.pow_add];congr 1;omega
     calc a<4294967296^((can 4294967296 a).length-(can 4294967296 b).length+1)*4294967296^(n+1):=by rw[this];exact e1
      _≤_:=Nat.mul_le_mul_left _ e3
    ·show val _ _=_
     rw[mJ,Nat.mod_eq_of_lt (Nat.lt_trans (Nat.mod_lt _ hbp) e2)]
end Go.Proofs.YtningmnklfpfjaaGreat
namespace Go.Proofs.YtningmnklfpfjaaGreat
open Go.Fw
theorem nv{x:Int}(h1: -9223372036854775808≤x)(h2:x≤9223372036854775807):bD x=some (zn x):=by
 unfold bD
 simp only[bV,b9]
 by_cases hx:x<0
 ·have e:(x%18446744073709551616).toNat=18446744073709551616-x.natAbs:=by omega
  rw[show decide (x<0)=true by simp[hx],jQ,e,BQ (by omega) (by omega),show 18446744073709551616+0-(18446744073709551616-x.natAbs)=x.natAbs by omega,rY _ _ (by omega),bV,qL,show sv true x.natAbs=x by simp[sv];omega]
 ·have e:(x%18446744073709551616).toNat=x.natAbs:=by omega
  rw[show decide (x<0)=false by simp[hx],jX,e,rY _ _ (by omega),bV,qL,show sv false x.natAbs=x by simp[sv];omega]
def fJ(i:Int):Prop:=-9223372036854775808≤i∧i≤9223372036854775807
instance(i:Int):Decidable (fJ i):=by unfold fJ;infer_instance
def vA(i:Int):Int×Bool:=if fJ i then(i,true)else(0,false)
theorem pU{z:Zr}(h:Wl z):dx z=some (vA (zi z)):=by
 obtain⟨n,w⟩:=z
 unfold dx
 have ht:=h.trim
 have akg:vl w<18446744073709551616→dB (can 4294967296 (vl w))=some (vl w):=fun h2=>by
  rw[low_eq _ (fun _ hx=>mK (by decide) hx) (by have:=gK.2 h2;omega),fe]
 show(aG w).bind _=some (vA (sv n (vl w)))
 rw[show aG w=some (can 4294967296 (vl w))from ht]
 simp only[bV]
 generalize vl w=v at*
 by_cases h2:v<18446744073709551616
 ·have:=gK.2 h2
  rw[show decide ((2:Int)<((can 4294967296 v).length:Int))=false by simp;omega,jX,akg h2,bV]
  cases n
  ·rw[jX,pS]
   by_cases h3:v<9223372036854775808
   ·rw[show decide (9223372036854775808≤v)=false by simp;omega,jX,vY (by omega),vA,if_pos (by unfold fJ;omega)]
   ·rw[show decide (9223372036854775808≤v)=true by simp;omega,jQ,vA,if_neg (by unfold fJ;omega)]
  ·rw[jQ,show sv true v=-(v:Int)from rfl]
   by_cases h3:9223372036854775808<v
   ·rw[show decide (9223372036854775808<v)=true by simp;omega,jQ,vA,if_neg (by unfold fJ;omega)]
   ·rw[show decide (9223372036854775808<v)=false by simp;omega,jX,vA,if_pos (by unfold fJ;omega)]
    by_cases h0:v=0
    ·subst h0;rfl
    ·rw[BQ (by omega) (by omega)]
     rw[show IntKind.i64.wrap ((18446744073709551616+0-v:Nat):Int)=-(v:Int) by
      rw[IntKind.wrap];simp[IntKind.signed,IntKind.bits];omega]
 ·have:¬(((can 4294967296 v).length:Int)≤2):=fun h=>h2 (gK.1 h)
  rw[show decide ((2:Int)<((can 4294967296 v).length:Int))=true by simp;omega,jQ,vA,if_neg (by unfold fJ;cases n<;>simp[sv]<;>omega)]
theorem sign_eq{z:Zr}(h:Wl z):cM z=some (zi z).sign:=by
 obtain⟨n,w⟩:=z
 unfold cM
 show(aG w).bind _=some (sv n (vl w)).sign
 rw[show aG w=some (can 4294967296 (vl w))from h.trim]
 simp only[bV]
 generalize vl w=v
 by_cases h0:v=0
 ·subst h0;cases n<;>rfl
 ·have:(can 4294967296 v).length≠0:=fun h=>h0 (rZ.1 h)
  rw[show decide (((can 4294967296 v).length:Int)=0)=false by simp;intro e;rw[e]at this;exact this rfl,jX]
  cases n
  ·rw[jX,pS,Int.sign_eq_one_of_pos (by omega)]
  ·rw[jQ,show sv true v=-(v:Int)from rfl,Int.sign_eq_neg_one_of_neg (by omega)]
def r5(i j:Int):Int:=if i<j then-1 else if i=j then 0 else 1
theorem nJ{i j:Int}(h:i<j):r5 i j=-1:=by simp[r5,h]
theorem nK{i j:Int}(h:j<i):r5 i j=1:=by
 have h1:¬i<j:=by omega
 have h2:¬i=j:=by omega
 simp[r5,h1,h2]
theorem wc(i:Int):r5 i i=0:=by simp[r5]
theorem JZ(v w:Nat):EH v w=r5 (v:Int) (w:Int):=by
 rcases Nat.lt_trichotomy v w with h|h|h
 ·rw[zm h,nJ (by omega)]
 ·rw[h,HA,wc]
 ·rw[BU h,nK (by omega)]
theorem R5(i j:Int):r5 (-i) (-j)=r5 j i:=by
 rcases Int.lt_trichotomy i j with h|h|h
 ·rw[nK h,nK (by omega)]
 ·rw[h,wc,wc]
 ·rw[nJ h,nJ (by omega)]
theorem ZS{x y:Zr}(hx:Wl x)(hy:Wl y):nR x y=some (r5 (zi x) (zi y)):=by
 obtain⟨n,w⟩:=x
 obtain⟨m,u⟩:=y
 unfold nR
 show(cM ⟨n,w⟩).bind _=_
 rw[sign_eq hx,bV]
 show(cM ⟨m,u⟩).bind _=_
 rw[sign_eq hy,bV,show aG w=some (can 4294967296 (vl w))from hx.trim,show aG u=some (can 4294967296 (vl u))from hy.trim]
 simp only[bV]
 rw[lA _ _ (Nat.le_trans hx.cl (by decide)) (Nat.le_trans hy.cl (by decide)),lA _ _ (Nat.le_trans hy.cl (by decide)) (Nat.le_trans hx.cl (by decide))]
 simp only[bV]
 rw[show zi ⟨n,w⟩=sv n (vl w)from rfl,show zi ⟨m,u⟩=sv m (vl u)from rfl]
 generalize vl w=a
 generalize vl u=b
 rw[JZ,JZ]
 obtain⟨i,hi⟩:∃i,sv n a=i:=⟨_,rfl⟩
 obtain⟨j,hj⟩:∃j,sv m b=j:=⟨_,rfl⟩
 have SN:(i<0→i=-(a:Int))∧(0≤i→i=a):=by rw[←hi];cases n<;>simp[sv]<;>omega
 have hjb:(j<0→j=-(b:Int))∧(0≤j→j=b):=by rw[←hj];cases m<;>simp[sv]<;>omega
 rw[hi,hj]
 rcases Int.lt_trichotomy i 0 with h1|h1|h1<;>rcases Int.lt_trichotomy j 0 with h2|h2|h2
 ·rw[Int.sign_eq_neg_one_of_neg h1,Int.sign_eq_neg_one_of_neg h2,SN.1 h1,hjb.1 h2,R5];rfl
 ·rw[Int.sign_eq_neg_one_of_neg h1,show Int.sign j=0 by rw[h2];rfl,show r5 i j=-1 from nJ (by omega)];rfl
 ·rw[Int.sign_eq_neg_one_of_neg h1,Int.sign_eq_one_of_pos h2,show r5 i j=-1 from nJ (by omega)];rfl
 ·rw[show Int.sign i=0 by rw[h1];rfl,Int.sign_eq_neg_one_of_neg h2,show r5 i j=1 from nK (by omega)];rfl
 ·rw[show Int.sign i=0 by rw[h1];rfl,show Int.sign j=0 by rw[h2];rfl,←SN.2 (by omega),←hjb.2 (by omega)];rfl
 ·rw[show Int.sign i=0 by rw[h1];rfl,Int.sign_eq_one_of_pos h2,show r5 i j=-1 from nJ (by omega)];rfl
 ·rw[Int.sign_eq_one_of_pos h1,Int.sign_eq_neg_one_of_neg h2,show r5 i j=1 from nK (by omega)];rfl
 ·rw[Int.sign_eq_one_of_pos h1,show Int.sign j=0 by rw[h2];rfl,show r5 i j=1 from nK (by omega)];rfl
 ·rw[Int.sign_eq_one_of_pos h1,Int.sign_eq_one_of_pos h2,←SN.2 (by omega),←hjb.2 (by omega)];rfl
theorem neg_eq{x:Zr}(hx:Wl x):fy x=some (zn (-zi x)):=by
 obtain⟨n,w⟩:=x
 unfold fy
 have hc:(can 4294967296 (vl w)).length≤10000000000:=hx.cl
 simp only[bV]
 rw[show aG w=some (can 4294967296 (vl w))from hx.trim,bV,zu _ (by omega),bV,k8 _ _ (ic (by omega)),bV,fe,qL,HE]
 rfl
end Go.Proofs.YtningmnklfpfjaaGreat
namespace Go.Proofs.YtningmnklfpfjaaGreat
open Go.Fw
theorem zw(n m:Bool)(a b:Nat)(ha:(can 4294967296 a).length≤10000000000)(hb:(can 4294967296 b).length≤10000000000):
  cw n (can 4294967296 a) m (can 4294967296 b)=some (zn (sv n a+sv m b)):=by
 have la:=dV (B:=4294967296) (by decide) a
 have lb:=dV (B:=4294967296) (by decide) b
 unfold cw
 simp only[bV]
 by_cases hnm:n=m
 ·subst hnm
  rw[show(n==n)=true by simp,jQ,AR _ _ (ic (by omega)) (ic (by omega)),bV,fe,fe,k8 _ _ ⟨fun x hx=>oD (by decide) _ _ _ hx,by rw[bA];omega⟩,bV]
  have hv:vl (ga 4294967296 (max (can 4294967296 a).length (can 4294967296 b).length+1) (a+b))=a+b:=by
   show val _ _=_
   rw[mJ,Nat.mod_eq_of_lt]
   have h1:a<4294967296^(max (can 4294967296 a).length (can 4294967296 b).length):=Nat.lt_of_lt_of_le la (Nat.pow_le_pow_right (by decide) (by omega))
   have h2:b<4294967296^(max (can 4294967296 a).length (can 4294967296 b).length):=Nat.lt_of_lt_of_le lb (Nat.pow_le_pow_right (by decide) (by omega))
   rw[Nat.pow_succ];omega
  rw[hv,qL,show sv n (a+b)=sv n a+sv n b by cases n<;>simp[sv];omega]
 ·rw[show(n==m)=false by simp[hnm],jX,lA _ _ (by omega) (by omega),bV,JY]
  have hm:m= !n:=by cases n<;>cases m<;>simp_all
  subst hm
  have hv:∀c d,d≤c→(can 4294967296 c).length≤10000000000→cg (can 4294967296 c) (can 4294967296 d)=some (ga 4294967296 (can 4294967296 c).length (c-d))∧vl (ga 4294967296 (can 4294967296 c).length (c-d))=c-d:=by
   intro c d hdc sq
   have lc:=dV (B:=4294967296) (by decide) c
   have hdl:(can 4294967296 d).length≤(can 4294967296 c).length:=(fE (by decide)).2 (by omega)
   constructor
   ·rw[AT _ _ (ic (by omega)) (ic (by omega)) hdl (by rw[fe,fe];exact hdc),fe,fe]
   ·show val _ _=_
    rw[mJ,Nat.mod_eq_of_lt (by omega)]
  by_cases hlt:a<b
  ·obtain⟨h1,h2⟩:=hv b a (by omega) hb
   rw[show decide (a<b)=true by simp[hlt],jQ,h1,bV,k8 _ _ ⟨fun x hx=>oD (by decide) _ _ _ hx,by rw[bA];omega⟩,bV,h2,qL,show sv (!n) (b-a)=sv n a+sv (!n) b by cases n<;>simp[sv]<;>omega]
  ·obtain⟨h1,h2⟩:=hv a b (by omega) ha
   rw[show decide (a<b)=false by simp[hlt],jX,h1,bV,k8 _ _ ⟨fun x hx=>oD (by decide) _ _ _ hx,by rw[bA];omega⟩,bV,h2,qL,show sv n (a-b)=sv n a+sv (!n) b by cases n<;>simp[sv]<;>omega]
theorem MT(v:BitVec 64):IntKind.i64.wrap (v.toNat:Int)=v.toInt:=by
 rw[BitVec.toInt_eq_toNat_cond]
 have:=v.isLt
 rw[show(2:Nat)^64=18446744073709551616 by decide]at this⊢
 split
 ·rw[vY (by omega)]
 ·rw[IntKind.wrap];simp[IntKind.signed,IntKind.bits];omega
theorem MU(v:BitVec 64):BitVec.ofInt 64 (IntKind.i64.wrap (v.toNat:Int))=v:=by rw[MT,BitVec.ofInt_toInt]
theorem Aq{x:Int}(h:fJ x):(BitVec.ofInt 64 x).msb=decide (x<0):=by
 rw[BitVec.msb_eq_toInt,BitVec.toInt_ofInt]
 unfold fJ at h
 have:x.bmod (2^64)=x:=by
  rw[Int.bmod_def]
  simp only[show((2^64:Nat):Int)=18446744073709551616 by decide]
  split<;>omega
 rw[this]
theorem FE(v:BitVec 64):decide ((0:Int)≤IntKind.i64.wrap (v.toNat:Int))= !v.msb:=by
 rw[MT,BitVec.msb_eq_toInt]
 by_cases h:v.toInt<0
 ·simp[h]
 ·simp[h];omega
theorem r6(x:Int):fJ (IntKind.i64.wrap x):=by
 unfold fJ
 rw[IntKind.wrap];simp[IntKind.signed,IntKind.bits];split<;>omega
theorem DT{α:Type}(b:Bool)(x:α):(bif b then x else x)=x:=by cases b<;>rfl
theorem jx{i:Int}(h:fJ i):vA i=(i,true):=if_pos h
theorem pV{i:Int}(h:¬fJ i):vA i=(0,false):=if_neg h
theorem add_eq{x y:Zr}(hx:Wl x)(hy:Wl y):j1 x y=some (zn (zi x+zi y)):=by
 obtain⟨n,w⟩:=x
 obtain⟨m,u⟩:=y
 unfold j1
 simp only[pU hx,pU hy,bV,b9]
 have hK:((aG w).bind fun tG=>(aG u).bind fun vU=>(cw n tG m vU).bind fun x=>some x)=some (zn (zi ⟨n,w⟩+zi ⟨m,u⟩)):=by
  rw[show aG w=some (can 4294967296 (vl w))from hx.trim,show aG u=some (can 4294967296 (vl u))from hy.trim,bV,bV,zw _ _ _ _ hx.cl hy.cl,bV];rfl
 have hK':((aG w).bind fun tG=>(aG u).bind fun vU=>(cw n tG m vU).bind fun x=>some ⟨x.neg,x.w⟩)=some (zn (zi ⟨n,w⟩+zi ⟨m,u⟩)):=hK
 rw[hK']
 generalize zi ⟨n,w⟩=i
 generalize zi ⟨m,u⟩=j
 by_cases h1:fJ i
 ·by_cases h2:fJ j
  ·rw[jx h1,jx h2,jQ,bV,jQ,MU,MU,FE,BitVec.msb_and,BitVec.msb_xor,BitVec.msb_xor,Aq h1,Aq h2,Aq (r6 _),nv (r6 _).1 (r6 _).2,bV]
   by_cases hr:fJ (i+j)
   ·rw[cx hr.1 hr.2]
    exact DT _ _
   ·have:(!((decide (i<0)^^decide (IntKind.i64.wrap (i+j)<0))&&(decide (j<0)^^decide (IntKind.i64.wrap (i+j)<0))))=false:=by
     unfold fJ at*
     by_cases hs:i<0
     ·have e:IntKind.i64.wrap (i+j)=i+j+18446744073709551616:=by rw[IntKind.wrap];simp[IntKind.signed,IntKind.bits];omega
      rw[e,show decide (i<0)=true by simp[hs],show decide (j<0)=true by simp;omega,show decide (i+j+18446744073709551616<0)=false by simp;omega];rfl
     ·have e:IntKind.i64.wrap (i+j)=i+j-18446744073709551616:=by rw[IntKind.wrap];simp[IntKind.signed,IntKind.bits];omega
      rw[e,show decide (i<0)=false by simp[hs],show decide (j<0)=false by simp;omega,show decide (i+j-18446744073709551616<0)=true by simp;omega];rfl
    rw[this,jX]
  ·rw[jx h1,pV h2,jQ,bV,jX]
 ·rw[pV h1,jX,bV,jX]
theorem sub_eq{x y:Zr}(hx:Wl x)(hy:Wl y):j9 x y=some (zn (zi x-zi y)):=by
 obtain⟨n,w⟩:=x
 obtain⟨m,u⟩:=y
 unfold j9
 simp only[pU hx,pU hy,bV,b9]
 have hK':((aG w).bind fun tG=>(aG u).bind fun vU=>(cw n tG (!m) vU).bind fun x=>some ⟨x.neg,x.w⟩)=some (zn (zi ⟨n,w⟩-zi ⟨m,u⟩)):=by
  rw[show aG w=some (can 4294967296 (vl w))from hx.trim,show aG u=some (can 4294967296 (vl u))from hy.trim,bV,bV,zw _ _ _ _ hx.cl hy.cl,bV,HE,←Int.sub_eq_add_neg];rfl
 rw[hK']
 generalize zi ⟨n,w⟩=i
 generalize zi ⟨m,u⟩=j
 by_cases h1:fJ i
 ·by_cases h2:fJ j
  ·rw[jx h1,jx h2,jQ,bV,jQ,MU,MU,FE,BitVec.msb_and,BitVec.msb_xor,BitVec.msb_xor,Aq h1,Aq h2,Aq (r6 _),nv (r6 _).1 (r6 _).2,bV]
   by_cases hr:fJ (i-j)
   ·rw[cx hr.1 hr.2]
    exact DT _ _
   ·have:(!((decide (i<0)^^decide (j<0))&&(decide (i<0)^^decide (IntKind.i64.wrap (i-j)<0))))=false:=by
     unfold fJ at*
     by_cases hs:i<0
     ·have e:IntKind.i64.wrap (i-j)=i-j+18446744073709551616:=by rw[IntKind.wrap];simp[IntKind.signed,IntKind.bits];omega
      rw[e,show decide (i<0)=true by simp[hs],show decide (j<0)=false by simp;omega,show decide (i-j+18446744073709551616<0)=false by simp;omega];rfl
     ·have e:IntKind.i64.wrap (i-j)=i-j-18446744073709551616:=by rw[IntKind.wrap];simp[IntKind.signed,IntKind.bits];omega
      rw[e,show decide (i<0)=false by simp[hs],show decide (j<0)=true by simp;omega,show decide (i-j-18446744073709551616<0)=true by simp;omega];rfl
    rw[this,jX]
  ·rw[jx h1,pV h2,jQ,bV,jX]
 ·rw[pV h1,jX,bV,jX]
theorem R6(n m:Bool)(a b:Nat):sv (!(n==m)) (a*b)=sv n a*sv m b:=by
 cases n<;>cases m<;>simp[sv,Int.neg_mul,Int.mul_neg]
theorem mul_eq{x y:Zr}(hx:Wl x)(hy:Wl y):cA x y=some (zn (zi x*zi y)):=by
 obtain⟨n,w⟩:=x
 obtain⟨m,u⟩:=y
 unfold cA
 have hcx:(can 4294967296 (vl w)).length≤10000000000:=hx.cl
 have hcy:(can 4294967296 (vl u)).length≤10000000000:=hy.cl
 simp only[]
 rw[show aG w=some (can 4294967296 (vl w))from hx.trim,show aG u=some (can 4294967296 (vl u))from hy.trim,bV,bV,show zi ⟨n,w⟩=sv n (vl w)from rfl,show zi ⟨m,u⟩=sv m (vl u)from rfl]
 simp only[bV,b9]
 generalize vl w=a at*
 generalize vl u=b at*
 have la:=dV (B:=4294967296) (by decide) a
 have lb:=dV (B:=4294967296) (by decide) b
 have hK:((dX (can 4294967296 a) (can 4294967296 b)).bind fun tX=>(bO (!(n==m)) tX).bind fun x=>some ⟨x.neg,x.w⟩)=some (zn (sv n a*sv m b)):=by
  rw[JR _ _ (ic (by omega)) (ic (by omega)),bV,fe,fe,k8 _ _ ⟨fun x hx=>oD (by decide) _ _ _ hx,by rw[bA];omega⟩,bV,qL]
  have hv:vl (ga 4294967296 ((can 4294967296 a).length+(can 4294967296 b).length) (a*b))=a*b:=by
   show val _ _=_
   rw[mJ,Nat.mod_eq_of_lt]
   rw[Nat.pow_add];exact Nat.mul_lt_mul'' la lb
  rw[hv,R6]
 rw[hK]
 by_cases h1:a<4294967296
 ·by_cases h2:b<4294967296
  ·have l1:=low_eq (can 4294967296 a) (fun _ hx=>mK (by decide) hx) (by have:=mL.2 h1;omega)
   have l2:=low_eq (can 4294967296 b) (fun _ hx=>mK (by decide) hx) (by have:=mL.2 h2;omega)
   rw[fe]at l1 l2
   have hlt:a*b<18446744073709551616:=Nat.mul_lt_mul'' h1 h2
   rw[show decide (((can 4294967296 a).length:Int)≤1)=true by rw[decide_eq_true_eq];exact mL.2 h1,jQ,bV,show decide (((can 4294967296 b).length:Int)≤1)=true by rw[decide_eq_true_eq];exact mL.2 h2,jQ,l1,l2,bV,bV,Nat.mod_eq_of_lt hlt,rY _ _ hlt,bV,qL,R6]
  ·rw[show decide (((can 4294967296 a).length:Int)≤1)=true by rw[decide_eq_true_eq];exact mL.2 h1,jQ,bV,show decide (((can 4294967296 b).length:Int)≤1)=false by rw[decide_eq_false_iff_not];exact fun h=>h2 (mL.1 h),jX]
 ·rw[show decide (((can 4294967296 a).length:Int)≤1)=false by rw[decide_eq_false_iff_not];exact fun h=>h1 (mL.1 h),jX,bV,jX]
end Go.Proofs.YtningmnklfpfjaaGreat
namespace Go.Proofs.YtningmnklfpfjaaGreat
open Go.Fw
theorem ZT(n m:Bool){a b:Nat}(hb:0<b):
  sv n a/sv m b=(if n=true∧0<a%b then sv (!(n==m)) (a/b+1)else sv (!(n==m)) (a/b))∧
  sv n a%sv m b=(if n=true∧0<a%b then((b-a%b:Nat):Int)else((a%b:Nat):Int)):=by
 have hd:=Nat.div_add_mod a b
 have hm:=Nat.mod_lt a hb
 revert hd hm
 generalize a/b=q
 generalize a%b=r
 intro hd hm
 have hd':(b:Int)*q+r=a:=by exact_mod_cast hd
 have pos:∀n,sv n a/(b:Int)=(if n=true∧0<r then sv n (q+1)else sv n q)∧sv n a%(b:Int)=(if n=true∧0<r then((b-r:Nat):Int)else(r:Int)):=by
  intro n
  apply(Int.ediv_emod_unique (by omega)).2
  cases n
  ·simp[sv];omega
  ·by_cases hr:0<r
   ·simp only[hr,and_self,if_true,sv,cond_true]
    have:(b:Int)* -((q+1:Nat):Int)=-((b:Int)*q)-b:=by
     rw[Int.mul_neg,Int.natCast_add,Int.mul_add];simp;omega
    rw[this];omega
   ·have:r=0:=by omega
    subst this
    simp[sv,Int.mul_neg];omega
 cases m
 ·have:=pos n
  rw[pS,show(!(n==false))=n by cases n<;>rfl]
  exact this
 ·have:=pos n
  rw[show sv true b=-(b:Int)from rfl,Int.ediv_neg,Int.emod_neg,this.1,this.2,show(!(n==true))= !n by cases n<;>rfl,HE,HE]
  refine⟨?_,rfl⟩
  split<;>rfl
theorem ZU{a b:Nat}(hba:b≤a)(sq:(can 4294967296 a).length≤10000000000):cg (can 4294967296 a) (can 4294967296 b)=some (ga 4294967296 (can 4294967296 a).length (a-b))∧vl (ga 4294967296 (can 4294967296 a).length (a-b))=a-b:=by
 have lc:=dV (B:=4294967296) (by decide) a
 have hdl:(can 4294967296 b).length≤(can 4294967296 a).length:=(fE (by decide)).2 (by omega)
 constructor
 ·rw[AT _ _ (ic (by omega)) (ic (by omega)) hdl (by rw[fe,fe];exact hba),fe,fe]
 ·show val _ _=_
  rw[mJ,Nat.mod_eq_of_lt (by omega)]
def Uw(i j:Int):Zr×Zr×Int:=if j=0 then(⟨false,[]⟩,⟨false,[]⟩,7)else(zn (i/j),zn (i%j),0)
theorem divMod_eq{x y:Zr}(hx:Wl x)(hy:Wl y):dJ x y=some (Uw (zi x) (zi y)):=by
 obtain⟨n,w⟩:=x
 obtain⟨m,u⟩:=y
 unfold dJ
 have hcx:(can 4294967296 (vl w)).length≤10000000000:=hx.cl
 have hcy:(can 4294967296 (vl u)).length≤10000000000:=hy.cl
 simp only[]
 rw[show aG w=some (can 4294967296 (vl w))from hx.trim,show aG u=some (can 4294967296 (vl u))from hy.trim,bV,bV,show zi ⟨n,w⟩=sv n (vl w)from rfl,show zi ⟨m,u⟩=sv m (vl u)from rfl]
 simp only[bV,b9]
 generalize vl w=a at*
 generalize vl u=b at*
 by_cases h0:b=0
 ·subst h0
  rw[show sv m 0=0 by cases m<;>rfl];rfl
 ·have AE:(can 4294967296 b).length≠0:=fun h=>h0 (rZ.1 h)
  rw[show decide (((can 4294967296 b).length:Int)=0)=false by simp;intro e;rw[e]at AE;exact AE rfl,jX]
  obtain⟨q,r,hqr,hq1,hq2,Yp,hr2,hq3,hr3⟩:=AU a b hcx hcy h0
  have hm:a%b<b:=Nat.mod_lt _ (by omega)
  obtain⟨e1,e2⟩:=ZT n m (a:=a) (show 0<b by omega)
  have hj:sv m b≠0:=by cases m<;>simp[sv]<;>omega
  rw[hqr,bV]
  simp only[]
  rw[BV r (by have:=Yp.2;omega),rW (by decide) Yp.1,show val 4294967296 r=a%b from hr2,bV,Uw,if_neg hj,e1,e2]
  have LM:(can 4294967296 (a%b)).length≤(can 4294967296 b).length:=(fE (by decide)).2 (Nat.lt_trans hm (dV (by decide) b))
  have hK:∀c:Bool,(decide (n=true∧0<a%b)=c)→(bif c then(dy q [1]).bind fun tX=>(cg (can 4294967296 b) (can 4294967296 (a%b))).bind fun oZ=>(bO (!(n==m)) tX).bind fun x=>(bO false oZ).bind fun x_1=>some ((⟨x.neg,x.w⟩:Zr),(⟨x_1.neg,x_1.w⟩:Zr),(0:Int))
    else(bO (!(n==m)) q).bind fun x=>(bO false (can 4294967296 (a%b))).bind fun x_1=>some ((⟨x.neg,x.w⟩:Zr),(⟨x_1.neg,x_1.w⟩:Zr),(0:Int)))=
    some (zn (if n=true∧0<a%b then sv (!(n==m)) (a/b+1)else sv (!(n==m)) (a/b)),zn (if n=true∧0<a%b then((b-a%b:Nat):Int)else((a%b:Nat):Int)),0):=by
   intro c hc
   cases c
   ·have hc':=of_decide_eq_false hc
    rw[jX,if_neg hc',if_neg hc',k8 _ _ hq1,bV,k8 _ _ (ic (by omega)),bV,fe,hq2,qL,qL,pS]
   ·have hc':=of_decide_eq_true hc
    obtain⟨s1,s2⟩:=ZU (a:=b) (b:=a%b) (by omega) hcy
    have w1:HS [1]:=⟨by simp,by simp⟩
    rw[jQ,if_pos hc',if_pos hc',AR _ _ hq1 w1,bV,s1,bV,k8 _ _ ⟨fun x hx=>oD (by decide) _ _ _ hx,by rw[bA];simp;omega⟩,bV,k8 _ _ ⟨fun x hx=>oD (by decide) _ _ _ hx,by rw[bA];omega⟩,bV,s2,qL,qL,pS]
    have:vl (ga 4294967296 (max q.length [1].length+1) (vl q+vl [1]))=a/b+1:=by
     show val _ _=_
     rw[mJ,show vl [1]=1 by decide,hq2,Nat.mod_eq_of_lt]
     have h1:vl q<4294967296^q.length:=jR q hq1.1
     rw[hq2]at h1
     have h2:4294967296^q.length≤4294967296^(max q.length [1].length):=Nat.pow_le_pow_right (by decide) (by omega)
     have h3:0<4294967296^(max q.length [1].length):=Nat.pow_pos (by decide)
     rw[Nat.pow_succ];omega
    rw[this]
  have hz:(0<(can 4294967296 (a%b)).length)↔0<a%b:=by
   have:=rZ (v:=a%b);omega
  cases n
  ·rw[jX,bV]
   exact hK false (by simp)
  ·rw[jQ,bV]
   refine hK _ ?_
   simp only[true_and]
   by_cases h:0<a%b
   ·simp[h,hz.2 h]
   ·have h':¬0<(can 4294967296 (a%b)).length:=fun e=>h (hz.1 e)
    have h'':¬((0:Int)<((can 4294967296 (a%b)).length:Int)):=by omega
    simp only[h,h'',decide_false]
theorem ZV{x y:Zr}(hx:Wl x)(hy:Wl y):iZ x y=some (zn (Int.gcd (zi x) (zi y):Int)):=by
 obtain⟨n,w⟩:=x
 obtain⟨m,u⟩:=y
 unfold iZ
 have hcx:(can 4294967296 (vl w)).length≤10000000000:=hx.cl
 have hcy:(can 4294967296 (vl u)).length≤10000000000:=hy.cl
 simp only[]
 rw[show aG w=some (can 4294967296 (vl w))from hx.trim,show aG u=some (can 4294967296 (vl u))from hy.trim,bV,bV,Int.gcd,HD,HD]
 show _=some (zn ((Nat.gcd (vl w) (vl u):Nat):Int))
 generalize vl w=a at*
 generalize vl u=b at*
 refine nu (fun s=>∃c d,s=(can 4294967296 c,can 4294967296 d)∧Nat.gcd c d=Nat.gcd a b∧(can 4294967296 c).length≤10000000000∧(can 4294967296 d).length≤10000000000)
  (fun s=>∃c d,s=(can 4294967296 c,can 4294967296 d)∧Nat.gcd c d=Nat.gcd a b∧(can 4294967296 c).length≤10000000000∧(d=0∨(c<18446744073709551616∧d<18446744073709551616))) (fun s=>vl s.2) ?_ ⟨a,b,rfl,rfl,hcx,hcy⟩ ?_
 ·rintro _ ⟨c,d,rfl,hg,hc,hd⟩
  simp only[bV,b9]
  by_cases h0:d=0
  ·right
   subst h0
   exact⟨_,rfl,c,0,rfl,hg,hc,.inl rfl⟩
  ·have AE:(can 4294967296 d).length≠0:=fun h=>h0 (rZ.1 h)
   rw[show decide ((0:Int)<((can 4294967296 d).length:Int))=true by simp;omega,jQ]
   by_cases h2:c<18446744073709551616∧d<18446744073709551616
   ·right
    have c1:=gK.2 h2.1
    have c2:=gK.2 h2.2
    rw[show decide ((2:Int)<((can 4294967296 c).length:Int))=false by simp;omega,jX,show decide ((2:Int)<((can 4294967296 d).length:Int))=false by simp;omega]
    exact⟨_,rfl,c,d,rfl,hg,hc,.inr h2⟩
   ·left
    have hm:c%d<d:=Nat.mod_lt _ (by omega)
    obtain⟨q,r,hqr,hq1,hq2,Yp,hr2,-,-⟩:=AU c d hc hd h0
    have OM:((bif decide ((2:Int)<((can 4294967296 c).length:Int))then some true else some (decide ((2:Int)<((can 4294967296 d).length:Int)))):Option Bool)=some true:=by
     by_cases Ia:c<18446744073709551616
     ·have hd2:¬d<18446744073709551616:=fun h=>h2 ⟨Ia,h⟩
      have:¬(((can 4294967296 d).length:Int)≤2):=fun h=>hd2 (gK.1 h)
      rw[show decide ((2:Int)<((can 4294967296 d).length:Int))=true by simp;omega]
      exact DT _ _
     ·have:¬(((can 4294967296 c).length:Int)≤2):=fun h=>Ia (gK.1 h)
      rw[show decide ((2:Int)<((can 4294967296 c).length:Int))=true by simp;omega,jQ]
    rw[OM,bV,bV,jQ,hqr,bV]
    simp only[]
    rw[BV r (by have:=Yp.2;omega),rW (by decide) Yp.1,show val 4294967296 r=c%d from hr2,bV]
    refine⟨_,rfl,⟨d,c%d,rfl,?_,hd,?_⟩,?_⟩
    ·rw[←hg,Nat.gcd_comm d,←Nat.gcd_rec,Nat.gcd_comm]
    ·exact Nat.le_trans ((fE (by decide)).2 (Nat.lt_trans hm (dV (by decide) d))) hd
    ·simp only[fe];exact hm
 ·rintro _ ⟨c,d,rfl,hg,hc,R3⟩
  simp only[bV]
  by_cases h0:d=0
  ·subst h0
   rw[show decide (((can 4294967296 0).length:Int)=0)=true by simp[vz],jQ,zu _ (by omega),bV,k8 _ _ (ic (by omega)),bV,fe,qL,pS,←hg,Nat.gcd_zero_right]
  ·have h2:=R3.resolve_left h0
   have AE:(can 4294967296 d).length≠0:=fun h=>h0 (rZ.1 h)
   have c1:=gK.2 h2.1
   have c2:=gK.2 h2.2
   rw[show decide (((can 4294967296 d).length:Int)=0)=false by simp;intro e;rw[e]at AE;exact AE rfl,jX,low_eq _ (fun _ hx=>mK (by decide) hx) (by omega),bV,low_eq _ (fun _ hx=>mK (by decide) hx) (by omega),bV,fe,fe]
   refine nu (fun s=>Nat.gcd s.1 s.2=Nat.gcd a b∧s.1<18446744073709551616∧s.2<18446744073709551616) (fun e=>e=Nat.gcd a b∧e<18446744073709551616) (fun s=>s.2) ?_ ⟨hg,h2.1,h2.2⟩ ?_
   ·rintro⟨s,t⟩ ⟨i1,i2,i3⟩
    simp only at i1 i2 i3⊢
    by_cases ht:0<t
    ·left
     rw[show decide (0<t)=true by simp[ht],jQ,BS (by omega),bV]
     refine⟨_,rfl,⟨?_,i3,?_⟩,Nat.mod_lt _ ht⟩
     ·rw[←i1,Nat.gcd_comm t,←Nat.gcd_rec,Nat.gcd_comm]
     ·exact Nat.lt_trans (Nat.mod_lt _ ht) i3
    ·right
     rw[show decide (0<t)=false by simp[ht],jX]
     refine⟨_,rfl,?_,i2⟩
     rw[←i1,show t=0 by omega,Nat.gcd_zero_right]
   ·rintro e ⟨rfl,he⟩
    rw[rY _ _ he,bV,qL,pS]
end Go.Proofs.YtningmnklfpfjaaGreat
namespace Go.Proofs.YtningmnklfpfjaaGreat
open Go.Fw
def zl(l:List Nat):List Int:=l.map (fun(n:Nat)=>(n:Int))
abbrev v16(l:List Nat):Nat:=val 65536 l
end Go.Proofs.YtningmnklfpfjaaGreat
namespace Go.Proofs.YtningmnklfpfjaaGreat
open Go.Fw
theorem p9(k:Nat):10^(9*(k+1))=10^(9*k)*1000000000:=by
 rw[show 9*(k+1)=9*k+9 by omega,Nat.pow_add]
end Go.Proofs.YtningmnklfpfjaaGreat
namespace Go.Proofs.YtningmnklfpfjaaGreat
open Go.Fw
def body(s:Sy):Sy:=if s.head?=some 45 then s.tail else s
def dv(s:Sy):Nat:=s.foldl (fun a c=>a*10+(c.toNat-48)) 0
def z0:Zr:=⟨false,[]⟩
end Go.Proofs.YtningmnklfpfjaaGreat
namespace Go.Proofs.YtningmnklfpfjaaGreat
open Go.Fw
theorem zeta'(z:Zr):(⟨z.neg,z.w⟩:Zr)=z:=by cases z;rfl
theorem N3{i:Int}(h:fJ i):Fit 2 i:=Fit.i64 h.1 h.2
end Go.Proofs.YtningmnklfpfjaaGreat
namespace Go.Proofs.YtningmnklfpfjaaGreat
open Go.Fw
theorem Ux(l:List Zr)(hl:l.length≤100):∃b,mB l=some b∧(b=false→∀z∈l,z.w.length≤12):=by
 unfold mB
 simp only[bV]
 refine mH (fun y=>∃i:Nat,y=(i:Int)∧i≤l.length∧∀z∈l.take i,z.w.length≤12) (fun e=>(∃c,e=.inl c∧∀z∈l,z.w.length≤12)∨e=.inr true) (fun y=>l.length-y.toNat) ?_ ⟨0,rfl,by omega,by simp⟩ ?_
 ·rintro _ ⟨i,rfl,hi,ht⟩
  by_cases hlt:i<l.length
  ·have g:l[i]? =some l[i]:=by simp
   rw[show decide ((i:Int)<(l.length:Int))=true by simp[hlt],jQ,aP g,bV]
   by_cases fj:l[i].w.length≤12
   ·left
    rw[show decide ((12:Int)<(l[i].w.length:Int))=false by rw[decide_eq_false_iff_not];omega,jX,bk (by omega)]
    refine⟨_,rfl,⟨i+1,rfl,hlt,?_⟩,by omega⟩
    rw[List.take_add_one,g]
    intro z hz
    rcases List.mem_append.1 hz with h|h
    ·exact ht z h
    ·simp at h;rw[h];exact fj
   ·right
    rw[show decide ((12:Int)<(l[i].w.length:Int))=true by rw[decide_eq_true_eq];omega,jQ]
    exact⟨_,rfl,.inr rfl⟩
  ·right
   rw[show decide ((i:Int)<(l.length:Int))=false by simp;omega,jX]
   rw[List.take_of_length_le (by omega)]at ht
   exact⟨_,rfl,.inl ⟨_,rfl,ht⟩⟩
 ·rintro e (⟨c,rfl,he⟩|rfl)
  ·exact⟨false,rfl,fun _=>he⟩
  ·exact⟨true,rfl,fun h=>by cases h⟩
theorem R7(i j:Int):(i-j).sign=r5 i j:=by
 rcases Int.lt_trichotomy i j with h|h|h
 ·rw[nJ h,Int.sign_eq_neg_one_of_neg (by omega)]
 ·rw[h,wc,Int.sub_self];rfl
 ·rw[nK h,Int.sign_eq_one_of_pos (by omega)]
abbrev OkZ(z:Zr):Prop:=True∧(z.w.length≤9223372036854775807∧∀x∈z.w,x<4294967296)
end Go.Proofs.YtningmnklfpfjaaGreat
namespace Go.Proofs.YtningmnklfpfjaaGreat
open Go.Fw
theorem Fit.div{L:Nat}{i:Int}(h:Fit L i)(j:Int):Fit L (i/j):=h.le (Int.natAbs_ediv_le_natAbs i j)
theorem Fit.gcd{L:Nat}{i j:Int}(h:Fit L i)(h':Fit L j):Fit L (Int.gcd i j:Int):=by
 by_cases h0:i=0
 ·subst h0;rw[Int.gcd_zero_left];exact h'.le (by simp)
 ·have:Int.gcd i j∣i.natAbs:=Nat.gcd_dvd_left _ _
  exact h.le (by have:=Nat.le_of_dvd (by omega) this;simpa using this)
end Go.Proofs.YtningmnklfpfjaaGreat
namespace Go.Proofs.YtningmnklfpfjaaGreat
open Go.Fw
def qd(q:Qr):Int:=if zi q.den=0 then 1 else zi q.den
def qv(q:Qr):Rat:=Rat.divInt (zi q.num) (qd q)
def qn(r:Rat):Qr:=⟨zn r.num,if r.den=1 then⟨false,[]⟩else zn (r.den:Int)⟩
def FQ(L:Nat)(r:Rat):Prop:=Fit L r.num∧Fit L (r.den:Int)
structure mO (L:Nat) (q:Qr) (r:Rat):Prop where
 n:∀x∈q.num.w,x<4294967296
 d:∀x∈q.den.w,x<4294967296
 ln:q.num.w.length≤L
 ld:q.den.w.length≤L
 l1:1≤L
 v:qv q=r
theorem aec(q:Qr):qd q≠0:=by
 unfold qd
 by_cases h:zi q.den=0
 ·rw[if_pos h];decide
 ·rw[if_neg h];exact h
theorem aed(r:Rat):qv (qn r)=r:=by
 unfold qv qd qn
 by_cases h:r.den=1
 ·rw[if_pos h]
  show Rat.divInt (zi (zn r.num)) (if zi ⟨false,[]⟩=0 then 1 else zi ⟨false,[]⟩)=r
  rw[if_pos (show zi ⟨false,[]⟩=0 from rfl),gu]
  have:=Rat.num_divInt_den r
  rw[h]at this;exact this
 ·rw[if_neg h]
  show Rat.divInt (zi (zn r.num)) (if zi (zn (r.den:Int))=0 then 1 else zi (zn (r.den:Int)))=r
  have:=r.den_nz
  rw[gu,gu,if_neg (by omega),Rat.num_divInt_den]
theorem MV{w:List Nat}{n:Bool}{L:Nat}(h:∀x∈w,x<4294967296)(hl:w.length≤L):Fit L (zi ⟨n,w⟩):=by
 unfold Fit
 rw[HD]
 exact Nat.lt_of_lt_of_le (jR w h) (Nat.pow_le_pow_right (by decide) hl)
theorem BX{L:Nat}(h:1≤L):Fit L 1:=by
 unfold Fit
 exact Nat.lt_of_lt_of_le (show(1:Int).natAbs<4294967296^1 by decide) (Nat.pow_le_pow_right (by decide) h)
theorem FQ.rep{L:Nat}{r:Rat}(h:FQ L r)(h1:1≤L):mO L (qn r) r:=by
 refine⟨fun x hx=>mK (by decide) hx,?_,(fE (by decide)).2 h.1,?_,h1,aed r⟩
 ·unfold qn
  by_cases e:r.den=1
  ·rw[if_pos e];simp
  ·rw[if_neg e];exact fun x hx=>mK (by decide) hx
 ·unfold qn
  by_cases e:r.den=1
  ·rw[if_pos e];simp
  ·rw[if_neg e];exact(fE (by decide)).2 h.2
theorem mO.wn{L:Nat}{q:Qr}{r:Rat}(h:mO L q r)(hL:L≤10000000000):Wl q.num:=⟨h.n,Nat.le_trans h.ln hL⟩
theorem mO.wd{L:Nat}{q:Qr}{r:Rat}(h:mO L q r)(hL:L≤10000000000):Wl q.den:=⟨h.d,Nat.le_trans h.ld hL⟩
theorem mO.fn{L:Nat}{q:Qr}{r:Rat}(h:mO L q r):Fit L (zi q.num):=MV (n:=q.num.neg) h.n h.ln
theorem mO.fd{L:Nat}{q:Qr}{r:Rat}(h:mO L q r):Fit L (zi q.den):=MV (n:=q.den.neg) h.d h.ld
theorem mO.fqd{L:Nat}{q:Qr}{r:Rat}(h:mO L q r):Fit L (qd q):=by
 unfold qd
 by_cases e:zi q.den=0
 ·rw[if_pos e];exact BX h.l1
 ·rw[if_neg e];exact h.fd
theorem mO.mono{L M:Nat}{q:Qr}{r:Rat}(h:mO L q r)(hl:L≤M):mO M q r:=⟨h.n,h.d,Nat.le_trans h.ln hl,Nat.le_trans h.ld hl,Nat.le_trans h.l1 hl,h.v⟩
theorem FQ.mono{L M:Nat}{r:Rat}(h:FQ L r)(hl:L≤M):FQ M r:=⟨h.1.mono hl,h.2.mono hl⟩
theorem r7{L:Nat}{a d:Int}(h0:d≠0)(ha:Fit L a)(hd:Fit L d):FQ L (Rat.divInt a d):=by
 generalize hr:Rat.divInt a d=r
 obtain⟨n',d',z',c⟩:=r
 obtain⟨m,hm,h1,h2⟩:=Rat.divInt_num_den h0 hr
 have hm':0<m.natAbs:=Int.natAbs_pos.2 hm
 refine⟨ha.le ?_,hd.le ?_⟩
 ·rw[h1,Int.natAbs_mul];exact Nat.le_mul_of_pos_right _ hm'
 ·rw[h2,Int.natAbs_mul];exact Nat.le_mul_of_pos_right _ hm'
theorem mO.fq{L:Nat}{q:Qr}{r:Rat}(h:mO L q r):FQ L r:=by rw[←h.v];exact r7 (aec q) h.fn h.fqd
theorem we(r:Rat):r=Rat.divInt r.num (r.den:Int):=(Rat.num_divInt_den r).symm
theorem qZ(r:Rat):(r.den:Int)≠0:=by have:=r.den_nz;omega
theorem FQ.add{L M:Nat}{x y:Rat}(hx:FQ L x)(hy:FQ M y):FQ (L+M+1) (x+y):=by
 have e:x+y=Rat.divInt (x.num*y.den+y.num*x.den) (x.den*y.den):=by
  conv=>lhs;rw[we x,we y,Rat.divInt_add_divInt _ _ (qZ x) (qZ y)]
 rw[e]
 refine r7 (Int.mul_ne_zero (qZ x) (qZ y)) ?_ ?_
 ·exact(hx.1.mul hy.2).add (by rw[Nat.add_comm L M];exact hy.1.mul hx.2)
 ·exact(hx.2.mul hy.2).mono (by omega)
theorem FQ.sub{L M:Nat}{x y:Rat}(hx:FQ L x)(hy:FQ M y):FQ (L+M+1) (x-y):=by
 have e:x-y=Rat.divInt (x.num*y.den-y.num*x.den) (x.den*y.den):=by
  conv=>lhs;rw[we x,we y,Rat.divInt_sub_divInt _ _ (qZ x) (qZ y)]
 rw[e]
 refine r7 (Int.mul_ne_zero (qZ x) (qZ y)) ?_ ?_
 ·exact(hx.1.mul hy.2).sub (by rw[Nat.add_comm L M];exact hy.1.mul hx.2)
 ·exact(hx.2.mul hy.2).mono (by omega)
theorem FQ.mul{L M:Nat}{x y:Rat}(hx:FQ L x)(hy:FQ M y):FQ (L+M) (x*y):=by
 have e:x*y=Rat.divInt (x.num*y.num) (x.den*y.den):=by
  conv=>lhs;rw[we x,we y,Rat.divInt_mul_divInt]
 rw[e]
 exact r7 (Int.mul_ne_zero (qZ x) (qZ y)) (hx.1.mul hy.1) (hx.2.mul hy.2)
theorem FQ.neg{L:Nat}{x:Rat}(hx:FQ L x):FQ L (-x):=⟨hx.1.neg,hx.2⟩
theorem FQ.inv{L:Nat}{x:Rat}(hx:FQ L x)(h:x≠0):FQ L x⁻¹:=by
 have hn:x.num≠0:=fun e=>h (Rat.num_eq_zero.1 e)
 rw[Rat.inv_def]
 exact r7 hn hx.2 hx.1
theorem FQ.div{L M:Nat}{x y:Rat}(hx:FQ L x)(hy:FQ M y)(h:y≠0):FQ (L+M) (x/y):=by rw[Rat.div_def];exact hx.mul (hy.inv h)
theorem FQ.int{L:Nat}{i:Int}(h:Fit L i)(h1:1≤L):FQ L (i:Rat):=⟨h,BX h1⟩
def qi(x y:Rat):Int:=if x<y then-1 else if x=y then 0 else 1
theorem N4(x:Rat):qi x x=0:=by unfold qi;rw[if_neg Rat.lt_irrefl,if_pos rfl]
theorem N5{a b c d:Int}(hb:0<b)(hd:0<d):Rat.divInt a b<Rat.divInt c d↔a*d<c*b:=by
 have hb':(0:Rat)<(b:Rat):=Rat.intCast_pos.2 hb
 have hd':(0:Rat)<(d:Rat):=Rat.intCast_pos.2 hd
 rw[Rat.divInt_eq_div,Rat.divInt_eq_div,Rat.div_lt_iff hb',Rat.div_def,Rat.mul_assoc,Rat.mul_comm (d:Rat)⁻¹,←Rat.mul_assoc,←Rat.div_def,Rat.lt_div_iff hd',←Rat.intCast_mul,←Rat.intCast_mul,Rat.intCast_lt_intCast]
theorem J0{a b c d:Int}(hb:0<b)(hd:0<d):qi (Rat.divInt a b) (Rat.divInt c d)=r5 (a*d) (c*b):=by
 unfold qi r5
 have e1:=N5 (a:=a) (c:=c) hb hd
 have e2:=Rat.divInt_eq_divInt_iff (n₁:=a) (d₁:=b) (n₂:=c) (d₂:=d) (by omega) (by omega)
 by_cases h1:a*d<c*b
 ·rw[if_pos (e1.2 h1),if_pos h1]
 ·rw[if_neg (fun h=>h1 (e1.1 h)),if_neg h1]
  by_cases h2:a*d=c*b
  ·rw[if_pos (e2.2 h2),if_pos h2]
  ·rw[if_neg (fun h=>h2 (e2.1 h)),if_neg h2]
theorem vB{a b:Int}(hb:0<b):a.sign=qi (Rat.divInt a b) 0:=by
 have:(0:Rat)=Rat.divInt 0 1:=rfl
 rw[this,J0 hb (by decide),Int.mul_one,Int.zero_mul,←R7,Int.sub_zero]
theorem FF{a d:Int}(hd:0<d):qn (Rat.divInt a d)=⟨zn (a/(Int.gcd a d:Int)),if d/(Int.gcd a d:Int)=1 then⟨false,[]⟩else zn (d/(Int.gcd a d:Int))⟩:=by
 have h1:(Rat.divInt a d).num=a/(Int.gcd a d:Int):=by rw[Rat.num_divInt,Int.sign_eq_one_of_pos hd,Int.one_mul,Int.gcd_comm]
 have h2:((Rat.divInt a d).den:Int)=d/(Int.gcd a d:Int):=by
  rw[Rat.den_divInt,if_neg (by omega),Int.gcd_comm]
  have:(d.natAbs:Int)=d:=by omega
  rw[Int.natCast_ediv,this]
 unfold qn
 rw[h1,h2]
 by_cases e:(Rat.divInt a d).den=1
 ·rw[if_pos e,if_pos (by omega)]
 ·rw[if_neg e,if_neg (by omega)]
theorem Uy(k:Int):((bif(vA k).2 then some (decide ((vA k).1=1))else some false):Option Bool)=some (decide (k=1)):=by
 by_cases h:fJ k
 ·rw[jx h];rfl
 ·rw[pV h]
  have:¬k=1:=by rintro rfl;exact h (by decide)
  rw[decide_eq_false this];rfl
theorem DU{n d:Zr}(hn:Wl n)(hd:Wl d)(h:0<zi d):((iZ n d).bind fun g=>(dJ n g).bind fun a=>(dJ d g).bind fun b=>(dx b.1).bind fun c=>
  (bif c.2 then some (decide (c.1=1))else some false).bind fun e=>bif e then some (⟨a.1,⟨false,[]⟩⟩:Qr)else some ⟨a.1,b.1⟩)=some (qn (Rat.divInt (zi n) (zi d))):=by
 have g0:(Int.gcd (zi n) (zi d):Int)≠0:=by
  have:0<Int.gcd (zi n) (zi d):=Int.gcd_pos_of_ne_zero_right _ (by omega)
  omega
 have wg:Wl (zn (Int.gcd (zi n) (zi d):Int)):=lf ((Wl.fit hd).le (by
  have:=Nat.le_of_dvd (Int.natAbs_pos.2 (show zi d≠0 by omega)) (Int.gcd_dvd_natAbs_right (zi n) (zi d))
  simpa using this)) hd.2
 have wq:Wl (zn (zi d/(Int.gcd (zi n) (zi d):Int))):=lf ((Wl.fit hd).le (Int.natAbs_ediv_le_natAbs _ _)) hd.2
 rw[ZV hn hd,bV,divMod_eq hn wg,bV,divMod_eq hd wg,bV,gu,Uw,if_neg g0,Uw,if_neg g0]
 simp only[]
 rw[pU wq,bV,gu,Uy,bV,FF h]
 by_cases e:zi d/(Int.gcd (zi n) (zi d):Int)=1
 ·rw[decide_eq_true e,jQ,if_pos e]
 ·rw[decide_eq_false e,jX,if_neg e]
theorem reduce_eq{x y:Zr}(hx:Wl x)(hy:Wl y)(h0:zi y≠0):dK x y=some (qn (Rat.divInt (zi x) (zi y))):=by
 unfold dK
 simp only[b9,bV,zeta',sign_eq hy]
 by_cases h:zi y<0
 ·rw[show decide ((zi y).sign<0)=true by rw[Int.sign_eq_neg_one_of_neg h];rfl,jQ,neg_eq hx,bV,neg_eq hy,bV]
  have hp:=DU (lf (Wl.fit hx).neg hx.2) (lf (Wl.fit hy).neg hy.2) (by rw[gu];omega)
  rw[gu,gu,Rat.neg_divInt_neg]at hp
  exact hp
 ·rw[show decide ((zi y).sign<0)=false by rw[Int.sign_eq_one_of_pos (by omega)];rfl,jX]
  exact DU hx hy (by omega)
end Go.Proofs.YtningmnklfpfjaaGreat
namespace Go.Proofs.YtningmnklfpfjaaGreat
open Go.Fw
theorem vC(q:Qr):(⟨⟨q.num.neg,q.num.w⟩,⟨q.den.neg,q.den.w⟩⟩:Qr)=q:=by cases q;rfl
theorem vD(q:Qr):(⟨q.num,q.den⟩:Qr)=q:=by cases q;rfl
theorem parts_eq{L:Nat}{q:Qr}{r:Rat}(h:mO L q r)(hL:L≤10000000000):∃n d:Zr,cP q=some (n,d)∧Wl n∧Wl d∧0<zi d∧Rat.divInt (zi n) (zi d)=r∧Fit L (zi n)∧Fit L (zi d):=by
 have wn:=h.wn hL
 have wd:=h.wd hL
 have hv:=h.v
 unfold cP
 simp only[zeta',bV,sign_eq wd,nv (x:=1) (by decide) (by decide),neg_eq wn,neg_eq wd]
 unfold qv qd at hv
 rcases Int.lt_trichotomy (zi q.den) 0 with h1|h1|h1
 ·refine⟨_,_,?_,lf h.fn.neg hL,lf h.fd.neg hL,by rw[gu];omega,?_,by rw[gu];exact h.fn.neg,by rw[gu];exact h.fd.neg⟩
  ·rw[Int.sign_eq_neg_one_of_neg h1];rfl
  ·rw[gu,gu,Rat.neg_divInt_neg,←hv,if_neg (by omega)]
 ·refine⟨_,_,?_,wn,lf (BX h.l1) hL,by rw[gu];decide,?_,h.fn,by rw[gu];exact BX h.l1⟩
  ·rw[h1];rfl
  ·rw[gu,←hv,if_pos h1]
 ·refine⟨_,_,?_,wn,wd,h1,?_,h.fn,h.fd⟩
  ·rw[Int.sign_eq_one_of_pos h1];rfl
  ·rw[←hv,if_neg (by omega)]
def Sm(a:Int):Prop:=-2147483648<a∧a<2147483648
theorem Sm.ok{a:Int}(h:Sm a):fJ a:=by unfold Sm at h;unfold fJ;omega
theorem mM{L:Nat}{q:Qr}{r:Rat}(h:mO L q r)(hL:L≤10000000000):∃a b c,dA q=some (a,b,c)∧(c=true→Sm a∧0<b∧Sm b∧Rat.divInt a b=r):=by
 have wn:=h.wn hL
 have wd:=h.wd hL
 have hv:=h.v
 unfold dA
 simp only[zeta',bV,b9,pU wn,pU wd]
 unfold qv qd at hv
 generalize zi q.num=n at*
 generalize zi q.den=d at*
 by_cases hs:Sm n∧Sm d
 ·obtain⟨h1,h2⟩:=hs
  rw[jx h1.ok,jx h2.ok]
  unfold Sm at h1 h2
  simp only[]
  rw[decide_eq_false (show ¬n≤-2147483648 by omega),decide_eq_false (show ¬2147483648≤n by omega),decide_eq_false (show ¬d≤-2147483648 by omega),decide_eq_false (show ¬2147483648≤d by omega)]
  simp only[Bool.not_true,jX,bV]
  by_cases h0:d=0
  ·rw[decide_eq_true h0,jQ]
   refine⟨_,_,_,rfl,fun _=>⟨h1,by decide,⟨by decide,by decide⟩,?_⟩⟩
   rw[←hv,if_pos h0]
  ·rw[decide_eq_false h0,jX]
   rw[if_neg h0]at hv
   by_cases hneg:d<0
   ·rw[decide_eq_true hneg,jQ,cx (by omega) (by omega),cx (by omega) (by omega)]
    refine⟨_,_,_,rfl,fun _=>⟨⟨by omega,by omega⟩,by omega,⟨by omega,by omega⟩,?_⟩⟩
    rw[Int.zero_sub,Int.zero_sub,Rat.neg_divInt_neg,hv]
   ·rw[decide_eq_false hneg,jX]
    exact⟨_,_,_,rfl,fun _=>⟨h1,by omega,h2,hv⟩⟩
 ·refine⟨0,0,false,?_,fun e=>by cases e⟩
  by_cases o1:fJ n
  ·by_cases o2:fJ d
   ·rw[jx o1,jx o2]
    simp only[Bool.not_true,jX,bV]
    unfold Sm at hs
    by_cases c1:n≤-2147483648
    ·rw[decide_eq_true c1];simp only[bV,jQ]
    ·rw[decide_eq_false c1];simp only[bV,jX]
     by_cases c2:2147483648≤n
     ·rw[decide_eq_true c2];simp only[bV,jQ]
     ·rw[decide_eq_false c2];simp only[bV,jX]
      by_cases c3:d≤-2147483648
      ·rw[decide_eq_true c3];simp only[bV,jQ]
      ·rw[decide_eq_false c3];simp only[bV,jX]
       rw[decide_eq_true (show 2147483648≤d by omega)];simp only[jQ]
   ·rw[jx o1,pV o2];simp only[Bool.not_true,Bool.not_false,jX,bV,jQ]
  ·rw[pV o1];simp only[Bool.not_false,bV,jQ]
theorem J1{a g:Int}(hg:0<g)(h:g∣a):Int.tdiv a g=a/g:=by
 obtain⟨k,rfl⟩:=h
 rw[Int.mul_tdiv_cancel_left _ (by omega),Int.mul_ediv_cancel_left _ (by omega)]
theorem r8{n d:Int}(hd:0<d)(hd':d≤9223372036854775807)(hn: -9223372036854775807≤n)(hn':n≤9223372036854775807):ey n d=some (qn (Rat.divInt n d)):=by
 unfold ey
 simp only[bV,b9]
 refine nu (fun s=>Int.gcd s.1 s.2=Int.gcd n d∧s.1.natAbs≤9223372036854775807∧s.2.natAbs≤9223372036854775807) (fun e=>e.natAbs=Int.gcd n d∧e.natAbs≤9223372036854775807) (fun s=>s.2.natAbs) ?_ ⟨rfl,by simp only[];omega,by simp only[];omega⟩ ?_
 ·rintro⟨a,b⟩ ⟨i1,i2,i3⟩
  simp only at i1 i2 i3⊢
  by_cases hb:b=0
  ·right
   subst hb
   refine⟨a,by simp,?_,i2⟩
   rw[←i1];simp[Int.gcd]
  ·left
   rw[decide_eq_true hb,jQ,Nl,if_neg hb,bV]
   have hm:(Int.tmod a b).natAbs=a.natAbs%b.natAbs:=Int.natAbs_tmod a b
   have hlt:=Nat.mod_lt a.natAbs (Int.natAbs_pos.2 hb)
   refine⟨_,rfl,⟨?_,i3,by simp only[];omega⟩,by simp only[];omega⟩
   simp only[]
   rw[←i1,Int.gcd,Int.gcd,hm,Nat.gcd_comm b.natAbs,←Nat.gcd_rec,Nat.gcd_comm]
 ·rintro e ⟨he,hle⟩
  obtain⟨g,hg⟩:∃g:Int,(Int.gcd n d:Int)=g:=⟨_,rfl⟩
  have hgp:0<g:=by have:=Int.gcd_pos_of_ne_zero_right n (show d≠0 by omega);omega
  have hgn:g∣n:=hg▸Int.gcd_dvd_left ..
  have hgd:g∣d:=hg▸Int.gcd_dvd_right ..
  have hK:∀m:Int,m=g→(bif decide (m=d)then(yz n m).bind fun ir=>(bD ir).bind fun x=>some (⟨⟨x.neg,x.w⟩,⟨false,[]⟩⟩:Qr)else(yz n m).bind fun iq=>(bD iq).bind fun x=>(yz d m).bind fun sL=>(bD sL).bind fun y=>some ⟨⟨x.neg,x.w⟩,⟨y.neg,y.w⟩⟩)=some (qn (Rat.divInt n d)):=by
   rintro m rfl
   have b1:(n/m).natAbs≤n.natAbs:=Int.natAbs_ediv_le_natAbs _ _
   have b2:(d/m).natAbs≤d.natAbs:=Int.natAbs_ediv_le_natAbs _ _
   have q1:yz n m=some (n/m):=by
    rw[yz,if_neg (by omega),J1 hgp hgn,cx (by omega) (by omega)]
   have q2:yz d m=some (d/m):=by
    rw[yz,if_neg (by omega),J1 hgp hgd,cx (by omega) (by omega)]
   rw[FF hd,hg,q1,q2]
   simp only[bV,nv (x:=n/m) (by omega) (by omega),nv (x:=d/m) (by omega) (by omega),zeta']
   by_cases e1:m=d
   ·rw[decide_eq_true e1,jQ,if_pos (by rw[e1];exact Int.ediv_self (by omega))]
   ·rw[decide_eq_false e1,jX,if_neg]
    intro e2
    have:=Int.ediv_mul_cancel hgd
    rw[e2]at this;omega
  by_cases hneg:e<0
  ·rw[decide_eq_true hneg,jQ,cx (by omega) (by omega)]
   exact hK _ (by omega)
  ·rw[decide_eq_false hneg,jX]
   exact hK _ (by omega)
theorem jH{a b:Int}(ha:Sm a)(hb:Sm b): -4611686018427387904<a*b∧a*b<4611686018427387904:=by
 unfold Sm at ha hb
 have h1:(a*b).natAbs=a.natAbs*b.natAbs:=Int.natAbs_mul a b
 have h2:a.natAbs*b.natAbs≤2147483647*2147483647:=Nat.mul_le_mul (by omega) (by omega)
 omega
theorem qM{a b:Int}(ha:0<a)(hb:0<b):0<a*b:=Int.mul_pos ha hb
section ops
variable {L M:Nat}{a b:Qr}{x y:Rat}
theorem mO.add(ha:mO L a x)(hb:mO M b y)(h:L+M≤4000000000):lI a b=some (qn (x+y))∧mO (L+M+1) (qn (x+y)) (x+y):=by
 refine⟨?_,(ha.fq.add hb.fq).rep (by omega)⟩
 obtain⟨n1,d1,c1,e1,k1⟩:=mM ha (by omega)
 obtain⟨n2,d2,c2,e2,k2⟩:=mM hb (by omega)
 obtain⟨p1,q1,f1,w1,w2,g1,v1,t1,t2⟩:=parts_eq ha (by omega)
 obtain⟨p2,q2,f2,w3,w4,g2,v2,t3,t4⟩:=parts_eq hb (by omega)
 have DV:gG a b=some (qn (x+y)):=by
  unfold gG eE
  have u1:=lf (t1.mul t4) (by omega)
  have u2:=lf (t3.mul t2) (by omega)
  have u3:=lf (t2.mul t4) (by omega)
  have u4:=lf ((t1.mul t4).add ((t3.mul t2).mono (by omega))) (by omega)
  simp only[zeta',vC,vD,f1,f2,bV,mul_eq w1 w4,mul_eq w3 w2,add_eq u1 u2,mul_eq w2 w4,gu]
  rw[reduce_eq u4 u3 (by rw[gu];have:=qM g1 g2;omega),bV,gu,gu,←v1,←v2,Rat.divInt_add_divInt _ _ (by omega) (by omega)]
 unfold lI
 simp only[zeta',vC,vD,e1,e2,bV,b9,DV]
 cases c1
 ·rw[jX,bV,jX]
 ·cases c2
  ·rw[jQ,bV,jX]
  ·obtain⟨s1,s2,s3,s4⟩:=k1 rfl
   obtain⟨s5,s6,s7,s8⟩:=k2 rfl
   have m1:=jH s1 s7
   have m2:=jH s5 s3
   have m3:=jH s3 s7
   have m4:=qM s2 s6
   rw[jQ,bV,jQ,cx (x:=n1*d2) (by omega) (by omega),cx (x:=n2*d1) (by omega) (by omega),cx (x:=d1*d2) (by omega) (by omega),cx (by omega) (by omega),r8 m4 (by omega) (by omega) (by omega),bV,←s4,←s8,Rat.divInt_add_divInt _ _ (by omega) (by omega)]
theorem mO.sub(ha:mO L a x)(hb:mO M b y)(h:L+M≤4000000000):lJ a b=some (qn (x-y))∧mO (L+M+1) (qn (x-y)) (x-y):=by
 refine⟨?_,(ha.fq.sub hb.fq).rep (by omega)⟩
 obtain⟨n1,d1,c1,e1,k1⟩:=mM ha (by omega)
 obtain⟨n2,d2,c2,e2,k2⟩:=mM hb (by omega)
 obtain⟨p1,q1,f1,w1,w2,g1,v1,t1,t2⟩:=parts_eq ha (by omega)
 obtain⟨p2,q2,f2,w3,w4,g2,v2,t3,t4⟩:=parts_eq hb (by omega)
 have DV:gH a b=some (qn (x-y)):=by
  unfold gH eG
  have u1:=lf (t1.mul t4) (by omega)
  have u2:=lf (t3.mul t2) (by omega)
  have u3:=lf (t2.mul t4) (by omega)
  have u4:=lf ((t1.mul t4).sub ((t3.mul t2).mono (by omega))) (by omega)
  simp only[zeta',vC,vD,f1,f2,bV,mul_eq w1 w4,mul_eq w3 w2,sub_eq u1 u2,mul_eq w2 w4,gu]
  rw[reduce_eq u4 u3 (by rw[gu];have:=qM g1 g2;omega),bV,gu,gu,←v1,←v2,Rat.divInt_sub_divInt _ _ (by omega) (by omega)]
 unfold lJ
 simp only[zeta',vC,vD,e1,e2,bV,b9,DV]
 cases c1
 ·rw[jX,bV,jX]
 ·cases c2
  ·rw[jQ,bV,jX]
  ·obtain⟨s1,s2,s3,s4⟩:=k1 rfl
   obtain⟨s5,s6,s7,s8⟩:=k2 rfl
   have m1:=jH s1 s7
   have m2:=jH s5 s3
   have m3:=jH s3 s7
   have m4:=qM s2 s6
   rw[jQ,bV,jQ,cx (x:=n1*d2) (by omega) (by omega),cx (x:=n2*d1) (by omega) (by omega),cx (x:=d1*d2) (by omega) (by omega),cx (by omega) (by omega),r8 m4 (by omega) (by omega) (by omega),bV,←s4,←s8,Rat.divInt_sub_divInt _ _ (by omega) (by omega)]
theorem mO.mul(ha:mO L a x)(hb:mO M b y)(h:L+M≤4000000000):kx a b=some (qn (x*y))∧mO (L+M) (qn (x*y)) (x*y):=by
 have l1:=ha.l1
 refine⟨?_,(ha.fq.mul hb.fq).rep (by omega)⟩
 obtain⟨n1,d1,c1,e1,k1⟩:=mM ha (by omega)
 obtain⟨n2,d2,c2,e2,k2⟩:=mM hb (by omega)
 obtain⟨p1,q1,f1,w1,w2,g1,v1,t1,t2⟩:=parts_eq ha (by omega)
 obtain⟨p2,q2,f2,w3,w4,g2,v2,t3,t4⟩:=parts_eq hb (by omega)
 have DV:gI a b=some (qn (x*y)):=by
  unfold gI eI
  have u1:=lf (t1.mul t3) (by omega)
  have u3:=lf (t2.mul t4) (by omega)
  simp only[zeta',vC,vD,f1,f2,bV,mul_eq w1 w3,mul_eq w2 w4]
  rw[reduce_eq u1 u3 (by rw[gu];have:=qM g1 g2;omega),bV,gu,gu,←v1,←v2,Rat.divInt_mul_divInt]
 unfold kx
 simp only[zeta',vC,vD,e1,e2,bV,b9,DV]
 cases c1
 ·rw[jX,bV,jX]
 ·cases c2
  ·rw[jQ,bV,jX]
  ·obtain⟨s1,s2,s3,s4⟩:=k1 rfl
   obtain⟨s5,s6,s7,s8⟩:=k2 rfl
   have m1:=jH s1 s5
   have m3:=jH s3 s7
   have m4:=qM s2 s6
   rw[jQ,bV,jQ,cx (by omega) (by omega),cx (x:=d1*d2) (by omega) (by omega),r8 m4 (by omega) (by omega) (by omega),bV,←s4,←s8,Rat.divInt_mul_divInt]
theorem mO.sign(ha:mO L a x)(h:L≤10000000000):eM a=some (qi x 0):=by
 unfold eM
 have wn:=ha.wn h
 have wd:=ha.wd h
 have hv:=ha.v
 simp only[zeta',bV,sign_eq wn,sign_eq wd]
 unfold qv qd at hv
 rcases Int.lt_trichotomy (zi a.den) 0 with h1|h1|h1
 ·rw[Int.sign_eq_neg_one_of_neg h1]
  rw[if_neg (by omega),←Rat.neg_divInt_neg]at hv
  rw[←hv,←vB (by omega),Int.sign_neg]
  show some (IntKind.i64.wrap (0-(zi a.num).sign))=_
  have:(zi a.num).sign=-1∨(zi a.num).sign=0∨(zi a.num).sign=1:=by
   rcases Int.lt_trichotomy (zi a.num) 0 with e|e|e
   ·left;exact Int.sign_eq_neg_one_of_neg e
   ·right;left;rw[e];rfl
   ·right;right;exact Int.sign_eq_one_of_pos e
  rw[cx (by omega) (by omega),Int.zero_sub]
 ·rw[if_pos h1]at hv
  rw[←hv,←vB (by omega),h1];rfl
 ·rw[if_neg (by omega)]at hv
  rw[Int.sign_eq_one_of_pos h1,←hv,←vB h1];rfl
theorem lQ{x:Rat}:qi x 0=0↔x=0:=by
 unfold qi
 by_cases h:x<0
 ·rw[if_pos h]
  refine⟨fun e=>absurd e (by decide),fun e=>?_⟩
  rw[e]at h;exact absurd h Rat.lt_irrefl
 ·rw[if_neg h]
  by_cases h2:x=0
  ·rw[if_pos h2];simp[h2]
  ·rw[if_neg h2];simp[h2]
theorem mO.div(ha:mO L a x)(hb:mO M b y)(h:L+M≤4000000000)(h0:y≠0):pA a b=some (qn (x/y),0)∧mO (L+M) (qn (x/y)) (x/y):=by
 have l1:=ha.l1
 refine⟨?_,(ha.fq.div hb.fq h0).rep (by omega)⟩
 obtain⟨n1,d1,c1,e1,k1⟩:=mM ha (by omega)
 obtain⟨n2,d2,c2,e2,k2⟩:=mM hb (by omega)
 obtain⟨p1,q1,f1,w1,w2,g1,v1,t1,t2⟩:=parts_eq ha (by omega)
 obtain⟨p2,q2,f2,w3,w4,g2,v2,t3,t4⟩:=parts_eq hb (by omega)
 have hdiv:∀a b c d:Int,Rat.divInt a b/Rat.divInt c d=Rat.divInt (a*d) (b*c):=fun a b c d=>by rw[Rat.div_def,Rat.inv_divInt,Rat.divInt_mul_divInt]
 have hnz:∀a b:Int,Rat.divInt a b=y→a≠0:=fun a b e e'=>h0 (by rw[←e,e',Rat.zero_divInt])
 have DV:ku a b=some (qn (x/y)):=by
  unfold ku iE
  have u1:=lf (t1.mul t4) (by omega)
  have u3:=lf (t2.mul t3) (by omega)
  simp only[zeta',vC,vD,f1,f2,bV,mul_eq w1 w4,mul_eq w2 w3]
  rw[reduce_eq u1 u3 (by rw[gu];exact Int.mul_ne_zero (by omega) (hnz _ _ v2)),bV,gu,gu,←v1,←v2,hdiv]
 unfold pA
 simp only[zeta',vC,vD,hb.sign (by omega),e1,e2,bV,b9,DV]
 rw[decide_eq_false (fun e=>h0 (lQ.1 e)),jX]
 cases c1
 ·rw[jX,bV,jX]
 ·cases c2
  ·rw[jQ,bV,jX]
  ·obtain⟨s1,s2,s3,s4⟩:=k1 rfl
   obtain⟨s5,s6,s7,s8⟩:=k2 rfl
   have hn2:=hnz _ _ s8
   have m1:=jH s1 s7
   have m3:=jH s3 s5
   rw[jQ,bV,jQ]
   unfold Sm at s1 s3 s5 s7
   by_cases hneg:n2<0
   ·have m4:=qM s2 (show 0< -n2 by omega)
    have m5:(-n1)*d2=-(n1*d2):=Int.neg_mul _ _
    have m6:d1*(-n2)=-(d1*n2):=Int.mul_neg _ _
    rw[decide_eq_true hneg,jQ,cx (x:=0-n1) (by omega) (by omega),cx (x:=0-n2) (by omega) (by omega),Int.zero_sub,Int.zero_sub,cx (by omega) (by omega),cx (by omega) (by omega),r8 m4 (by omega) (by omega) (by omega),bV,m5,m6,Rat.neg_divInt_neg,←s4,←s8,hdiv]
   ·have m4:=qM s2 (show 0<n2 by omega)
    rw[decide_eq_false hneg,jX,cx (by omega) (by omega),cx (by omega) (by omega),r8 m4 (by omega) (by omega) (by omega),bV,←s4,←s8,hdiv]
theorem mO.canon(ha:mO L a x)(h:L≤10000000000):cj a=some (qn x)∧mO L (qn x) x:=by
 refine⟨?_,ha.fq.rep ha.l1⟩
 obtain⟨n1,d1,c1,e1,k1⟩:=mM ha (by omega)
 obtain⟨p1,q1,f1,w1,w2,g1,v1,t1,t2⟩:=parts_eq ha (by omega)
 unfold cj
 simp only[zeta',vC,vD,e1,bV,f1]
 cases c1
 ·rw[jX,reduce_eq w1 w2 (by omega),bV,v1]
 ·obtain⟨s1,s2,s3,s4⟩:=k1 rfl
  unfold Sm at s1 s3
  rw[jQ,r8 s2 (by omega) (by omega) (by omega),bV,s4]
end ops
end Go.Proofs.YtningmnklfpfjaaGreat
namespace Go.Proofs.YtningmnklfpfjaaGreat
open Go.Fw
theorem FG{p q u v:Int}(hq:0<q)(hv:0<v)(h:p.sign≠u.sign∨p.sign=0):qy (IntKind.i64.wrap (p.sign-u.sign))=some (r5 (p*v) (u*q)):=by
 have pv:0<p→0<p*v:=fun h=>Int.mul_pos h hv
 have pv':p<0→p*v<0:=fun h=>Int.mul_neg_of_neg_of_pos h hv
 have uq:0<u→0<u*q:=fun h=>Int.mul_pos h hq
 have uq':u<0→u*q<0:=fun h=>Int.mul_neg_of_neg_of_pos h hq
 rcases Int.lt_trichotomy p 0 with e1|e1|e1<;>rcases Int.lt_trichotomy u 0 with e2|e2|e2
 ·rw[Int.sign_eq_neg_one_of_neg e1,Int.sign_eq_neg_one_of_neg e2]at h;simp at h
 ·have:=pv' e1
  rw[Int.sign_eq_neg_one_of_neg e1,e2,Int.zero_mul,nJ this];rfl
 ·have:=pv' e1
  have:=uq e2
  rw[Int.sign_eq_neg_one_of_neg e1,Int.sign_eq_one_of_pos e2,nJ (by omega)];rfl
 ·have:=uq' e2
  rw[Int.sign_eq_neg_one_of_neg e2,e1,Int.zero_mul,nK this];rfl
 ·rw[e1,e2,Int.zero_mul,Int.zero_mul];rfl
 ·have:=uq e2
  rw[Int.sign_eq_one_of_pos e2,e1,Int.zero_mul,nJ this];rfl
 ·have:=pv e1
  have:=uq' e2
  rw[Int.sign_eq_one_of_pos e1,Int.sign_eq_neg_one_of_neg e2,nK (by omega)];rfl
 ·have:=pv e1
  rw[Int.sign_eq_one_of_pos e1,e2,Int.zero_mul,nK this];rfl
 ·rw[Int.sign_eq_one_of_pos e1,Int.sign_eq_one_of_pos e2]at h;simp at h
theorem R8{x y:Rat}:qi x y=0↔x=y:=by
 unfold qi
 by_cases h:x<y
 ·rw[if_pos h]
  refine⟨fun e=>absurd e (by decide),fun e=>?_⟩
  rw[e]at h;exact absurd h Rat.lt_irrefl
 ·rw[if_neg h]
  by_cases h2:x=y
  ·rw[if_pos h2];simp[h2]
  ·rw[if_neg h2];simp[h2]
theorem J2{x y:Rat}:qi x y<0↔x<y:=by
 unfold qi
 by_cases h:x<y
 ·rw[if_pos h];simp[h]
 ·rw[if_neg h]
  by_cases h2:x=y
  ·rw[if_pos h2];simp[h2,Rat.lt_irrefl]
  ·rw[if_neg h2];simp[h]
theorem ZW(i:Int):qn (i:Rat)=⟨zn i,⟨false,[]⟩⟩:=by
 unfold qn
 rw[Rat.den_intCast,if_pos rfl,Rat.num_intCast]
section ops
variable {L M:Nat}{a b:Qr}{x y:Rat}
theorem mO.neg(ha:mO L a x)(h:L≤10000000000):pB a=some (qn (-x))∧mO L (qn (-x)) (-x):=by
 refine⟨?_,ha.fq.neg.rep ha.l1⟩
 unfold pB
 have r:=(ha.canon h).2
 simp only[zeta',vC,vD,(ha.canon h).1,bV,neg_eq (r.wn h)]
 show some (⟨zn (-zi (zn x.num)),_⟩:Qr)=some (qn (-x))
 rw[gu];rfl
theorem mO.cmp(ha:mO L a x)(hb:mO M b y)(h:L+M≤4000000000):pC a b=some (qi x y):=by
 obtain⟨p1,q1,f1,w1,w2,g1,v1,t1,t2⟩:=parts_eq ha (by omega)
 obtain⟨p2,q2,f2,w3,w4,g2,v2,t3,t4⟩:=parts_eq hb (by omega)
 unfold pC
 have u1:=lf (t1.mul t4) (by omega)
 have u2:=lf (t3.mul t2) (by omega)
 simp only[zeta',vC,vD,f1,f2,bV,b9,sign_eq w1,sign_eq w3,mul_eq w1 w4,mul_eq w3 w2,ZS u1 u2,gu]
 rw[←v1,←v2,J0 g1 g2]
 by_cases e1:(zi p1).sign=(zi p2).sign
 ·rw[show decide ((zi p1).sign≠(zi p2).sign)=false by simp[e1],jX,bV]
  by_cases e2:(zi p1).sign=0
  ·rw[decide_eq_true e2,jQ,FG g1 g2 (.inr e2),bV]
  ·rw[decide_eq_false e2,jX]
 ·rw[show decide ((zi p1).sign≠(zi p2).sign)=true by simp[e1],jQ,bV,jQ,FG g1 g2 (.inl e1),bV]
theorem oT{n:Int}(hn:fJ n):cZ n=some (qn (n:Rat))∧mO 2 (qn (n:Rat)) (n:Rat):=by
 refine⟨?_,(FQ.int (N3 hn) (by decide)).rep (by decide)⟩
 unfold cZ
 simp only[zeta',bV,nv hn.1 hn.2]
 rw[ZW]
end ops
end Go.Proofs.YtningmnklfpfjaaGreat
namespace Go.Proofs.YtningmnklfpfjaaGreat
open Go.Fw
def vq(n:Nat)(h:Nat→Rat):List Qr:=(List.range n).map fun i=>qn (h i)
structure eA (L:Nat) (v:List Qr) (f:Nat→Rat):Prop where
 e:∀i (h:i<v.length),mO L v[i] (f i)
 z:∀i,v.length≤i→f i=0
 l1:1≤L
theorem cc(n:Nat)(h:Nat→Rat):(vq n h).length=n:=by simp[vq]
theorem lM{n i:Nat}{h:Nat→Rat}(hi:i<n):(vq n h)[i]? =some (qn (h i)):=by simp[vq,hi]
theorem Uz{n i:Nat}{h:Nat→Rat}(hi:i<(vq n h).length):(vq n h)[i]=qn (h i):=by simp[vq]
theorem BY(n:Nat)(h:Nat→Rat):vq (n+1) h=vq n h++[qn (h n)]:=by simp[vq,List.range_succ]
theorem ig{n:Nat}{h k:Nat→Rat}(e:∀i,i<n→h i=k i):vq n h=vq n k:=by
 unfold vq
 apply List.map_congr_left
 intro i hi
 rw[e i (List.mem_range.1 hi)]
theorem pW{L n:Nat}{h:Nat→Rat}(hf:∀i,i<n→FQ L (h i))(hz:∀i,n≤i→h i=0)(h1:1≤L):eA L (vq n h) h:=by
 refine⟨fun i hi=>?_,fun i hi=>hz i (by rwa[cc]at hi),h1⟩
 rw[Uz hi]
 exact(hf i (by rwa[cc]at hi)).rep h1
def qz:Qr:=⟨⟨false,[]⟩,⟨false,[]⟩⟩
theorem UA:qn 0=qz:=rfl
theorem J3{L:Nat}(h:1≤L):mO L qz 0:=⟨by simp[qz],by simp[qz],by simp[qz],by simp[qz],h,by decide⟩
theorem wh{L:Nat}(h:1≤L):FQ L 0:=(J3 h).fq
def qat(v:List Qr)(i:Nat):Qr:=v.getD i qz
theorem eA.at{L:Nat}{v:List Qr}{f:Nat→Rat}(h:eA L v f)(i:Nat):mO L (qat v i) (f i):=by
 unfold qat
 by_cases hi:i<v.length
 ·rw[List.getD_eq_getElem?_getD,List.getElem?_eq_getElem hi];exact h.e i hi
 ·rw[List.getD_eq_getElem?_getD,List.getElem?_eq_none (by omega),h.z i (by omega)];exact J3 h.l1
theorem eA.fq{L:Nat}{v:List Qr}{f:Nat→Rat}(h:eA L v f)(i:Nat):FQ L (f i):=(h.at i).fq
theorem eA.mono{L M:Nat}{v:List Qr}{f:Nat→Rat}(h:eA L v f)(hl:L≤M):eA M v f:=⟨fun i hi=>(h.e i hi).mono hl,h.z,Nat.le_trans h.l1 hl⟩
theorem eA.nil{L:Nat}(h:1≤L):eA L [] (fun _=>0):=⟨fun i hi=>by simp at hi,fun _ _=>rfl,h⟩
theorem eA.get{L:Nat}{v:List Qr}{f:Nat→Rat}(h:eA L v f){i:Nat}(hi:i<v.length):∃q,v[i]? =some q∧mO L q (f i):=⟨v[i],by simp,h.e i hi⟩
theorem eA.congr{L:Nat}{v:List Qr}{f g:Nat→Rat}(h:eA L v f)(e:∀i,f i=g i):eA L v g:=by
 have:f=g:=funext e
 rw[←this];exact h
def HF(v:List Qr)(i:Nat):Rat:=qv (qat v i)
theorem MW{L:Nat}{v:List Qr}(h:∀q∈v,mO L q (qv q))(h1:1≤L):eA L v (HF v):=by
 refine⟨fun i hi=>?_,fun i hi=>?_,h1⟩
 ·have e:qat v i=v[i]:=by unfold qat;rw[List.getD_eq_getElem?_getD,List.getElem?_eq_getElem hi];rfl
  unfold HF
  rw[e];exact h _ (List.getElem_mem hi)
 ·unfold HF qat
  rw[List.getD_eq_getElem?_getD,List.getElem?_eq_none hi];decide
def c8(h:Nat→Rat):Nat→Rat
 |0=>0
 |n+1=>c8 h n+h n
theorem eD{h k:Nat→Rat}:∀{n:Nat},(∀i,i<n→h i=k i)→c8 h n=c8 k n
 |0,_=>rfl
 |n+1,e=>by rw[c8,c8,eD (fun i hi=>e i (by omega)),e n (by omega)]
theorem DW(h k:Nat→Rat):∀n,c8 (fun i=>h i+k i) n=c8 h n+c8 k n
 |0=>by simp only[c8];grind
 |n+1=>by rw[c8,c8,c8,DW h k n];grind
theorem DX(h k:Nat→Rat):∀n,c8 (fun i=>h i-k i) n=c8 h n-c8 k n
 |0=>by simp only[c8];grind
 |n+1=>by rw[c8,c8,c8,DX h k n];grind
theorem vE(c:Rat)(h:Nat→Rat):∀n,c8 (fun i=>c*h i) n=c*c8 h n
 |0=>by simp[c8]
 |n+1=>by rw[c8,c8,vE c h n];grind
theorem nx:∀n,c8 (fun _=>0) n=0
 |0=>rfl
 |n+1=>by rw[c8,nx n];grind
theorem lS{h:Nat→Rat}{n k:Nat}(hk:k<n)(hz:∀i,i<n→i≠k→h i=0):c8 h n=h k:=by
 induction n with
 |zero=>omega
 |succ n ih=>
  rw[c8]
  rcases Nat.lt_or_ge k n with q|q
  ·rw[ih q (fun i h1 h2=>hz i (by omega) h2),hz n (by omega) (by omega)];grind
  ·obtain rfl:k=n:=by omega
   rw[eD (k:=fun _=>0) (fun i hi=>hz i (by omega) (by omega)),nx];grind
end Go.Proofs.YtningmnklfpfjaaGreat
namespace Go.Proofs.YtningmnklfpfjaaGreat
open Go.Fw
theorem MX{α β:Type}(a:List α)(b:List β):max (a.length:Int) (b.length:Int)=((max a.length b.length:Nat):Int):=by omega
theorem UB{α β:Type}(a:List α)(b:List β):min (a.length:Int) (b.length:Int)=((min a.length b.length:Nat):Int):=by omega
theorem eA.gd{L:Nat}{v:List Qr}{f:Nat→Rat}(h:eA L v f)(k:Nat):mO L (v.getD k (⟨⟨false,[]⟩,⟨false,[]⟩⟩:Qr)) (f k):=h.at k
theorem HG{n k:Nat}{h:Nat→Rat}(hk:k<n):(vq k h++List.replicate (n-k) qz).set k (qn (h k))=vq (k+1) h++List.replicate (n-(k+1)) qz:=by
 rw[show n-k=(n-(k+1))+1 by omega,List.replicate_succ,List.set_append_right _ _ (by rw[cc];exact Nat.le_refl _),cc,Nat.sub_self,BY,List.append_assoc];rfl
theorem ZX{n c:Nat}{h:Nat→Rat}(hc:c≤n)(hz:∀i,c≤i→i<n→h i=0):vq c h++List.replicate (n-c) qz=vq n h:=by
 induction n with
 |zero=>rw[show c=0 by omega];rfl
 |succ n ih=>
  rcases Nat.lt_or_ge n c with q|q
  ·rw[show c=n+1 by omega,Nat.sub_self];simp
  ·rw[show n+1-c=(n-c)+1 by omega,List.replicate_succ',←List.append_assoc,ih q (fun i h1 h2=>hz i h1 (by omega)),BY,hz n q (by omega),UA]
theorem tD{n k:Nat}{h:Nat→Rat}(hk:k≤n):(vq k h++List.replicate (n-k) qz).length=n:=by rw[List.length_append,cc,List.length_replicate];omega
section ops
variable {K L M:Nat}{c:Qr}{a b:List Qr}{k:Rat}{f g:Nat→Rat}
theorem akl(ha:eA L a f)(hb:eA M b g)(h:L+M≤4000000000)(la:a.length≤1000000)(lb:b.length≤1000000):nj a b=some (vq (max a.length b.length) fun i=>f i-g i)∧eA (L+M+1) (vq (max a.length b.length) fun i=>f i-g i) (fun i=>f i-g i):=by
 refine⟨?_,pW (fun i _=>(ha.fq i).sub (hb.fq i)) (fun i hi=>?_) (by omega)⟩
 ·unfold nj jC
  refine bind_eq (a:=vq (max a.length b.length) (fun i=>f i-g i)) ?_ rfl
  refine bind_eq rfl<|bind_eq rfl<|bind_eq (congrArg some (MX a b))<|bind_eq (DP (by omega) (by omega)) ?_
  refine tj (fun k=>vq k (fun i=>f i-g i)) rfl (fun k hk=>?_) rfl
  have e3:=((ha.gd k).sub (hb.gd k) h).1
  generalize a.getD k (⟨⟨false,[]⟩,⟨false,[]⟩⟩:Qr)=q1 at e3⊢
  generalize b.getD k (⟨⟨false,[]⟩,⟨false,[]⟩⟩:Qr)=q2 at e3⊢
  obtain⟨⟨_,_⟩,⟨_,_⟩⟩:=q1
  obtain⟨⟨_,_⟩,⟨_,_⟩⟩:=q2
  obtain⟨q3,h3⟩:∃q,qn (f k-g k)=q:=⟨_,rfl⟩
  rw[BY,h3]
  rw[h3]at e3
  obtain⟨⟨_,_⟩,⟨_,_⟩⟩:=q3
  refine bind_eq rfl<|bind_eq rfl<|bind_eq e3<|bind_eq (DO (by omega) (by rw[cc];omega)) rfl
 ·rw[ha.z i (by omega),hb.z i (by omega)];grind
theorem Wk(hc:mO K c k)(ha:eA L a f)(hb:eA M b g)(h:K+L+M≤4000000000)(la:a.length≤1000000)(lb:b.length≤1000000):eO c a b=some (vq (max a.length b.length) fun i=>k*f i+g i)∧eA (K+L+M+1) (vq (max a.length b.length) fun i=>k*f i+g i) (fun i=>k*f i+g i):=by
 refine⟨?_,pW (fun i _=>(hc.fq.mul (ha.fq i)).add (hb.fq i)) (fun i hi=>?_) (by omega)⟩
 ·unfold eO gA
  obtain⟨⟨_,_⟩,⟨_,_⟩⟩:=c
  refine bind_eq (a:=vq (max a.length b.length) (fun i=>k*f i+g i)) ?_ rfl
  refine bind_eq rfl<|bind_eq rfl<|bind_eq (congrArg some (MX a b))<|bind_eq (DP (by omega) (by omega)) ?_
  refine tj (fun j=>vq j (fun i=>k*f i+g i)) rfl (fun j hj=>?_) rfl
  have e1:=hc.mul (ha.gd j) (by omega)
  have e3:=(e1.2.add (hb.gd j) (by omega)).1
  replace e1:=e1.1
  generalize a.getD j (⟨⟨false,[]⟩,⟨false,[]⟩⟩:Qr)=q1 at e1⊢
  generalize b.getD j (⟨⟨false,[]⟩,⟨false,[]⟩⟩:Qr)=q2 at e3⊢
  obtain⟨⟨_,_⟩,⟨_,_⟩⟩:=q1
  obtain⟨⟨_,_⟩,⟨_,_⟩⟩:=q2
  generalize qn (k*f j)=q4 at e1 e3
  obtain⟨⟨_,_⟩,⟨_,_⟩⟩:=q4
  obtain⟨q3,h3⟩:∃q,qn (k*f j+g j)=q:=⟨_,rfl⟩
  rw[BY,h3]
  rw[h3]at e3
  obtain⟨⟨_,_⟩,⟨_,_⟩⟩:=q3
  refine bind_eq rfl<|bind_eq rfl<|bind_eq (bind_eq e1<|bind_eq e3 rfl)<|bind_eq (DO (by omega) (by rw[cc];omega)) rfl
 ·rw[ha.z i (by omega),hb.z i (by omega)];grind
theorem ZY(hc:mO K c k)(ha:eA L a f)(h:K+L≤4000000000)(la:a.length≤1000000):nW c a=some (vq a.length fun i=>k*f i)∧eA (K+L) (vq a.length fun i=>k*f i) (fun i=>k*f i):=by
 have Wx:=ha.l1
 refine⟨?_,pW (fun i _=>hc.fq.mul (ha.fq i)) (fun i hi=>?_) (by omega)⟩
 ·unfold nW
  obtain⟨⟨_,_⟩,⟨_,_⟩⟩:=c
  refine bind_eq rfl<|bind_eq (pQ (by omega) (by omega))<|bind_eq rfl ?_
  refine aW (fun j=>((j:Int),vq j (fun i=>k*f i)++List.replicate (a.length-j) qz)) a.length (vq a.length fun i=>k*f i) rfl (fun j hj=>?_) ?_ rfl
  ·obtain⟨q,hq,rq⟩:=ha.get hj
   have e3:=(hc.mul rq h).1
   obtain⟨q3,h3⟩:∃q,qn (k*f j)=q:=⟨_,rfl⟩
   have h4:=HG (h:=fun i=>k*f i) hj
   rw[h3]at e3 h4
   obtain⟨⟨_,_⟩,⟨_,_⟩⟩:=q
   obtain⟨⟨_,_⟩,⟨_,_⟩⟩:=q3
   refine bind_eq rfl<|aV (decide_eq_true (by omega))<|bind_eq (aP hq)<|bind_eq e3<|bind_eq (bn (by rw[tD (by omega)];exact hj))<|bind_eq (ep (by rw[tD (by omega)];exact hj))<|bind_eq rfl ?_
   rw[bk (by omega),h4]
  ·refine bind_eq rfl<|aE (decide_eq_false (by omega)) ?_
   simp
 ·rw[ha.z i hi];grind
end ops
end Go.Proofs.YtningmnklfpfjaaGreat
namespace Go.Proofs.YtningmnklfpfjaaGreat
open Go.Fw
def pX(f g:Nat→Rat):Nat→Int
 |0=>0
 |n+1=>if pX f g n≠0 then pX f g n else qi (f n) (g n)
theorem DY{f g:Nat→Rat}:∀{n:Nat},pX f g n=0↔∀i,i<n→f i=g i
 |0=>by simp[pX]
 |n+1=>by
  rw[pX]
  by_cases h:pX f g n=0
  ·rw[if_neg (by simpa using h),R8]
   have:=DY.1 h
   refine⟨fun e i hi=>?_,fun e=>e n (by omega)⟩
   rcases Nat.lt_or_ge i n with q|q
   ·exact this i q
   ·obtain rfl:i=n:=by omega
    exact e
  ·rw[if_pos h]
   refine⟨fun e=>absurd e h,fun e=>absurd (DY.2 (fun i hi=>e i (by omega))) h⟩
section ops
variable {K L M:Nat}{c:Qr}{a b:List Qr}{k:Rat}{f g:Nat→Rat}
theorem wm(q:Qr):(⟨⟨(q.num.neg,q.num.w,q.den.neg,q.den.w).1,(q.num.neg,q.num.w,q.den.neg,q.den.w).2.1⟩,⟨(q.num.neg,q.num.w,q.den.neg,q.den.w).2.2.1,(q.num.neg,q.num.w,q.den.neg,q.den.w).2.2.2⟩⟩:Qr)=q:=by cases q;rfl
theorem aee(ha:eA L a f)(hb:eA M b g)(h:L+M≤4000000000):jD a b=some (pX f g (max a.length b.length)):=by
 unfold jD
 generalize max a.length b.length=n
 refine bind_eq (a:=if pX f g n≠0 then .inr (pX f g n)else .inl ()) ?_ ?_
 ·induction n with
  |zero=>rfl
  |succ n ih=>
   rw[ou]
   refine bind_eq ih ?_
   by_cases h0:pX f g n=0
   ·have hl:pX f g (n+1)=qi (f n) (g n):=by rw[pX,if_neg (by simpa using h0)]
    rw[hl,if_neg (show ¬pX f g n≠0 by simpa using h0)]
    have e1:=(ha.gd n).cmp (hb.gd n) h
    generalize a.getD n (⟨⟨false,[]⟩,⟨false,[]⟩⟩:Qr)=q1 at e1⊢
    generalize b.getD n (⟨⟨false,[]⟩,⟨false,[]⟩⟩:Qr)=q2 at e1⊢
    obtain⟨⟨_,_⟩,⟨_,_⟩⟩:=q1
    obtain⟨⟨_,_⟩,⟨_,_⟩⟩:=q2
    refine bind_eq rfl<|bind_eq rfl<|bind_eq e1<|bind_eq rfl ?_
    by_cases h1:qi (f n) (g n)=0
    ·rw[if_neg (by simpa using h1)];exact aE (decide_eq_false (by simpa using h1)) rfl
    ·rw[if_pos h1];exact aV (decide_eq_true h1) rfl
   ·have hl:pX f g (n+1)=pX f g n:=by rw[pX,if_pos h0]
    rw[hl,if_pos h0]
 ·by_cases h0:pX f g n=0
  ·rw[if_neg (by simpa using h0),h0]
  ·rw[if_pos h0]
theorem aef(ha:eA L a f)(h:L+1≤4000000000):pD a=some (pX f (fun _=>0) a.length):=by
 unfold pD
 refine bind_eq (aee ha (eA.nil (L:=1) (by omega)) h) ?_
 simp
theorem veq(ha:eA L a f)(hb:eA M b g)(h:L+M≤4000000000):cK a b=some (decide (∀i,i<max a.length b.length→f i=g i)):=by
 unfold cK
 refine bind_eq (aee ha hb h)<|bind_eq rfl ?_
 congr 1
 rw[decide_eq_decide];exact DY
theorem aeg(ha:eA L a f)(hb:eA M b g)(h:L+M≤4000000000)(e:∀i,f i=g i):cK a b=some true:=by
 rw[veq ha hb h,decide_eq_true (fun i _=>e i)]
end ops
end Go.Proofs.YtningmnklfpfjaaGreat
namespace Go.Proofs.YtningmnklfpfjaaGreat
open Go.Fw
theorem tm{a:Nat}:Int.tmod (a:Int) 65536=((a%65536:Nat):Int):=by
 rw[Int.tmod_eq_emod_of_nonneg (by omega)];omega
end Go.Proofs.YtningmnklfpfjaaGreat
namespace Go.Proofs.YtningmnklfpfjaaGreat
open Go.Fw
theorem aZ{J R:Type}{f:J→Option R}{g:(J→Option R)→Option R}{r:Option R}(h:g f=r):b9 f g=r:=h
section ops
variable {K L M:Nat}{c:Qr}{a b:List Qr}{k:Rat}{f g:Nat→Rat}
theorem J4(ha:eA L a f)(h:L≤10000000000)(m:Nat)(hm:m≤65536){body:Int×List Qr→Option ((Int×List Qr)⊕List Qr)}
  (hb:∀s,body s=(some (decide (s.1<((min a.length m:Nat):Int)))).bind fun fF=>(bif fF then(cz a s.1).bind fun q=>(cj q).bind fun w=>(kQ s.2 s.1).bind fun lq=>(stM s.2 lq w).bind fun yC=>(some (IntKind.i64.wrap (s.1+1))).bind fun oM=>some (.inl (oM,yC))else some (.inr s.2))):
  (bQ body (0,List.replicate m qz)).bind (fun r=>some r)=some (vq m f):=by
 refine aW (fun j=>((j:Int),vq j f++List.replicate (m-j) qz)) (min a.length m) (vq m f) rfl (fun j hj=>?_) ?_ rfl
 ·obtain⟨q,hq,rq⟩:=ha.get (show j<a.length by omega)
  rw[hb]
  refine bind_eq rfl<|aV (decide_eq_true (by show(j:Int)<_;omega))<|bind_eq (aP hq)<|bind_eq (rq.canon h).1<|bind_eq (bn (by rw[tD (by omega)];omega))<|bind_eq (ep (by rw[tD (by omega)];omega))<|bind_eq rfl ?_
  rw[HG (by omega),bk (by omega)]
 ·rw[hb]
  refine bind_eq rfl<|aE (decide_eq_false (by show ¬((min a.length m:Nat):Int)<_;omega)) ?_
  rw[ZX (by omega) (fun i h1 h2=>ha.z i (by omega))]
theorem HH(ha:eA L a f)(h:L≤10000000000)(la:a.length≤1000000)(n:Int):fY a n=some (vq (min n 65536).toNat f):=by
 unfold fY
 refine bind_eq rfl ?_
 by_cases hn:n<1
 ·refine aV (decide_eq_true hn) ?_
  rw[show(min n 65536).toNat=0 by omega];rfl
 ·refine aE (decide_eq_false hn) ?_
  obtain⟨m,hm⟩:∃m:Nat,min n 65536=(m:Int):=⟨(min n 65536).toNat,by omega⟩
  rw[hm]
  refine bind_eq rfl<|bind_eq (pQ (by omega) (by omega))<|bind_eq rfl<|bind_eq rfl<|bind_eq (congrArg some (UB a _)) ?_
  rw[List.length_replicate]
  refine J4 ha h m (by omega) (fun s=>?_)
  obtain⟨i,l⟩:=s
  rfl
theorem zx{l:List Int}(hl:∀x∈l,fJ x)(h:l.length≤1000000):cG l=some (vq l.length fun i=>((l.getD i 0:Int):Rat))∧eA 2 (vq l.length fun i=>((l.getD i 0:Int):Rat)) (fun i=>((l.getD i 0:Int):Rat)):=by
 have hx:∀i,fJ (l.getD i 0):=fun i=>by
  by_cases hi:i<l.length
  ·rw[List.getD_eq_getElem?_getD,List.getElem?_eq_getElem hi];exact hl _ (List.getElem_mem hi)
  ·rw[List.getD_eq_getElem?_getD,List.getElem?_eq_none (by omega)];decide
 refine⟨?_,pW (fun i _=>(oT (hx i)).2.fq) (fun i hi=>?_) (by decide)⟩
 ·unfold cG
  refine bind_eq rfl<|bind_eq (pQ (by omega) (by omega))<|bind_eq rfl ?_
  refine aW (fun j=>((j:Int),vq j (fun i=>((l.getD i 0:Int):Rat))++List.replicate (l.length-j) qz)) l.length (vq l.length fun i=>((l.getD i 0:Int):Rat)) rfl (fun j hj=>?_) ?_ rfl
  ·have e3:=(oT (hx j)).1
   have h4:=HG (h:=fun i=>((l.getD i 0:Int):Rat)) hj
   obtain⟨q3,h3⟩:∃q,qn ((l.getD j 0:Int):Rat)=q:=⟨_,rfl⟩
   rw[h3]at e3 h4
   obtain⟨⟨_,_⟩,⟨_,_⟩⟩:=q3
   refine bind_eq rfl<|aV (decide_eq_true (by omega))<|bind_eq (aP (jz hj))<|bind_eq e3<|bind_eq (bn (by rw[tD (by omega)];exact hj))<|bind_eq (ep (by rw[tD (by omega)];exact hj))<|bind_eq rfl ?_
   rw[bk (by omega),h4]
  ·refine bind_eq rfl<|aE (decide_eq_false (by omega)) ?_
   simp
 ·show((l.getD i 0:Int):Rat)=0
  rw[iX hi];rfl
end ops
end Go.Proofs.YtningmnklfpfjaaGreat
namespace Go.Proofs.YtningmnklfpfjaaGreat
open Go.Fw
theorem R9(l:List Qr)(hl:l.length≤1000000):∃b,mD l=some b∧(b=false→∀q∈l,q.num.w.length≤6∧q.den.w.length≤6):=by
 unfold mD
 simp only[bV]
 refine mH (fun y=>∃i:Nat,y=(i:Int)∧i≤l.length∧∀z∈l.take i,z.num.w.length≤6∧z.den.w.length≤6) (fun e=>(∃c,e=.inl c∧∀z∈l,z.num.w.length≤6∧z.den.w.length≤6)∨e=.inr true) (fun y=>l.length-y.toNat) ?_ ⟨0,rfl,by omega,by simp⟩ ?_
 ·rintro _ ⟨i,rfl,hi,ht⟩
  by_cases hlt:i<l.length
  ·have g:l[i]? =some l[i]:=by simp
   obtain⟨q,hq⟩:∃q,l[i]=q:=⟨_,rfl⟩
   rw[hq]at g
   obtain⟨z,w⟩:=q
   obtain⟨b,hb,-⟩:=Ux [z,w] (by simp)
   rw[show decide ((i:Int)<(l.length:Int))=true by simp[hlt],jQ]
   simp only[aP g,bV,zeta',b9,hb]
   cases b
   ·rw[jX,bV]
    by_cases h1:6<z.w.length
    ·right
     rw[decide_eq_true (by omega),jQ,bV,jQ]
     exact⟨_,rfl,.inr rfl⟩
    ·rw[decide_eq_false (by omega),jX,bV]
     by_cases h2:6<w.w.length
     ·right
      rw[decide_eq_true (by omega),jQ]
      exact⟨_,rfl,.inr rfl⟩
     ·left
      rw[decide_eq_false (by omega),jX,bk (by omega)]
      refine⟨_,rfl,⟨i+1,rfl,hlt,?_⟩,by omega⟩
      rw[List.take_add_one,g]
      intro u hu
      rcases List.mem_append.1 hu with h|h
      ·exact ht u h
      ·simp at h;rw[h];exact⟨by simp only[];omega,by simp only[];omega⟩
   ·right
    exact⟨_,rfl,.inr rfl⟩
  ·right
   rw[show decide ((i:Int)<(l.length:Int))=false by simp;omega,jX]
   rw[List.take_of_length_le (by omega)]at ht
   exact⟨_,rfl,.inl ⟨_,rfl,ht⟩⟩
 ·rintro e (⟨c,rfl,he⟩|rfl)
  ·exact⟨false,rfl,fun _=>he⟩
  ·exact⟨true,rfl,fun h=>by cases h⟩
abbrev OkQ(q:Qr):Prop:=OkZ q.num∧OkZ q.den
theorem Sa{q:Qr}{L:Nat}(h:OkQ q)(h1:q.num.w.length≤L)(h2:q.den.w.length≤L)(hL:1≤L):mO L q (qv q):=⟨h.1.2.2,h.2.2.2,h1,h2,hL,rfl⟩
end Go.Proofs.YtningmnklfpfjaaGreat
namespace Go.Proofs.YtningmnklfpfjaaGreat
open Go.Fw
theorem dT{p:Prop}[Decidable p](h:p):(some (decide p):Option Bool)=some true:=congrArg some (decide_eq_true h)
theorem dF{p:Prop}[Decidable p](h:¬p):(some (decide p):Option Bool)=some false:=congrArg some (decide_eq_false h)
theorem Sb{β:Type}{x:Option Bool}{f:Bool→Option β}{r:Option β}{y:Option Bool}(h:x=some true)(hf:f true=r):(bif true then x else y).bind f=r:=by rw[jQ,h];exact hf
theorem HT{β:Type}{b c:Bool}{x:Option Bool}{f:Bool→Option β}{r:Option β}(h:b=false→x=some c)(hf:f (b||c)=r):(bif b then some true else x).bind f=r:=by
 cases b
 ·rw[jX,h rfl];exact hf
 ·rw[jQ];exact hf
theorem UC{β:Type}{b c:Bool}{x:Option Bool}{f:Bool→Option β}{r:Option β}(h:b=true→x=some c)(hf:f (b&&c)=r):(bif b then x else some false).bind f=r:=by
 cases b
 ·rw[jX];exact hf
 ·rw[jQ,h rfl];exact hf
section ops
variable {K L M:Nat}{a b c:Qr}{x y z:Rat}
end ops
theorem eA.val{L:Nat}{v:List Qr}{f:Nat→Rat}(h:eA L v f)(i:Nat):f i=HF v i:=(h.at i).v.symm
theorem eA.of{L n:Nat}{v:List Qr}{f:Nat→Rat}(hn:v.length=n)(h:∀i q,v[i]? =some q→mO L q (f i))(h1:1≤L):eA L v (fun i=>if i<n then f i else 0):=by
 refine⟨fun i hi=>?_,fun i hi=>?_,h1⟩
 ·show mO L v[i] (if i<n then f i else 0)
  rw[if_pos (by omega)];exact h i _ (List.getElem?_eq_getElem hi)
 ·show(if i<n then f i else 0)=0
  rw[if_neg (by omega)]
abbrev szZ(z:Zr):Nat:=1+((z.w.map fun _=>1).sum+1)+1
abbrev szQ(q:Qr):Nat:=szZ q.num+szZ q.den+1
abbrev szV(v:List Qr):Nat:=(v.map fun x=>szQ x).sum+1
abbrev szM(m:List (List Qr)):Nat:=(m.map fun x=>szV x).sum+1
abbrev OkV(v:List Qr):Prop:=v.length≤9223372036854775807∧∀q∈v,OkQ q
end Go.Proofs.YtningmnklfpfjaaGreat
namespace Go.Proofs.YtningmnklfpfjaaGreat
open Go.Fw
def vF{α:Type}(f:Nat→α)(n k:Nat)(z:α):List α:=(List.range k).map f++List.replicate (n-k) z
theorem N6{α:Type}{f:Nat→α}{n k:Nat}{z:α}(hk:k≤n):(vF f n k z).length=n:=by simp[vF];omega
theorem LN{α:Type}{f:Nat→α}{n:Nat}{z:α}:vF f n 0 z=List.replicate n z:=by simp[vF]
theorem N7{α:Type}{f:Nat→α}{n:Nat}{z:α}:vF f n n z=(List.range n).map f:=by simp[vF]
theorem N8{α:Type}{f:Nat→α}{n k:Nat}{z:α}(hk:k<n):(vF f n k z).set k (f k)=vF f n (k+1) z:=by
 unfold vF
 rw[show n-k=(n-(k+1))+1 by omega,List.replicate_succ,List.set_append_right _ _ (by simp),List.length_map,List.length_range,Nat.sub_self,List.range_succ,List.map_append,List.append_assoc];rfl
def mq(n:Nat)(ln:Nat→Nat)(F:Nat→Nat→Rat):List (List Qr):=(List.range n).map fun i=>vq (ln i) (F i)
theorem c9(n:Nat)(ln:Nat→Nat)(F:Nat→Nat→Rat):(mq n ln F).length=n:=by simp[mq]
theorem iz{n i:Nat}{ln:Nat→Nat}{F:Nat→Nat→Rat}(hi:i<n):(mq n ln F)[i]? =some (vq (ln i) (F i)):=by simp[mq,hi]
theorem mN{n:Nat}{ln ln':Nat→Nat}{F G:Nat→Nat→Rat}(h:∀i,i<n→ln i=ln' i∧∀k,k<ln i→F i k=G i k):mq n ln F=mq n ln' G:=by
 unfold mq
 apply List.map_congr_left
 intro i hi
 obtain⟨h1,h2⟩:=h i (List.mem_range.1 hi)
 rw[ig h2,h1]
structure pY (L:Nat) (m:List (List Qr)) (F:Nat→Nat→Rat):Prop where
 e:∀i v,m[i]? =some v→eA L v (F i)
 z:∀i,m.length≤i→∀k,F i k=0
 l1:1≤L
theorem pY.row{L:Nat}{m:List (List Qr)}{F:Nat→Nat→Rat}(h:pY L m F)(i:Nat):eA L (m.getD i []) (F i):=by
 by_cases hi:i<m.length
 ·rw[List.getD_eq_getElem?_getD,List.getElem?_eq_getElem hi];exact h.e i _ (List.getElem?_eq_getElem hi)
 ·rw[List.getD_eq_getElem?_getD,List.getElem?_eq_none (by omega)]
  exact(eA.nil h.l1).congr (fun k=>(h.z i (by omega) k).symm)
theorem pY.mono{L M:Nat}{m:List (List Qr)}{F:Nat→Nat→Rat}(h:pY L m F)(hl:L≤M):pY M m F:=⟨fun i v e=>(h.e i v e).mono hl,h.z,Nat.le_trans h.l1 hl⟩
theorem Sc{L n:Nat}{ln:Nat→Nat}{F:Nat→Nat→Rat}(hf:∀i,i<n→∀k,k<ln i→FQ L (F i k))(hz:∀i,i<n→∀k,ln i≤k→F i k=0)(hz':∀i,n≤i→∀k,F i k=0)(h1:1≤L):pY L (mq n ln F) F:=by
 refine⟨fun i v e=>?_,fun i hi=>hz' i (by rwa[c9]at hi),h1⟩
 have hi:i<n:=by have:=(List.getElem?_eq_some_iff.1 e).1;rwa[c9]at this
 rw[iz hi]at e
 cases e
 exact pW (hf i hi) (hz i hi) h1
def LO(m:List (List Qr))(i:Nat):Nat→Rat:=HF (m.getD i [])
theorem UD{L:Nat}{m:List (List Qr)}(h:∀v∈m,eA L v (HF v))(h1:1≤L):pY L m (LO m):=by
 refine⟨fun i v e=>?_,fun i hi k=>?_,h1⟩
 ·have:LO m i=HF v:=by unfold LO;rw[List.getD_eq_getElem?_getD,e];rfl
  rw[this];exact h v (List.mem_of_getElem? e)
 ·unfold LO
  rw[List.getD_eq_getElem?_getD,List.getElem?_eq_none hi]
  exact(eA.nil (L:=1) (by decide)).val k |>.symm
theorem mkm{n:Nat}(h:n≤1000000):D4 24 ((n:Nat):Int) ([]:List Qr)=some (List.replicate n []):=pQ (by decide) (by omega)
theorem Se(n:Nat)(h:n≤1000000):D4 64 ((n:Nat):Int) (⟨⟨false,[]⟩,⟨false,[]⟩⟩:Qr)=some (List.replicate n ⟨⟨false,[]⟩,⟨false,[]⟩⟩):=pQ (by omega) (by omega)
theorem DZ{E:Type}{body:Nat→Unit→Option (Unit⊕E)}{n:Nat}{p:Nat→Prop}[DecidablePred p]{e:E}(h:∀k,k<n→body k ()=some (if p k then .inl ()else .inr e)):ou body n ()=some (if ∀k,k<n→p k then .inl ()else .inr e):=by
 induction n with
 |zero=>rw[ou,if_pos (fun k hk=>by omega)]
 |succ n ih=>
  rw[ou,ih (fun k hk=>h k (by omega))]
  by_cases h1:∀k,k<n→p k
  ·rw[if_pos h1]
   show body n ()=_
   rw[h n (by omega)]
   by_cases h2:p n
   ·rw[if_pos h2,if_pos]
    intro k hk
    rcases Nat.lt_or_ge k n with q|q
    ·exact h1 k q
    ·obtain rfl:k=n:=by omega
     exact h2
   ·rw[if_neg h2,if_neg (fun q=>h2 (q n (by omega)))]
  ·rw[if_neg h1,if_neg (fun q=>h1 (fun k hk=>q k (by omega)))];rfl
section ops
variable {K L M:Nat}{c:Qr}{k:Rat}{a b:List (List Qr)}{F G:Nat→Nat→Rat}{x:List Qr}{f:Nat→Rat}
theorem UE(a:List (List Qr))(i:Nat):nk a (i:Int)=some (a.getD i []):=by
 unfold nk
 refine aZ<|bind_eq (dF (by omega)) ?_
 by_cases h:i<a.length
 ·exact bind_eq (a:=false) (aE rfl<|bind_eq rfl<|bind_eq (dF (by omega)) rfl)<|aE rfl<|bind_eq (aP (jz h)) rfl
 ·rw[iX (by omega)]
  exact bind_eq (a:=true) (aE rfl<|bind_eq rfl<|bind_eq (dT (by omega)) rfl)<|aV rfl rfl
def r9(m:List (List Qr)):Nat:=m.foldl (fun n v=>max n v.length) 0
theorem si{m:List (List Qr)}{n:Nat}:r9 m≤n↔∀v∈m,v.length≤n:=by
 have key:∀(l:List (List Qr)) (s:Nat),l.foldl (fun n v=>max n v.length) s≤n↔s≤n∧∀v∈l,v.length≤n:=by
  intro l
  induction l with
  |nil=>intro s;simp
  |cons v l ih=>
   intro s
   rw[List.foldl_cons,ih];simp only[List.mem_cons,forall_eq_or_imp]
   constructor
   ·rintro⟨h1,h2⟩;exact⟨by omega,by omega,h2⟩
   ·rintro⟨h1,h2,h3⟩;exact⟨by omega,h3⟩
 unfold r9
 rw[key];simp
theorem Wm(m:List (List Qr))(h:m.length≤9223372036854775806):nm m=some (r9 m:Int):=by
 unfold nm
 refine bind_eq rfl ?_
 refine aW (fun j=>(((m.take j).foldl (fun n v=>max n v.length) 0:Nat),(j:Int))) m.length ((r9 m:Nat):Int) (by simp) (fun j hj=>?_) ?_ rfl
 ·refine bind_eq (dT (by omega))<|aV rfl<|bind_eq (aP (List.getElem?_eq_getElem hj))<|bind_eq rfl<|bind_eq rfl<|bind_eq (congrArg some (bk (by omega))) ?_
  rw[List.take_add_one,List.getElem?_eq_getElem hj,List.foldl_append]
  simp only[Option.toList_some,List.foldl_cons,List.foldl_nil]
  congr 3
  omega
 ·refine bind_eq (dF (by omega))<|aE rfl ?_
  rw[List.take_length];rfl
theorem ZZ(h:pY L a F)(hL:L≤10000000000)(i j:Nat):uX a (i:Int) (j:Int)=some (qn (F i j)):=by
 unfold uX
 refine bind_eq (UE a i)<|aZ<|bind_eq (dF (by omega)) ?_
 have hr:=h.row i
 generalize a.getD i []=v at hr
 by_cases hj:j<v.length
 ·obtain⟨q,e1,r1⟩:=hr.get hj
  have e2:=(r1.canon hL).1
  exact bind_eq (a:=false) (aE rfl<|bind_eq rfl<|bind_eq (dF (by omega)) rfl)<|aE rfl<|bind_eq (aP e1)<|bind_eq e2 rfl
 ·rw[hr.z j (by omega)]
  exact bind_eq (a:=true) (aE rfl<|bind_eq rfl<|bind_eq (dT (by omega)) rfl)<|aV rfl rfl
theorem Z0(ha:pY L a F)(hb:pY M b G)(h:L+M≤4000000000):eP a b=some (decide (∀i,i<max a.length b.length→∀j,j<max (a.getD i []).length (b.getD i []).length→F i j=G i j)):=by
 unfold eP
 refine bind_eq (DZ (p:=fun i=>∀j,j<max (a.getD i []).length (b.getD i []).length→F i j=G i j) (e:=false) (fun i hi=>?_)) ?_
 ·have e1:=veq (ha.row i) (hb.row i) h
  refine bind_eq rfl<|bind_eq rfl<|bind_eq e1<|bind_eq rfl ?_
  by_cases q:∀j,j<max (a.getD i []).length (b.getD i []).length→F i j=G i j
  ·rw[if_pos q];exact aE (by rw[decide_eq_true q];rfl) rfl
  ·rw[if_neg q];exact aV (by rw[decide_eq_false q];rfl) rfl
 ·by_cases q:∀i,i<max a.length b.length→∀j,j<max (a.getD i []).length (b.getD i []).length→F i j=G i j
  ·rw[if_pos q,decide_eq_true q]
  ·rw[if_neg q,decide_eq_false q]
theorem UF(ha:pY L a F)(hb:pY M b G)(h:L+M≤4000000000)(e:∀i j,F i j=G i j):eP a b=some true:=by
 rw[Z0 ha hb h,decide_eq_true (fun i _ j _=>e i j)]
theorem Wn{l:List (List Int)}(hl:∀v∈l,v.length≤1000∧∀y∈v,fJ y)(hn:l.length≤1000):iO l=some (mq l.length (fun i=>(l.getD i []).length) (fun i j=>(((l.getD i []).getD j 0:Int):Rat)))∧pY 2 (mq l.length (fun i=>(l.getD i []).length) (fun i j=>(((l.getD i []).getD j 0:Int):Rat))) (fun i j=>(((l.getD i []).getD j 0:Int):Rat)):=by
 have hw:∀i,(l.getD i []).length≤1000∧∀y∈l.getD i [],fJ y:=fun i=>by
  by_cases hi:i<l.length
  ·exact hl _ (List.mem_of_getElem? (jz (d:=[]) hi))
  ·rw[iX (by omega)];simp
 constructor
 ·unfold iO
  refine bind_eq rfl<|bind_eq (mkm (by omega))<|bind_eq rfl ?_
  refine aW (fun j=>((j:Int),vF (fun i=>vq (l.getD i []).length (fun j=>(((l.getD i []).getD j 0:Int):Rat))) l.length j [])) l.length (mq l.length (fun i=>(l.getD i []).length) (fun i j=>(((l.getD i []).getD j 0:Int):Rat))) (by rw[LN];rfl) (fun j hj=>?_) ?_ rfl
  ·have e1:=(zx (hw j).2 (by have:=(hw j).1;omega)).1
   have hl:(vF (fun i=>vq (l.getD i []).length (fun j=>(((l.getD i []).getD j 0:Int):Rat))) l.length j []).length=l.length:=N6 (by omega)
   refine bind_eq (dT (by omega))<|aV rfl<|bind_eq (aP (jz (d:=[]) hj))<|bind_eq e1<|bind_eq (bn (show j<_ by rw[hl];exact hj))<|bind_eq (ep (show j<_ by rw[hl];exact hj))<|bind_eq (congrArg some (bk (by omega))) ?_
   rw[←N8 hj]
  ·refine bind_eq (dF (by omega))<|aE rfl ?_
   rw[N7];rfl
 ·refine Sc (fun i hi j hj=>(zx (hw i).2 (by have:=(hw i).1;omega)).2.fq j) (fun i hi j hj=>by rw[iX hj];rfl) (fun i hi j=>by rw[iX hi];rfl) (by decide)
end ops
end Go.Proofs.YtningmnklfpfjaaGreat
namespace Go.Proofs.YtningmnklfpfjaaGreat
open Go.Fw
theorem J5{α:Type}{b:Bool}{x y r:α}(ht:b=true→x=r)(hf:b=false→y=r):(bif b then x else y)=r:=by
 cases b
 ·rw[jX];exact hf rfl
 ·rw[jQ];exact ht rfl
theorem wj{E:Type}{body:Int→Option (Int⊕(Unit⊕E))}{n:Nat}{p:Nat→Prop}[DecidablePred p]{e:E}(h:∀k:Nat,k<n→body (k:Int)=some (if p k then .inl ((k+1:Nat):Int)else .inr (.inr e)))(hn:body (n:Int)=some (.inr (.inl ()))):
  bQ body 0=some (if ∀k,k<n→p k then .inl ()else .inr e):=by
 obtain⟨r,h1,h2⟩:=rD (body:=body) (s:=0) (fun s=>∃k:Nat,s=(k:Int)∧k≤n∧∀i,i<k→p i) (fun r=>(r=.inl ()∧∀k,k<n→p k)∨(r=.inr e∧¬∀k,k<n→p k)) (fun s=>n-s.toNat) (by
  rintro _ ⟨k,rfl,hk,hp⟩
  by_cases hlt:k<n
  ·by_cases hpk:p k
   ·refine .inl ⟨_,by rw[h k hlt,if_pos hpk],⟨k+1,rfl,hlt,fun i hi=>?_⟩,by simp only[Int.toNat_natCast];omega⟩
    rcases Nat.lt_or_ge i k with q|q
    ·exact hp i q
    ·obtain rfl:i=k:=by omega
     exact hpk
   ·exact .inr ⟨_,by rw[h k hlt,if_neg hpk],.inr ⟨rfl,fun q=>hpk (q k hlt)⟩⟩
  ·obtain rfl:k=n:=by omega
   exact .inr ⟨_,hn,.inl ⟨rfl,hp⟩⟩) ⟨0,rfl,by omega,fun i hi=>by omega⟩
 rw[h1]
 rcases h2 with⟨rfl,h2⟩|⟨rfl,h2⟩
 ·rw[if_pos h2]
 ·rw[if_neg h2]
def UG(n:Nat)(f:Nat→Rat)(i:Nat):Rat:=if i<n then f i else 0
theorem zy{n i:Nat}{f:Nat→Rat}(h:i<n):UG n f i=f i:=if_pos h
theorem UH{n i:Nat}{f:Nat→Rat}(h:n≤i):UG n f i=0:=if_neg (by omega)
theorem Z1(n:Nat)(f:Nat→Rat):vq n f=vq n (UG n f):=ig (fun i hi=>(zy hi).symm)
theorem HI{L n:Nat}{f:Nat→Rat}(h:∀i,i<n→FQ L (f i))(h1:1≤L):eA L (vq n f) (UG n f):=by
 rw[Z1]
 exact pW (fun i hi=>by rw[zy hi];exact h i hi) (fun i hi=>UH hi) h1
def HU(n:Int)(ob rw:List (List Qr))(bd:List Qr):Prop:=0≤n∧n≤64∧1≤ob.length∧ob.length≤4∧rw.length≤128∧bd.length=rw.length∧(r9 ob:Int)≤n∧(r9 rw:Int)≤n
instance(n:Int)(ob rw:List (List Qr))(bd:List Qr):Decidable (HU n ob rw bd):=by unfold HU;exact inferInstance
theorem D0{n:Int}{ob rw:List (List Qr)}{bd:List Qr}(h1:ob.length≤9223372036854775806)(h2:rw.length≤9223372036854775806):iu ⟨n,ob,rw,bd⟩=some (decide (HU n ob rw bd)):=by
 unfold iu oR
 refine bind_eq (bind_eq rfl<|bind_eq rfl<|bind_eq rfl rfl)<|aZ<|bind_eq rfl<|HT (fun _=>bind_eq rfl rfl)<|HT (fun _=>bind_eq rfl rfl)<|HT (fun _=>bind_eq rfl rfl)<|J5 (fun h=>?_) (fun h=>aZ<|bind_eq rfl<|HT (fun _=>bind_eq rfl rfl)<|J5 (fun h'=>?_) (fun h'=>aZ<|bind_eq (Wm ob h1)<|bind_eq rfl<|UC (fun _=>bind_eq (Wm rw h2)<|bind_eq rfl rfl) ?_))
 ·congr 1;symm;rw[decide_eq_false_iff_not]
  simp only[Bool.or_eq_true,decide_eq_true_eq]at h
  unfold HU;omega
 ·congr 1;symm;rw[decide_eq_false_iff_not]
  simp only[Bool.or_eq_true,decide_eq_true_eq]at h'
  unfold HU;omega
 ·congr 1
  simp only[Bool.or_eq_false_iff,decide_eq_false_iff_not]at h h'
  rw[←Bool.decide_and,decide_eq_decide]
  unfold HU;omega
section lps
variable {K L M N:Nat}{n:Int}{ob rw:List (List Qr)}{bd x y:List Qr}{O F:Nat→Nat→Rat}{g f:Nat→Rat}
end lps
end Go.Proofs.YtningmnklfpfjaaGreat
namespace Go.Proofs.YtningmnklfpfjaaGreat
open Go.Fw
def bq(m:Nat)(b:Nat→Nat):List Int:=(List.range m).map fun j=>((b j:Nat):Int)
theorem iU(m:Nat)(b:Nat→Nat):(bq m b).length=m:=by simp[bq]
theorem oE{m j:Nat}{b:Nat→Nat}(h:j<m):(bq m b)[j]? =some ((b j:Nat):Int):=by simp[bq,h]
theorem UI(m:Nat)(b:Nat→Nat):bq (m+1) b=bq m b++[((b m:Nat):Int)]:=by simp[bq,List.range_succ]
theorem LP{m r c:Nat}{b:Nat→Nat}(hr:r<m):(bq m b).set r (c:Int)=bq m (fun j=>if j=r then c else b j):=by
 apply List.ext_getElem?
 intro j
 rw[List.getElem?_set,iU]
 by_cases hj:j<m
 ·rw[oE hj]
  by_cases e:r=j
  ·subst e;rw[if_pos rfl,if_pos hr,oE hr,if_pos rfl]
  ·rw[if_neg e,oE hj,if_neg (fun q=>e q.symm)]
 ·rw[List.getElem?_eq_none (l:=bq m _) (by rw[iU];omega),List.getElem?_eq_none (l:=bq m _) (by rw[iU];omega)]
  by_cases e:r=j
  ·rw[if_pos e,if_neg (by omega)]
  ·rw[if_neg e]
abbrev HJ(n m p:Nat)(O F:Nat→Nat→Rat)(b:Nat→Nat):Tb:=⟨true,(n:Int),mq p (fun _=>n) O,bq m b,mq m (fun _=>n+m+1) F⟩
structure ny (L n m p:Nat) (O F:Nat→Nat→Rat) (b:Nat→Nat):Prop where
 f:∀i,i<m→∀k,FQ L (F i k)
 o:∀i,i<p→∀k,FQ L (O i k)
 z:∀i,i<m→∀k,n+m+1≤k→F i k=0
 l1:1≤L
 hn:n≤64
 hm:m≤128
 hp:p≤4
 hb:∀j,j<m→b j<n+m
section Z2
variable {L n m p:Nat}{O F:Nat→Nat→Rat}{b:Nat→Nat}
theorem ij(n m p:Nat)(O F:Nat→Nat→Rat)(b:Nat→Nat):bK (HJ n m p O F b)=some false:=by
 unfold bK
 exact aZ<|bind_eq (a:=false) (aE rfl<|bind_eq rfl rfl) rfl
theorem ye(hn:n≤64)(hm:m≤128):dr (HJ n m p O F b)=some ((n+m:Nat):Int):=by
 unfold dr
 refine bind_eq rfl<|bind_eq (congrArg some ?_) rfl
 rw[c9,cx (by omega) (by omega)];omega
theorem UJ{i:Nat}(h:ny L n m p O F b)(hi:i<m):eA L (vq (n+m+1) (F i)) (F i):=pW (fun k _=>h.f i hi k) (fun k hk=>h.z i hi k hk) h.l1
theorem MY(h:ny L n m p O F b)(hL:L≤4000000000){c:Nat}(hc:c<n+m+1):g9 (HJ n m p O F b) (c:Int)=some (vq m (fun i=>F i c)):=by
 have hm:=h.hm
 unfold g9
 show(some ((mq m (fun _=>n+m+1) F).length:Int)).bind _=_
 refine bind_eq rfl ?_
 rw[c9]
 refine bind_eq (Se m (by omega))<|bind_eq rfl ?_
 refine aW (fun k=>((k:Int),vq k (fun i=>F i c)++List.replicate (m-k) qz)) m (vq m (fun i=>F i c)) rfl (fun k hk=>?_) ?_ rfl
 ·have g1:(mq m (fun _=>n+m+1) F)[k]? =some (vq (n+m+1) (F k)):=iz hk
  have g2:(vq (n+m+1) (F k))[c]? =some (qn (F k c)):=lM hc
  have e:=(((h.f k hk c).rep h.l1).canon (by omega)).1
  have s:=HG (h:=fun i=>F i c) hk
  have hl:(vq k (fun i=>F i c)++List.replicate (m-k) qz).length=m:=tD (by omega)
  rw[←s]
  generalize vq k (fun i=>F i c)++List.replicate (m-k) qz=l at*
  clear s
  show(some (decide ((k:Int)<(m:Int)))).bind _=_
  generalize qn (F k c)=q at*
  obtain⟨⟨_,_⟩,⟨_,_⟩⟩:=q
  exact bind_eq (dT (by omega))<|aV rfl<|bind_eq (aP g1)<|bind_eq (aP g2)<|bind_eq e<|bind_eq (bn (by omega))<|bind_eq (ep (by omega))<|bind_eq (congrArg some (bk (by omega))) rfl
 ·simp only[Nat.sub_self,List.replicate_zero,List.append_nil]
  exact bind_eq (dF (by omega))<|aE rfl rfl
def q9(n p:Nat)(O:Nat→Nat→Rat)(c:Nat)(i:Nat):Rat:=if c<n then(if i<p then O i c else if i=p+c then-1 else 0)else 0
theorem sj{k j:Nat}{h:Nat→Rat}{x:Rat}(hj:j<k):(vq k h).set j (qn x)=vq k (fun i=>if i=j then x else h i):=by
 apply List.ext_getElem?
 intro i
 rw[List.getElem?_set,cc]
 by_cases hi:i<k
 ·rw[lM hi]
  by_cases e:j=i
  ·subst e;rw[if_pos rfl,if_pos hj,lM hj,if_pos rfl]
  ·rw[if_neg e,lM hi,if_neg (fun q=>e q.symm)]
 ·rw[List.getElem?_eq_none (l:=vq k _) (by rw[cc];omega),List.getElem?_eq_none (l:=vq k _) (by rw[cc];omega)]
  by_cases e:j=i
  ·rw[if_pos e,if_neg (by omega)]
  ·rw[if_neg e]
theorem BZ(k:Nat):List.replicate k (⟨⟨false,[]⟩,⟨false,[]⟩⟩:Qr)=vq k (fun _=>0):=by
 apply List.ext_getElem?
 intro i
 by_cases hi:i<k
 ·rw[lM hi,List.getElem?_replicate,if_pos hi];rfl
 ·rw[List.getElem?_eq_none (by simp;omega),List.getElem?_eq_none (by rw[cc];omega)]
theorem UL:cZ (-1)=some (qn (-1)):=(oT (n:=-1) (by decide)).1
theorem one_eq:cZ 1=some (qn 1)∧mO 2 (qn 1) 1:=oT (n:=1) (by decide)
theorem Sf(h:ny L n m p O F b){c:Nat}(hc:c<n+m):jE (HJ n m p O F b) (c:Int)=some (vq (p+n) (q9 n p O c)):=by
 have hm:=h.hm
 have hn:=h.hn
 have hp:=h.hp
 unfold jE
 show(some ((mq p (fun _=>n) O).length:Int)).bind _=_
 refine bind_eq rfl ?_
 rw[c9]
 refine bind_eq (congrArg some (show IntKind.i64.wrap ((p:Int)+(n:Int))=((p+n:Nat):Int) by rw[cx (by omega) (by omega)];omega))<|bind_eq (Se (p+n) (by omega))<|bind_eq rfl<|aZ ?_
 rw[BZ]
 by_cases hcn:c<n
 ·refine aV (decide_eq_true (show(c:Int)<(n:Int) by omega))<|bind_eq rfl ?_
  refine aW (fun k=>((k:Int),vq (p+n) (fun i=>if i<k then O i c else 0))) p (vq (p+n) (fun i=>if i<p then O i c else 0)) (by simp) (fun k hk=>?_) ?_ ?_
  ·have g1:(mq p (fun _=>n) O)[k]? =some (vq n (O k)):=iz hk
   have g2:(vq n (O k))[c]? =some (qn (O k c)):=lM hcn
   have s:=sj (k:=p+n) (j:=k) (h:=fun i=>if i<k then O i c else 0) (x:=O k c) (by omega)
   have s2:vq (p+n) (fun i=>if i=k then O k c else if i<k then O i c else 0)=vq (p+n) (fun i=>if i<k+1 then O i c else 0):=ig (fun i _=>by
    by_cases e:i=k
    ·subst e;simp
    ·rw[if_neg e]
     by_cases e2:i<k
     ·rw[if_pos e2,if_pos (by omega)]
     ·rw[if_neg e2,if_neg (by omega)])
   rw[s2]at s
   have hl:=cc (p+n) (fun i=>if i<k then O i c else 0)
   rw[←s]
   generalize vq (p+n) (fun i=>if i<k then O i c else 0)=l at*
   clear s s2
   show(some (decide ((k:Int)<(p:Int)))).bind _=_
   generalize qn (O k c)=q at*
   obtain⟨⟨_,_⟩,⟨_,_⟩⟩:=q
   exact bind_eq (dT (by omega))<|aV rfl<|bind_eq (aP g1)<|bind_eq (aP g2)<|bind_eq (bn (by omega))<|bind_eq (ep (by omega))<|bind_eq (congrArg some (bk (by omega))) rfl
  ·exact bind_eq (dF (by omega))<|aE rfl rfl
  ·have s:=sj (k:=p+n) (j:=p+c) (h:=fun i=>if i<p then O i c else 0) (x:=-1) (by omega)
   have s2:vq (p+n) (fun i=>if i=p+c then(-1:Rat)else if i<p then O i c else 0)=vq (p+n) (q9 n p O c):=ig (fun i _=>by
    unfold q9
    rw[if_pos hcn]
    by_cases e:i=p+c
    ·rw[if_pos e,if_neg (by omega),if_pos e]
    ·rw[if_neg e,if_neg e])
   rw[s2]at s
   have hl:=cc (p+n) (fun i=>if i<p then O i c else 0)
   have e1:=UL
   rw[←s]
   generalize vq (p+n) (fun i=>if i<p then O i c else 0)=l at*
   clear s s2
   generalize qn (-1)=q at*
   obtain⟨⟨_,_⟩,⟨_,_⟩⟩:=q
   exact bind_eq rfl<|bind_eq (congrArg some (show IntKind.i64.wrap ((p:Int)+(c:Int))=((p+c:Nat):Int) by rw[cx (by omega) (by omega)];omega))<|bind_eq e1<|bind_eq (bn (by omega))<|bind_eq (ep (by omega)) rfl
 ·refine aE (decide_eq_false (show ¬(c:Int)<(n:Int) by omega)) ?_
  exact congrArg some (ig (fun i _=>by unfold q9;rw[if_neg hcn]))
theorem Sg(h:ny L n m p O F b)(c i:Nat):FQ L (q9 n p O c i):=by
 unfold q9
 have hl:=h.l1
 split
 ·split
  ·exact h.o _ (by assumption) _
  ·split
   ·exact(FQ.int (i:=-1) (L:=L) (by unfold Fit;exact Nat.lt_of_lt_of_le (by decide:(-1:Int).natAbs<4294967296^1) (Nat.pow_le_pow_right (by decide) hl)) hl)
   ·exact wh hl
 ·exact wh hl
theorem MZ(h:ny L n m p O F b)(c:Nat):eA L (vq (p+n) (q9 n p O c)) (q9 n p O c):=pW (fun i _=>Sg h c i) (fun i hi=>by
 unfold q9
 split
 ·rw[if_neg (by omega),if_neg (by omega)]
 ·rfl) h.l1
def sn(n p:Nat)(O:Nat→Nat→Rat)(b:Nat→Nat)(g:Nat→Rat)(m:Nat)(i:Nat):Rat:=c8 (fun j=>g j*q9 n p O (b j) i) m
theorem Z3{g:Nat→Rat}{k i:Nat}(hi:p+n≤i):sn n p O b g k i=0:=by
 unfold sn
 rw[eD (k:=fun _=>0) (fun j _=>?_),nx]
 unfold q9
 split
 ·rw[if_neg (by omega),if_neg (by omega)];grind
 ·grind
theorem B0(h:ny L n m p O F b){g:Nat→Rat}(hg:∀j,j<m→FQ L (g j)):∀k,k≤m→∀i,FQ (k*(L+L+1)+1) (sn n p O b g k i)
 |0,_,i=>by show FQ (0*(L+L+1)+1) (0:Rat);rw[Nat.zero_mul];exact wh (by decide)
 |k+1,hk,i=>by
  have e:=(B0 h hg k (by omega) i).add ((hg k (by omega)).mul (Sg h (b k) i))
  exact e.mono (by rw[Nat.succ_mul];generalize k*(L+L+1)=q;omega)
theorem J6(h:ny L n m p O F b){g:Nat→Rat}(hg:∀j,j<m→FQ L (g j)){k:Nat}(hk:k≤m):eA (k*(L+L+1)+1) (vq (p+n) (sn n p O b g k)) (sn n p O b g k):=pW (fun i _=>B0 h hg k hk i) (fun i hi=>Z3 hi) (by omega)
theorem FH(h:ny L n m p O F b)(hL:(m+1)*(L+L+1)≤2000000000){g:Nat→Rat}(hg:∀j,j<m→FQ L (g j)):fC (HJ n m p O F b) (vq m g)=some (vq (p+n) (sn n p O b g m)):=by
 have hX:m*(L+L+1)+(L+L+1)≤2000000000:=by rw[←Nat.succ_mul];exact hL
 have hm:=h.hm
 have hn:=h.hn
 have hp:=h.hp
 have h1:=h.l1
 unfold fC
 show(some ((mq p (fun _=>n) O).length:Int)).bind _=_
 refine bind_eq rfl ?_
 rw[c9]
 refine bind_eq (congrArg some (show IntKind.i64.wrap ((p:Int)+(n:Int))=((p+n:Nat):Int) by rw[cx (by omega) (by omega)];omega))<|bind_eq (Se (p+n) (by omega))<|bind_eq (congrArg some (show((vq m g).length:Int)=(m:Int) by rw[cc])) ?_
 rw[BZ]
 refine aW (fun k=>(vq (p+n) (sn n p O b g k),(k:Int))) m (vq (p+n) (sn n p O b g m)) rfl (fun k hk=>?_) ?_ rfl
 ·have g1:(vq m g)[k]? =some (qn (g k)):=lM hk
  have g2:=oE (b:=b) hk
  have rg:=(hg k hk).rep h1
  have sg:=rg.sign (by omega)
  have WE:=h.hb k hk
  have tv:=Sf h WE
  have va:=Wk rg (MZ h (b k)) (J6 h hg (Nat.le_of_lt hk)) (by have:=Nat.mul_le_mul_right (L+L+1) (show k≤m by omega);omega) (by rw[cc];omega) (by rw[cc];omega)
  have e0:vq (max (vq (p+n) (q9 n p O (b k))).length (vq (p+n) (sn n p O b g k)).length) (fun i=>g k*q9 n p O (b k) i+sn n p O b g k i)=vq (p+n) (sn n p O b g (k+1)):=by
   rw[cc,cc,Nat.max_self]
   refine ig (fun i _=>?_)
   show _=c8 _ k+_
   unfold sn;grind
  rw[e0]at va
  have same:g k*q9 n p O (b k) 0=g k*q9 n p O (b k) 0:=rfl
  have skip:(¬(b k<n)∨g k=0)→vq (p+n) (sn n p O b g k)=vq (p+n) (sn n p O b g (k+1)):=fun q=>ig (fun i _=>by
   show sn n p O b g k i=c8 _ k+_
   have:g k*q9 n p O (b k) i=0:=by
    rcases q with q|q
    ·unfold q9;rw[if_neg q];grind
    ·rw[q];grind
   show sn n p O b g k i=sn n p O b g k i+g k*q9 n p O (b k) i
   rw[this];grind)
  replace va:=va.1
  show(some (decide ((k:Int)<(m:Int)))).bind _=_
  have sgd:(some (decide (qi (g k) 0≠0)):Option Bool)=some (decide (g k≠0)):=by
   congr 1
   by_cases q:g k=0
   ·rw[decide_eq_false (by rw[q,N4];simp),decide_eq_false (by simp[q])]
   ·rw[decide_eq_true (show qi (g k) 0≠0 from fun e=>q (lQ.1 e)),decide_eq_true q]
  generalize hq:qn (g k)=q at*
  obtain⟨⟨q1,q2⟩,⟨q3,q4⟩⟩:=q
  refine bind_eq (dT (by omega))<|aV rfl<|bind_eq (aP g1)<|aZ<|bind_eq (aP g2)<|bind_eq rfl ?_
  by_cases WN:b k<n
  ·refine bind_eq (a:=decide (g k≠0)) (aV (decide_eq_true (show((b k:Nat):Int)<(n:Int) by omega))<|bind_eq sg<|bind_eq sgd rfl)<|aZ ?_
   by_cases h0:g k=0
   ·refine aE (by simp[h0]) ?_
    rw[skip (.inr h0)]
    exact bind_eq (congrArg some (bk (by omega))) rfl
   ·refine aV (by simp[h0]) ?_
    exact bind_eq (aP g2)<|bind_eq tv<|bind_eq va<|bind_eq (congrArg some (bk (by omega))) rfl
  ·refine bind_eq (a:=false) (aE (decide_eq_false (show ¬((b k:Nat):Int)<(n:Int) by omega)) rfl)<|aZ<|aE rfl ?_
   rw[skip (.inl WN)]
   exact bind_eq (congrArg some (bk (by omega))) rfl
 ·exact bind_eq (dF (by omega))<|aE rfl rfl
theorem LQ(h:ny L n m p O F b)(hL:L≤4000000000):e9 (HJ n m p O F b)=some (vq m (fun i=>F i (n+m))):=by
 unfold e9
 exact bind_eq (ij n m p O F b)<|aE rfl<|bind_eq (ye h.hn h.hm)<|bind_eq (MY h hL (by omega)) rfl
def vG(n m p:Nat)(O F:Nat→Nat→Rat)(b:Nat→Nat)(c:Nat)(i:Nat):Rat:=sn n p O b (fun j=>F j c) m i-q9 n p O c i
theorem J7(h:ny L n m p O F b)(hL:(m+1)*(L+L+1)≤2000000000){c:Nat}(hc:c<n+m):cH (HJ n m p O F b) (c:Int)=some (vq (p+n) (vG n m p O F b c))∧eA (m*(L+L+1)+1+L+1) (vq (p+n) (vG n m p O F b c)) (vG n m p O F b c):=by
 have hX:m*(L+L+1)+(L+L+1)≤2000000000:=by rw[←Nat.succ_mul];exact hL
 have hm:=h.hm
 have hn:=h.hn
 have hp:=h.hp
 have w:=FH h hL (g:=fun j=>F j c) (fun j hj=>h.f j hj c)
 have s:=akl (J6 h (g:=fun j=>F j c) (fun j hj=>h.f j hj c) (Nat.le_refl m)) (MZ h c) (by omega) (by rw[cc];omega) (by rw[cc];omega)
 rw[cc,cc,Nat.max_self]at s
 refine⟨?_,s.2⟩
 unfold cH
 exact aZ<|bind_eq (ij n m p O F b)<|bind_eq (a:=false) (aE rfl<|bind_eq (dF (by omega)) rfl)<|bind_eq (a:=false) (aE rfl<|bind_eq (ye hn hm)<|bind_eq (dF (by omega)) rfl)<|aE rfl<|bind_eq (MY h (by omega) (by omega))<|bind_eq w<|bind_eq (Sf h hc)<|bind_eq s.1 rfl
theorem M1(h:ny L n m p O F b)(hL:(m+1)*(L+L+1)≤2000000000):kC (HJ n m p O F b)=some (vq (p+n) (sn n p O b (fun j=>F j (n+m)) m)):=by
 have hX:m*(L+L+1)+(L+L+1)≤2000000000:=by rw[←Nat.succ_mul];exact hL
 unfold kC
 exact bind_eq (ij n m p O F b)<|aE rfl<|bind_eq (LQ h (by omega))<|bind_eq (FH h hL (g:=fun j=>F j (n+m)) (fun j hj=>h.f j hj _)) rfl
def qj(n m:Nat)(F:Nat→Nat→Rat)(b:Nat→Nat):Nat→Nat→Rat
 |0,_=>0
 |j+1,i=>if b j<n∧i=b j then F j (n+m)else qj n m F b j i
theorem Ar(h:ny L n m p O F b)(hL:L≤4000000000):fD (HJ n m p O F b)=some (vq n (qj n m F b m)):=by
 have hm:=h.hm
 have hn:=h.hn
 unfold fD
 refine bind_eq (ij n m p O F b)<|aE rfl<|bind_eq (Se n (by omega))<|bind_eq (LQ h hL)<|bind_eq (congrArg some (show((vq m _).length:Int)=(m:Int) by rw[cc])) ?_
 rw[BZ]
 refine aW (fun k=>((k:Int),vq n (qj n m F b k))) m (vq n (qj n m F b m)) rfl (fun k hk=>?_) ?_ rfl
 ·have g1:(vq m (fun i=>F i (n+m)))[k]? =some (qn (F k (n+m))):=lM hk
  have g2:=oE (b:=b) hk
  have hl:=cc n (qj n m F b k)
  show(some (decide ((k:Int)<(m:Int)))).bind _=_
  by_cases WN:b k<n
  ·have s:=sj (k:=n) (j:=b k) (h:=qj n m F b k) (x:=F k (n+m)) WN
   have s2:vq n (fun i=>if i=b k then F k (n+m)else qj n m F b k i)=vq n (qj n m F b (k+1)):=ig (fun i _=>by
    show _=if b k<n∧i=b k then _ else _
    by_cases e:i=b k
    ·rw[if_pos e,if_pos ⟨WN,e⟩]
    ·rw[if_neg e,if_neg (fun q=>e q.2)])
   rw[s2]at s
   rw[←s]
   clear s s2
   generalize vq n (qj n m F b k)=l at*
   generalize qn (F k (n+m))=q at*
   obtain⟨⟨_,_⟩,⟨_,_⟩⟩:=q
   exact bind_eq (dT (by omega))<|aV rfl<|bind_eq (aP g1)<|bind_eq (aP g2)<|bind_eq rfl<|aZ<|aV (decide_eq_true (show((b k:Nat):Int)<(n:Int) by omega))<|bind_eq (aP g2)<|bind_eq (bn (by omega))<|bind_eq (ep (by omega))<|bind_eq (congrArg some (bk (by omega))) rfl
  ·have s2:vq n (qj n m F b k)=vq n (qj n m F b (k+1)):=ig (fun i _=>by
    show _=if b k<n∧i=b k then _ else _
    rw[if_neg (fun q=>WN q.1)])
   rw[←s2]
   generalize qn (F k (n+m))=q at*
   obtain⟨⟨_,_⟩,⟨_,_⟩⟩:=q
   exact bind_eq (dT (by omega))<|aV rfl<|bind_eq (aP g1)<|bind_eq (aP g2)<|bind_eq rfl<|aZ<|aE (decide_eq_false (show ¬((b k:Nat):Int)<(n:Int) by omega))<|bind_eq (congrArg some (bk (by omega))) rfl
 ·exact bind_eq (dF (by omega))<|aE rfl rfl
theorem N9(h:ny L n m p O F b)(hL:L≤4000000000):iT (HJ n m p O F b)=some (decide (∀i,i<m→0≤F i (n+m))):=by
 have hm:=h.hm
 unfold iT
 refine bind_eq (ij n m p O F b)<|aE rfl<|bind_eq (LQ h hL)<|bind_eq (congrArg some (show((vq m _).length:Int)=(m:Int) by rw[cc])) ?_
 refine bind_eq (wj (n:=m) (p:=fun i=>0≤F i (n+m)) (e:=false) (fun k hk=>?_) (bind_eq (dF (by omega))<|aE rfl rfl)) ?_
 ·have g1:(vq m (fun i=>F i (n+m)))[k]? =some (qn (F k (n+m))):=lM hk
  have sg:=((h.f k hk (n+m)).rep h.l1).sign (by omega)
  generalize qn (F k (n+m))=q at*
  obtain⟨⟨_,_⟩,⟨_,_⟩⟩:=q
  refine bind_eq (dT (by omega))<|aV rfl<|bind_eq (aP g1)<|bind_eq sg<|bind_eq rfl ?_
  by_cases q:F k (n+m)<0
  ·rw[if_neg (by grind)]
   exact aV (decide_eq_true (J2.2 q)) rfl
  ·rw[if_pos (by grind)]
   exact aE (decide_eq_false (fun e=>q (J2.1 e)))<|bind_eq (congrArg some (bk (by omega))) rfl
 ·by_cases q:∀i,i<m→0≤F i (n+m)
  ·rw[if_pos q,decide_eq_true q]
  ·rw[if_neg q,decide_eq_false q]
theorem J8(h:ny L n m p O F b)(hL:(m+1)*(L+L+1)≤2000000000):iv (HJ n m p O F b)=some (decide (∀c,c<n+m→0≤pX (vG n m p O F b c) (fun _=>0) (p+n))):=by
 have hX:m*(L+L+1)+(L+L+1)≤2000000000:=by rw[←Nat.succ_mul];exact hL
 have hm:=h.hm
 have hn:=h.hn
 unfold iv
 refine bind_eq (ij n m p O F b)<|aE rfl ?_
 have hw:(IntKind.i64.wrap (Tb.vars (HJ n m p O F b)+((Tb.rows (HJ n m p O F b)).length:Int))).toNat=n+m:=by
  show(IntKind.i64.wrap ((n:Int)+((mq m (fun _=>n+m+1) F).length:Int))).toNat=_
  rw[c9,cx (by omega) (by omega)];omega
 refine bind_eq (a:=if ∀c,c<n+m→0≤pX (vG n m p O F b c) (fun _=>0) (p+n)then .inl ()else .inr false) ?_ ?_
 ·refine Eq.trans (congrArg (fun k=>ou _ k ()) hw) ?_
  refine DZ (n:=n+m) (p:=fun c=>0≤pX (vG n m p O F b c) (fun _=>0) (p+n)) (e:=false) (fun k hk=>?_)
  obtain⟨e,r⟩:=J7 h hL hk
  have sg:=aef r (by omega)
  rw[cc]at sg
  refine bind_eq rfl<|bind_eq e<|bind_eq sg<|bind_eq rfl ?_
  by_cases q:0≤pX (vG n m p O F b k) (fun _=>0) (p+n)
  ·rw[if_pos q];exact aE (decide_eq_false (by omega)) rfl
  ·rw[if_neg q];exact aV (decide_eq_true (by omega)) rfl
 ·by_cases q:∀c,c<n+m→0≤pX (vG n m p O F b c) (fun _=>0) (p+n)
  ·rw[if_pos q,decide_eq_true q]
  ·rw[if_neg q,decide_eq_false q]
end Z2
end Go.Proofs.YtningmnklfpfjaaGreat
namespace Go.Proofs.YtningmnklfpfjaaGreat
open Go.Fw
def lT(F:Nat→Nat→Rat)(r c i k:Nat):Rat:=if i=r then F r k/F r c else F i k-F i c*(F r k/F r c)
section Z2
variable {L n m p:Nat}{O F:Nat→Nat→Rat}{b:Nat→Nat}
theorem Sh(h:ny L n m p O F b){r c:Nat}(hr:r<m)(h0:F r c≠0){i:Nat}(hi:i<m)(k:Nat):FQ (4*L+1) (lT F r c i k):=by
 have e:=(h.f r hr k).div (h.f r hr c) h0
 unfold lT
 split
 ·exact e.mono (by omega)
 ·exact((h.f i hi k).sub ((h.f i hi c).mul e)).mono (by omega)
theorem Wo(h:ny L n m p O F b){r i:Nat}(hr:r<m)(c:Nat)(hi:i<m){k:Nat}(hk:n+m+1≤k):lT F r c i k=0:=by
 unfold lT
 rw[h.z r hr k hk,h.z i hi k hk]
 have e:(0:Rat)/F r c=0:=by rw[Rat.div_def,Rat.zero_mul]
 rw[e]
 split
 ·rfl
 ·grind
theorem As(h:ny L n m p O F b){r c:Nat}(hr:r<m)(hc:c<n+m)(h0:F r c≠0):ny (4*L+1) n m p O (lT F r c) (fun j=>if j=r then c else b j):=
 ⟨fun i hi k=>Sh h hr h0 hi k,fun i hi k=>(h.o i hi k).mono (by omega),fun i hi k hk=>Wo h hr c hi hk,by omega,h.hn,h.hm,h.hp,fun j hj=>by
  show(if j=r then c else b j)<n+m
  split
  ·exact hc
  ·exact h.hb j hj⟩
theorem UM(h:ny L n m p O F b)(hL:L≤100000000){r c:Nat}(hr:r<m)(hc:c<n+m+1)(h0:F r c≠0){o0:Bool}{o1:Int}{o2 rows:List (List Qr)}{o3:List Int}(hrow:rows[r]? =some (vq (n+m+1) (lT F r c r))){i:Nat}(hi:i<m)(hne:i≠r):
  kL o0 o1 o2 o3 rows (vq (n+m+1) (F i)) c r=some (vq (n+m+1) (lT F r c i)):=by
 have hm:=h.hm
 have hn:=h.hn
 have h1:=h.l1
 have g1:(vq (n+m+1) (F i))[c]? =some (qn (F i c)):=lM hc
 have rq:=(h.f i hi c).rep h1
 have sg:=rq.sign (by omega)
 have ng:=rq.neg (by omega)
 have LM:r<rows.length:=(List.getElem?_eq_some_iff.1 hrow).1
 have va:=Wk ng.2 (pW (n:=n+m+1) (h:=lT F r c r) (fun k _=>Sh h hr h0 hr k) (fun k hk=>Wo h hr c hr hk) (show 1≤4*L+1 by omega)) (UJ h hi) (by omega) (by rw[cc];omega) (by rw[cc];omega)
 have e0:vq (max (vq (n+m+1) (lT F r c r)).length (vq (n+m+1) (F i)).length) (fun k=>-F i c*lT F r c r k+F i k)=vq (n+m+1) (lT F r c i):=by
  rw[cc,cc,Nat.max_self]
  refine ig (fun k _=>?_)
  unfold lT
  rw[if_pos rfl,if_neg hne];grind
 rw[e0]at va
 replace va:=va.1
 have same:F i c=0→vq (n+m+1) (F i)=vq (n+m+1) (lT F r c i):=fun q=>ig (fun k _=>by
  unfold lT
  rw[if_neg hne,q];grind)
 have sgd:(some (decide (qi (F i c) 0=0)):Option Bool)=some (decide (F i c=0)):=by
  congr 1
  by_cases q:F i c=0
  ·rw[decide_eq_true (show qi (F i c) 0=0 from lQ.2 q),decide_eq_true q]
  ·rw[decide_eq_false (show ¬qi (F i c) 0=0 from fun e=>q (lQ.1 e)),decide_eq_false q]
 unfold kL
 replace ng:=ng.1
 generalize qn (F i c)=q at*
 generalize qn (-F i c)=q' at*
 obtain⟨⟨_,_⟩,⟨_,_⟩⟩:=q
 obtain⟨⟨_,_⟩,⟨_,_⟩⟩:=q'
 refine bind_eq (aP g1)<|bind_eq sg<|bind_eq sgd ?_
 by_cases q:F i c=0
 ·rw[←same q]
  exact aV (decide_eq_true q) rfl
 ·exact aE (decide_eq_false q)<|bind_eq (aP g1)<|bind_eq ng<|bind_eq (bn LM)<|bind_eq hrow<|bind_eq va rfl
theorem Si{w r:Nat}{G:Nat→Nat→Rat}{f:Nat→Rat}(hr:r<m):(mq m (fun _=>w) G).set r (vq w f)=mq m (fun _=>w) (fun i=>if i=r then f else G i):=by
 apply List.ext_getElem?
 intro j
 rw[List.getElem?_set,c9]
 by_cases hj:j<m
 ·rw[iz hj]
  by_cases e:r=j
  ·subst e;rw[if_pos rfl,if_pos hr,iz hr,if_pos rfl]
  ·rw[if_neg e,iz hj,if_neg (fun q=>e q.symm)]
 ·rw[List.getElem?_eq_none (l:=mq m _ _) (by rw[c9];omega),List.getElem?_eq_none (l:=mq m _ _) (by rw[c9];omega)]
  by_cases e:r=j
  ·rw[if_pos e,if_neg (by omega)]
  ·rw[if_neg e]
theorem Sj(h:ny L n m p O F b)(hL:L≤100000000){r c:Nat}(hr:r<m)(hc:c<n+m+1)(h0:F r c≠0){o0:Bool}{o1:Int}{o2:List (List Qr)}{o3:List Int}:
  bZ o0 o1 o2 o3 (mq m (fun _=>n+m+1) F) r c=some (o2,o3,mq m (fun _=>n+m+1) (lT F r c)):=by
 have hm:=h.hm
 have hn:=h.hn
 have h1:=h.l1
 have g1:(mq m (fun _=>n+m+1) F)[r]? =some (vq (n+m+1) (F r)):=iz hr
 have LM:r<(mq m (fun _=>n+m+1) F).length:=by rw[c9];exact hr
 have g2:(vq (n+m+1) (F r))[c]? =some (qn (F r c)):=lM hc
 have dv:=one_eq.2.div ((h.f r hr c).rep h1) (by omega) h0
 have sc:=(ZY dv.2 (UJ h hr) (by omega) (by rw[cc];omega)).1
 rw[cc]at sc
 have e0:vq (n+m+1) (fun k=>1/F r c*F r k)=vq (n+m+1) (lT F r c r):=ig (fun k _=>by
  unfold lT
  rw[if_pos rfl,Rat.div_def,Rat.div_def];grind)
 rw[e0]at sc
 have st:=ep (y:=vq (n+m+1) (lT F r c r)) LM
 rw[Si hr]at st
 have e1:=one_eq.1
 replace dv:=dv.1
 have loop:∀(o:List (List Qr)→Option ((List (List Qr))×(List Int)×(List (List Qr)))),o (mq m (fun _=>n+m+1) (lT F r c))=some (o2,o3,mq m (fun _=>n+m+1) (lT F r c))→((bQ (fun(yE:Int×(List (List Qr)))=>match yE with|⟨qH,gM⟩=>(show Option ((Int×(List (List Qr)))⊕((List (List Qr))))from(some (decide ((qH:Int)<(m:Int)))).bind fun Mz=>(bif Mz then(kQ gM qH).bind fun wA=>(gM[wA]?).bind fun D5=>(some (decide ((qH:Int)≠(r:Int)))).bind fun KE=>b9 (fun(vm:(List (List Qr)))=>(some (IntKind.i64.wrap (qH+1))).bind fun D7=>some (.inl (D7,vm))) fun YH=>(bif KE then(kL o0 o1 o2 o3 gM D5 c r).bind fun KH=>(kQ gM qH).bind fun Md=>(stM gM Md KH).bind fun l17=>YH l17 else YH gM)else some (.inr gM)))) (0,mq m (fun _=>n+m+1) (fun i=>if i=r then lT F r c r else F i))).bind o)=some (o2,o3,mq m (fun _=>n+m+1) (lT F r c)):=fun o ho=>by
  refine aW (fun k=>((k:Int),mq m (fun _=>n+m+1) (fun i=>if i=r∨i<k then lT F r c i else F i))) m (mq m (fun _=>n+m+1) (lT F r c)) ?_ (fun k hk=>?_) ?_ ho
  ·refine Prod.ext rfl (mN (fun i hi=>⟨rfl,fun k _=>?_⟩))
   by_cases e:i=r
   ·subst e;simp
   ·simp[e]
  ·have gk:(mq m (fun _=>n+m+1) (fun i=>if i=r∨i<k then lT F r c i else F i))[k]? =some (vq (n+m+1) (if k=r then lT F r c k else F k)):=by
    rw[iz hk]
    congr 2
    by_cases e:k=r
    ·rw[if_pos (.inl e),if_pos e]
    ·rw[if_neg (by omega),if_neg e]
   have hl:(mq m (fun _=>n+m+1) (fun i=>if i=r∨i<k then lT F r c i else F i)).length=m:=c9 _ _ _
   have gr:(mq m (fun _=>n+m+1) (fun i=>if i=r∨i<k then lT F r c i else F i))[r]? =some (vq (n+m+1) (lT F r c r)):=by
    rw[iz hr,if_pos (.inl rfl)]
   by_cases e:k=r
   ·have s:mq m (fun _=>n+m+1) (fun i=>if i=r∨i<k then lT F r c i else F i)=mq m (fun _=>n+m+1) (fun i=>if i=r∨i<k+1 then lT F r c i else F i):=mN (fun i _=>⟨rfl,fun _ _=>by
     by_cases q:i=r∨i<k
     ·rw[if_pos q,if_pos (by omega)]
     ·rw[if_neg q,if_neg (by omega)]⟩)
    show(some (decide ((k:Int)<(m:Int)))).bind _=_
    refine bind_eq (dT (by omega))<|aV rfl<|bind_eq (bn (by omega))<|bind_eq gk<|bind_eq (dF (by omega))<|aZ<|aE rfl<|bind_eq (congrArg some (bk (by omega))) ?_
    rw[s]
   ·rw[if_neg e]at gk
    have rm:=UM h hL hr hc h0 (o0:=o0) (o1:=o1) (o2:=o2) (o3:=o3) gr hk e
    have s:(mq m (fun _=>n+m+1) (fun i=>if i=r∨i<k then lT F r c i else F i)).set k (vq (n+m+1) (lT F r c k))=mq m (fun _=>n+m+1) (fun i=>if i=r∨i<k+1 then lT F r c i else F i):=by
     rw[Si hk]
     refine mN (fun i _=>⟨rfl,fun _ _=>?_⟩)
     by_cases q:i=k
     ·subst q;rw[if_pos rfl,if_pos (.inr (by omega))]
     ·rw[if_neg q]
      by_cases q2:i=r∨i<k
      ·rw[if_pos q2,if_pos (by omega)]
      ·rw[if_neg q2,if_neg (by omega)]
    rw[←s]
    generalize mq m (fun _=>n+m+1) (fun i=>if i=r∨i<k then lT F r c i else F i)=rows at*
    show(some (decide ((k:Int)<(m:Int)))).bind _=_
    exact bind_eq (dT (by omega))<|aV rfl<|bind_eq (bn (by omega))<|bind_eq gk<|bind_eq (dT (by omega))<|aZ<|aV rfl<|bind_eq rm<|bind_eq (bn (by omega))<|bind_eq (ep (by omega))<|bind_eq (congrArg some (bk (by omega))) rfl
  ·have s:mq m (fun _=>n+m+1) (fun i=>if i=r∨i<m then lT F r c i else F i)=mq m (fun _=>n+m+1) (lT F r c):=mN (fun i hi=>⟨rfl,fun _ _=>by rw[if_pos (.inr hi)]⟩)
   show(some (decide ((m:Int)<(m:Int)))).bind _=_
   rw[s]
   exact bind_eq (dF (by omega))<|aE rfl rfl
 unfold bZ
 have scM:n7 (vq (n+m+1) (F r)) (qn (1/F r c))=some (vq (n+m+1) (lT F r c r)):=by
  unfold n7
  generalize qn (1/F r c)=q at*
  obtain⟨⟨_,_⟩,⟨_,_⟩⟩:=q
  exact bind_eq sc rfl
 generalize qn (1/F r c)=q3 at*
 generalize qn (F r c)=q2 at*
 generalize qn 1=q1 at*
 obtain⟨⟨_,_⟩,⟨_,_⟩⟩:=q1
 obtain⟨⟨_,_⟩,⟨_,_⟩⟩:=q2
 obtain⟨⟨_,_⟩,⟨_,_⟩⟩:=q3
 refine bind_eq e1<|bind_eq (bn LM)<|bind_eq g1<|bind_eq (aP g2)<|bind_eq dv<|bind_eq (bn LM)<|bind_eq g1<|bind_eq scM<|bind_eq (bn LM)<|bind_eq st<|bind_eq (congrArg some (by rw[c9])) ?_
 refine Eq.trans (congrArg (fun G=>(bQ _ ((0:Int),mq m (fun _=>n+m+1) G)).bind _) ?_) (loop _ rfl)
 funext i
 by_cases e:i=r
 ·rw[if_pos e]
 ·rw[if_neg e]
theorem D1(h:ny L n m p O F b)(hL:L≤100000000){r c:Nat}(hr:r<m)(hc:c<n+m)(hb:∀j,j<m→b j≠c)(h0:F r c≠0):
  aA true n (mq p (fun _=>n) O) (bq m b) (mq m (fun _=>n+m+1) F) r c=some (0,mq p (fun _=>n) O,bq m (fun j=>if j=r then c else b j),mq m (fun _=>n+m+1) (lT F r c)):=by
 have hm:=h.hm
 have hn:=h.hn
 have sv:=Sj h hL hr (show c<n+m+1 by omega) h0 (o0:=true) (o1:=(n:Int)) (o2:=mq p (fun _=>n) O) (o3:=bq m b)
 have g1:(mq m (fun _=>n+m+1) F)[r]? =some (vq (n+m+1) (F r)):=iz hr
 have g2:(vq (n+m+1) (F r))[c]? =some (qn (F r c)):=lM (by omega)
 have sg:=((h.f r hr c).rep h.l1).sign (by omega)
 have LM:r<(mq m (fun _=>n+m+1) F).length:=by rw[c9];exact hr
 have Sx:=iU m b
 have bs:=LP (b:=b) (c:=c) hr
 have bg:∀j,j<m→(bq m b)[j]? =some ((b j:Nat):Int):=fun j hj=>oE hj
 have wd:dr (⟨true,(n:Int),mq p (fun _=>n) O,bq m b,mq m (fun _=>n+m+1) F⟩:Tb)=some ((n+m:Nat):Int):=ye hn hm
 have ms:bK (⟨true,(n:Int),mq p (fun _=>n) O,bq m b,mq m (fun _=>n+m+1) F⟩:Tb)=some false:=ij n m p O F b
 have rl:=c9 m (fun _=>n+m+1) F
 unfold aA
 rw[←bs]
 generalize bq m b=B at*
 generalize mq m (fun _=>n+m+1) F=rows at*
 refine bind_eq ms<|aE rfl<|aZ<|bind_eq (dF (by omega))<|bind_eq (a:=false) (aE rfl<|bind_eq rfl<|bind_eq (dF (by omega)) rfl)<|bind_eq (a:=false) (aE rfl<|bind_eq (dF (by omega)) rfl)<|bind_eq (a:=false) (aE rfl<|bind_eq wd<|bind_eq (dF (by omega)) rfl)<|aE rfl<|bind_eq rfl ?_
 refine aW (fun k=>(k:Int)) m (.inl ()) rfl (fun k hk=>?_) ?_ ?_
 ·exact bind_eq (dT (by omega))<|aV rfl<|bind_eq (bn (by omega))<|bind_eq (bg k hk)<|bind_eq (dF (by have:=hb k hk;omega))<|aE rfl<|bind_eq (congrArg some (bk (by omega))) rfl
 ·exact bind_eq (dF (by omega))<|aE rfl rfl
 ·generalize qn (F r c)=q at*
  obtain⟨⟨_,_⟩,⟨_,_⟩⟩:=q
  exact bind_eq (bn LM)<|bind_eq g1<|bind_eq (aP g2)<|bind_eq sg<|bind_eq (dF (fun e=>h0 (lQ.1 e)))<|aE rfl<|bind_eq sv<|bind_eq (bn (by omega))<|bind_eq (ep (by omega)) rfl
end Z2
def tF(n m:Nat)(R:Nat→Nat→Rat)(g:Nat→Rat)(i k:Nat):Rat:=if k<n then R i k else if k=n+i then 1 else if k=n+m then g i else 0
theorem zA(k w:Nat)(G:Nat→Nat→Rat):mq (k+1) (fun _=>w) G=mq k (fun _=>w) G++[vq w (G k)]:=by simp[mq,List.range_succ]
section new
variable {L M K n:Nat}{ob rw:List (List Qr)}{bd:List Qr}{O R:Nat→Nat→Rat}{g:Nat→Rat}
theorem Sk{m i:Nat}(hi:i<m):(fun j=>if j=n+m then g i else if j=n+i then(1:Rat)else if j<n then R i j else 0)=tF n m R g i:=by
 funext j
 unfold tF
 by_cases h1:j<n
 ·rw[if_neg (by omega),if_neg (by omega),if_pos h1,if_pos h1]
 ·rw[if_neg h1,if_neg h1]
  by_cases h2:j=n+i
  ·rw[if_neg (by omega),if_pos h2,if_pos h2]
  ·rw[if_neg h2,if_neg h2]
theorem aej(ho:pY M ob O)(hr:pY L rw R)(hb:eA K bd g)(hM:M≤4000000000)(hL:L≤4000000000)(hK:K≤4000000000)(hv:HU n ob rw bd):
  dw ⟨(n:Int),ob,rw,bd⟩=some (true,(n:Int),mq ob.length (fun _=>n) O,bq rw.length (fun j=>n+j),mq rw.length (fun _=>n+rw.length+1) (tF n rw.length R g)):=by
 obtain⟨v1,v2,v3,v4,v5,v6,v7,v8⟩:=hv
 have n64:n≤64:=by omega
 have ako:∀v∈ob,v.length≤n:=si.1 (by omega)
 unfold dw
 refine bind_eq rfl ?_
 refine aW (fun k=>((k:Int),mq k (fun _=>n) O)) ob.length (mq ob.length (fun _=>n) O) rfl (fun k hk=>?_) ?_ ?_
 ·have g1:=jz (d:=[]) hk
  have rs:=HH (ho.row k) (by omega) (by have:=ako _ (List.mem_of_getElem? g1);omega) (n:Int)
  rw[show(min (n:Int) 65536).toNat=n by omega]at rs
  refine bind_eq (dT (by omega))<|aV rfl<|bind_eq (aP g1)<|bind_eq rs<|bind_eq (DO (by decide) (by rw[c9];omega))<|bind_eq (congrArg some (bk (by omega))) ?_
  rw[zA]
 ·exact bind_eq (dF (by omega))<|aE rfl rfl
 refine bind_eq rfl ?_
 refine aW (fun k=>((k:Int),bq k (fun j=>n+j),mq k (fun _=>n+rw.length+1) (tF n rw.length R g))) rw.length (bq rw.length (fun j=>n+j),mq rw.length (fun _=>n+rw.length+1) (tF n rw.length R g)) rfl (fun i hi=>?_) (bind_eq (dF (by omega))<|aE rfl rfl) rfl
 obtain⟨q,hq,rq⟩:=hb.get (i:=i) (by omega)
 have cn:=(rq.canon (by omega)).1
 have e1:=one_eq.1
 have wl:IntKind.i64.wrap ((n:Int)+(rw.length:Int))=((n+rw.length:Nat):Int):=by rw[cx (by omega) (by omega)];omega
 have wl2:IntKind.i64.wrap (((n+rw.length:Nat):Int)+1)=((n+rw.length+1:Nat):Int):=bk (by omega)
 have wi:IntKind.i64.wrap ((n:Int)+(i:Int))=((n+i:Nat):Int):=by rw[cx (by omega) (by omega)];omega
 refine bind_eq (dT (by omega))<|aV rfl<|bind_eq rfl<|bind_eq (congrArg some wl)<|bind_eq (congrArg some wl2)<|bind_eq (Se (n+rw.length+1) (by omega)) ?_
 rw[BZ]
 refine aW (fun k=>((k:Int),vq (n+rw.length+1) (fun j=>if j<k then R i j else 0))) n (vq (n+rw.length+1) (fun j=>if j<n then R i j else 0)) (by simp) (fun k hk=>?_) (bind_eq (dF (by omega))<|aE rfl rfl) ?_
 ·have at_:=ZZ hr (by omega) i k
  have s:=sj (k:=n+rw.length+1) (j:=k) (h:=fun j=>if j<k then R i j else 0) (x:=R i k) (by omega)
  have s2:vq (n+rw.length+1) (fun j=>if j=k then R i k else if j<k then R i j else 0)=vq (n+rw.length+1) (fun j=>if j<k+1 then R i j else 0):=ig (fun j _=>by
   by_cases e:j=k
   ·subst e;simp
   ·rw[if_neg e]
    by_cases e2:j<k
    ·rw[if_pos e2,if_pos (by omega)]
    ·rw[if_neg e2,if_neg (by omega)])
  rw[s2]at s
  have hl:=cc (n+rw.length+1) (fun j=>if j<k then R i j else 0)
  rw[←s]
  generalize vq (n+rw.length+1) (fun j=>if j<k then R i j else 0)=l at*
  clear s s2
  generalize qn (R i k)=q at*
  obtain⟨⟨_,_⟩,⟨_,_⟩⟩:=q
  exact bind_eq (dT (by omega))<|aV rfl<|bind_eq at_<|bind_eq (bn (by omega))<|bind_eq (ep (by omega))<|bind_eq (congrArg some (bk (by omega))) rfl
 ·have s1:=sj (k:=n+rw.length+1) (j:=n+i) (h:=fun j=>if j<n then R i j else 0) (x:=1) (by omega)
  have s2:=sj (k:=n+rw.length+1) (j:=n+rw.length) (h:=fun j=>if j=n+i then 1 else if j<n then R i j else 0) (x:=g i) (by omega)
  rw[Sk hi]at s2
  have Wx:=cc (n+rw.length+1) (fun j=>if j<n then R i j else 0)
  have hl2:=cc (n+rw.length+1) (fun j=>if j=n+i then 1 else if j<n then R i j else 0)
  have b1:=iU i (fun j=>n+j)
  have b2:=UI i (fun j=>n+j)
  have m1:=c9 i (fun _=>n+rw.length+1) (tF n rw.length R g)
  have m2:=zA i (n+rw.length+1) (tF n rw.length R g)
  have st1:=ep (y:=qn 1) (show n+i<(vq (n+rw.length+1) (fun j=>if j<n then R i j else 0)).length by omega)
  have st2:=ep (y:=qn (g i)) (show n+rw.length<(vq (n+rw.length+1) (fun j=>if j=n+i then 1 else if j<n then R i j else 0)).length by omega)
  rw[s1]at st1
  rw[s2]at st2
  generalize vq (n+rw.length+1) (fun j=>if j<n then R i j else 0)=l1 at*
  generalize vq (n+rw.length+1) (fun j=>if j=n+i then 1 else if j<n then R i j else 0)=l2 at*
  generalize vq (n+rw.length+1) (tF n rw.length R g i)=l3 at*
  generalize qn (g i)=q' at*
  generalize qn 1=q1 at*
  obtain⟨⟨_,_⟩,⟨_,_⟩⟩:=q
  obtain⟨⟨_,_⟩,⟨_,_⟩⟩:=q'
  obtain⟨⟨_,_⟩,⟨_,_⟩⟩:=q1
  refine bind_eq (congrArg some wi)<|bind_eq e1<|bind_eq (bn (by omega))<|bind_eq st1<|bind_eq rfl<|bind_eq (congrArg some (show IntKind.i64.wrap ((l2.length:Int)-1)=((n+rw.length:Nat):Int) by rw[hl2,cx (by omega) (by omega)];omega))<|bind_eq (aP hq)<|bind_eq cn<|bind_eq (bn (by omega))<|bind_eq st2<|bind_eq (DO (by decide) (by omega))<|bind_eq (congrArg some wi)<|bind_eq (DO (by decide) (by omega))<|bind_eq (congrArg some (bk (by omega))) ?_
  rw[b2,m2]
theorem HK(ho:pY L ob O)(hr:pY L rw R)(hb:eA L bd g)(hL:2≤L)(hv:HU n ob rw bd):ny L n rw.length ob.length O (tF n rw.length R g) (fun j=>n+j):=by
 obtain⟨v1,v2,v3,v4,v5,v6,v7,v8⟩:=hv
 refine⟨fun i hi k=>?_,fun i hi k=>(ho.row i).fq k,fun i hi k hk=>?_,by omega,by omega,by omega,by omega,fun j hj=>by show n+j<_;omega⟩
 ·unfold tF
  split
  ·exact(hr.row i).fq k
  ·split
   ·exact one_eq.2.fq.mono hL
   ·split
    ·exact hb.fq i
    ·exact wh (by omega)
 ·unfold tF
  rw[if_neg (by omega),if_neg (by omega),if_neg (by omega)]
theorem aek(ho:pY M ob O)(hr:pY L rw R)(hb:eA K bd g)(hM:M≤4000000000)(hL:L≤4000000000)(hK:K≤4000000000)(hv:HU n ob rw bd):
  iw ⟨(n:Int),ob,rw,bd⟩=some (true,(n:Int),mq ob.length (fun _=>n) O,bq rw.length (fun j=>n+j),mq rw.length (fun _=>n+rw.length+1) (tF n rw.length R g)):=by
 have v:=D0 (n:=(n:Int)) (ob:=ob) (rw:=rw) (bd:=bd) (by obtain⟨_,_,_,h,_⟩:=hv;omega) (by obtain⟨_,_,_,_,h,_⟩:=hv;omega)
 rw[decide_eq_true hv]at v
 unfold iw
 exact bind_eq v<|bind_eq rfl<|aE rfl<|bind_eq (aej ho hr hb hM hL hK hv) rfl
end new
end Go.Proofs.YtningmnklfpfjaaGreat
namespace Go.Proofs.YtningmnklfpfjaaGreat
open Go.Fw
theorem FI(h:Nat→Nat→Rat)(m:Nat):∀n,c8 (fun i=>c8 (fun j=>h i j) m) n=c8 (fun j=>c8 (fun i=>h i j) n) m
 |0=>by
  show(0:Rat)=c8 (fun j=>(0:Rat)) m
  rw[nx]
 |n+1=>by
  show c8 (fun i=>c8 (fun j=>h i j) m) n+c8 (fun j=>h n j) m=c8 (fun j=>c8 (fun i=>h i j) n+h n j) m
  rw[FI h m n,DW]
def tQ(n m:Nat)(F:Nat→Nat→Rat)(z:Nat→Rat):Prop:=∀i,i<m→c8 (fun k=>F i k*z k) (n+m)=F i (n+m)
def Uc(m:Nat)(F:Nat→Nat→Rat)(b:Nat→Nat):Prop:=∀i j,i<m→j<m→F i (b j)=if i=j then 1 else 0
section lT
variable {n m r c:Nat}{F:Nat→Nat→Rat}{b:Nat→Nat}{z:Nat→Rat}
theorem FJ(N:Nat):c8 (fun k=>lT F r c r k*z k) N=(F r c)⁻¹*c8 (fun k=>F r k*z k) N:=by
 rw[←vE]
 refine eD (fun k _=>?_)
 unfold lT
 rw[if_pos rfl,Rat.div_def];grind
theorem FK{i:Nat}(hne:i≠r)(N:Nat):c8 (fun k=>lT F r c i k*z k) N=c8 (fun k=>F i k*z k) N-F i c*((F r c)⁻¹*c8 (fun k=>F r k*z k) N):=by
 rw[←vE,←vE,←DX]
 refine eD (fun k _=>?_)
 unfold lT
 rw[if_neg hne,Rat.div_def];grind
theorem zB(hr:r<m)(h0:F r c≠0):tQ n m (lT F r c) z↔tQ n m F z:=by
 have hi:F r c*(F r c)⁻¹=1:=Rat.mul_inv_cancel _ h0
 have pr:lT F r c r (n+m)=(F r c)⁻¹*F r (n+m):=by unfold lT;rw[if_pos rfl,Rat.div_def];grind
 have pi:∀i,i≠r→lT F r c i (n+m)=F i (n+m)-F i c*((F r c)⁻¹*F r (n+m)):=fun i h=>by unfold lT;rw[if_neg h,Rat.div_def];grind
 constructor
 ·intro h
  have e:=h r hr
  rw[FJ,pr]at e
  have er:c8 (fun k=>F r k*z k) (n+m)=F r (n+m):=by
   have:=congrArg (fun x=>F r c*x) e
   simp only[←Rat.mul_assoc,hi,Rat.one_mul]at this
   exact this
  intro i hi'
  by_cases q:i=r
  ·subst q;exact er
  ·have e2:=h i hi'
   rw[FK q,pi i q,er]at e2
   grind
 ·intro h i hi'
  by_cases q:i=r
  ·subst q;rw[FJ,pr,h _ hi']
  ·rw[FK q,pi i q,h i hi',h r hr]
theorem vH(hr:r<m)(h0:F r c≠0)(hu:Uc m F b):Uc m (lT F r c) (fun j=>if j=r then c else b j):=by
 have hi:F r c*(F r c)⁻¹=1:=Rat.mul_inv_cancel _ h0
 intro i j hi' hj
 show lT F r c i (if j=r then c else b j)=_
 by_cases e:j=r
 ·subst e
  rw[if_pos rfl]
  unfold lT
  by_cases q:i=j
  ·subst q;rw[if_pos rfl,if_pos rfl,Rat.div_def];exact hi
  ·rw[if_neg q,if_neg q,Rat.div_def,hi];grind
 ·rw[if_neg e]
  have z0:F r (b j)=0:=by rw[hu r j hr hj,if_neg (fun q=>e q.symm)]
  unfold lT
  rw[z0]
  by_cases q:i=r
  ·subst q;rw[if_pos rfl,if_neg (fun q=>e q.symm),Rat.div_def];grind
  ·rw[if_neg q,hu i j hi' hj,Rat.div_def];grind
theorem yf(hu:Uc m F b){i j:Nat}(hi:i<m)(hj:j<m)(e:b i=b j):i=j:=by
 by_cases q:i=j
 ·exact q
 ·have h1:=hu i i hi hi
  have h2:=hu i j hi hj
  rw[if_pos rfl]at h1
  rw[if_neg q,←e,h1]at h2
  exact absurd h2 (by decide)
end lT
theorem ny.mono{L M n m p:Nat}{O F:Nat→Nat→Rat}{b:Nat→Nat}(h:ny L n m p O F b)(hl:L≤M):ny M n m p O F b:=
 ⟨fun i hi k=>(h.f i hi k).mono hl,fun i hi k=>(h.o i hi k).mono hl,h.z,Nat.le_trans h.l1 hl,h.hn,h.hm,h.hp,h.hb⟩
theorem LR{L n m p:Nat}{O F:Nat→Nat→Rat}{b:Nat→Nat}(h:ny L n m p O F b)(hL:L≤100000000)(hu:Uc m F b)(r c:Int):∃e F' b',
  aA true n (mq p (fun _=>n) O) (bq m b) (mq m (fun _=>n+m+1) F) r c=some (e,mq p (fun _=>n) O,bq m b',mq m (fun _=>n+m+1) F')∧ny (4*L+1) n m p O F' b'∧Uc m F' b'∧∀z,tQ n m F' z↔tQ n m F z:=by
 have hm:=h.hm
 have hn:=h.hn
 have same:∀e,aA true n (mq p (fun _=>n) O) (bq m b) (mq m (fun _=>n+m+1) F) r c=some (e,mq p (fun _=>n) O,bq m b,mq m (fun _=>n+m+1) F)→∃e F' b',aA true n (mq p (fun _=>n) O) (bq m b) (mq m (fun _=>n+m+1) F) r c=some (e,mq p (fun _=>n) O,bq m b',mq m (fun _=>n+m+1) F')∧ny (4*L+1) n m p O F' b'∧Uc m F' b'∧∀z,tQ n m F' z↔tQ n m F z:=
  fun e he=>⟨e,F,b,he,h.mono (by omega),hu,fun _=>Iff.rfl⟩
 have wd:dr (⟨true,(n:Int),mq p (fun _=>n) O,bq m b,mq m (fun _=>n+m+1) F⟩:Tb)=some ((n+m:Nat):Int):=ye hn hm
 have ms:bK (⟨true,(n:Int),mq p (fun _=>n) O,bq m b,mq m (fun _=>n+m+1) F⟩:Tb)=some false:=ij n m p O F b
 have rl:=c9 m (fun _=>n+m+1) F
 by_cases h1:r<0
 ·refine same 1 ?_
  unfold aA
  exact bind_eq ms<|aE rfl<|aZ<|bind_eq (dT h1)<|bind_eq (a:=true) (aV rfl rfl)<|bind_eq (a:=true) (aV rfl rfl)<|bind_eq (a:=true) (aV rfl rfl)<|aV rfl rfl
 by_cases h2:(m:Int)≤r
 ·refine same 1 ?_
  unfold aA
  exact bind_eq ms<|aE rfl<|aZ<|bind_eq (dF h1)<|bind_eq (a:=true) (aE rfl<|bind_eq rfl<|bind_eq (dT (by omega)) rfl)<|bind_eq (a:=true) (aV rfl rfl)<|bind_eq (a:=true) (aV rfl rfl)<|aV rfl rfl
 by_cases h3:c<0
 ·refine same 1 ?_
  unfold aA
  exact bind_eq ms<|aE rfl<|aZ<|bind_eq (dF h1)<|bind_eq (a:=false) (aE rfl<|bind_eq rfl<|bind_eq (dF (by omega)) rfl)<|bind_eq (a:=true) (aE rfl<|bind_eq (dT h3) rfl)<|bind_eq (a:=true) (aV rfl rfl)<|aV rfl rfl
 by_cases h4:((n+m:Nat):Int)≤c
 ·refine same 1 ?_
  unfold aA
  exact bind_eq ms<|aE rfl<|aZ<|bind_eq (dF h1)<|bind_eq (a:=false) (aE rfl<|bind_eq rfl<|bind_eq (dF (by omega)) rfl)<|bind_eq (a:=false) (aE rfl<|bind_eq (dF h3) rfl)<|bind_eq (a:=true) (aE rfl<|bind_eq wd<|bind_eq (dT h4) rfl)<|aV rfl rfl
 obtain⟨r,rfl⟩:∃k:Nat,r=(k:Int):=⟨r.toNat,by omega⟩
 obtain⟨c,rfl⟩:∃k:Nat,c=(k:Int):=⟨c.toNat,by omega⟩
 have hr:r<m:=by omega
 have hc:c<n+m:=by omega
 have g1:(mq m (fun _=>n+m+1) F)[r]? =some (vq (n+m+1) (F r)):=iz hr
 have g2:(vq (n+m+1) (F r))[c]? =some (qn (F r c)):=lM (by omega)
 have sg:=((h.f r hr c).rep h.l1).sign (by omega)
 have LM:r<(mq m (fun _=>n+m+1) F).length:=by rw[c9];exact hr
 have Sx:=iU m b
 have bg:∀j,j<m→(bq m b)[j]? =some ((b j:Nat):Int):=fun j hj=>oE hj
 by_cases h5:∀j,j<m→b j≠c
 ·by_cases h6:F r c=0
  ·refine same 7 ?_
   unfold aA
   generalize bq m b=B at*
   generalize mq m (fun _=>n+m+1) F=rows at*
   refine bind_eq ms<|aE rfl<|aZ<|bind_eq (dF (by omega))<|bind_eq (a:=false) (aE rfl<|bind_eq rfl<|bind_eq (dF (by omega)) rfl)<|bind_eq (a:=false) (aE rfl<|bind_eq (dF (by omega)) rfl)<|bind_eq (a:=false) (aE rfl<|bind_eq wd<|bind_eq (dF (by omega)) rfl)<|aE rfl<|bind_eq rfl ?_
   refine aW (fun k=>(k:Int)) m (.inl ()) rfl (fun k hk=>?_) ?_ ?_
   ·exact bind_eq (dT (by omega))<|aV rfl<|bind_eq (bn (by omega))<|bind_eq (bg k hk)<|bind_eq (dF (by have:=h5 k hk;omega))<|aE rfl<|bind_eq (congrArg some (bk (by omega))) rfl
   ·exact bind_eq (dF (by omega))<|aE rfl rfl
   ·generalize qn (F r c)=q at*
    obtain⟨⟨_,_⟩,⟨_,_⟩⟩:=q
    exact bind_eq (bn LM)<|bind_eq g1<|bind_eq (aP g2)<|bind_eq sg<|bind_eq (dT (lQ.2 h6))<|aV rfl rfl
  ·exact⟨0,_,_,D1 h hL hr hc h5 h6,As h hr hc h6,vH hr h6 hu,fun z=>zB hr h6⟩
 ·refine same 1 ?_
  unfold aA
  generalize bq m b=B at*
  generalize mq m (fun _=>n+m+1) F=rows at*
  refine bind_eq ms<|aE rfl<|aZ<|bind_eq (dF (by omega))<|bind_eq (a:=false) (aE rfl<|bind_eq rfl<|bind_eq (dF (by omega)) rfl)<|bind_eq (a:=false) (aE rfl<|bind_eq (dF (by omega)) rfl)<|bind_eq (a:=false) (aE rfl<|bind_eq wd<|bind_eq (dF (by omega)) rfl)<|aE rfl<|bind_eq rfl ?_
  refine bind_eq (wj (n:=m) (p:=fun j=>b j≠c) (e:=(1,mq p (fun _=>n) O,B,rows)) (fun k hk=>?_) (bind_eq (dF (by omega))<|aE rfl rfl)) ?_
  ·refine bind_eq (dT (by omega))<|aV rfl<|bind_eq (bn (by omega))<|bind_eq (bg k hk)<|bind_eq rfl ?_
   by_cases q:b k=c
   ·rw[if_neg (fun e=>e q)];exact aV (decide_eq_true (show((b k:Nat):Int)=(c:Int) by omega)) rfl
   ·rw[if_pos q];exact aE (decide_eq_false (show ¬((b k:Nat):Int)=(c:Int) by omega))<|bind_eq (congrArg some (bk (by omega))) rfl
  ·rw[if_neg h5]
end Go.Proofs.YtningmnklfpfjaaGreat
namespace Go.Proofs.YtningmnklfpfjaaGreat
open Go.Fw
theorem J9(k:List Int):vN (List.replicate k.length 0) k=k:=by unfold vN;simp
theorem Sl{n m p:Nat}{O F:Nat→Nat→Rat}{b:Nat→Nat}(hm:m≤128):ee (HJ n m p O F b)=some (bq m b):=by
 unfold ee
 refine bind_eq (ij n m p O F b)<|aE rfl<|bind_eq rfl<|bind_eq (pQ (n:=(bq m b).length) (by decide) (by rw[iU];omega)) ?_
 show some (vN (List.replicate (bq m b).length 0) (bq m b))=_
 rw[J9]
theorem FL(l:List Int)(h:l.length≤1000000):hH l l=some true:=by
 unfold hH
 refine bind_eq rfl<|bind_eq rfl<|bind_eq (dF (by simp))<|aE rfl ?_
 refine aW (fun k=>(k:Int)) l.length (.inl ()) rfl (fun k hk=>?_) (bind_eq rfl<|bind_eq (dF (by omega))<|aE rfl rfl) rfl
 have g:=List.getElem?_eq_getElem hk
 exact bind_eq rfl<|bind_eq (dT (by omega))<|aV rfl<|bind_eq (aP g)<|bind_eq (aP g)<|bind_eq (dF (by simp))<|aE rfl<|bind_eq (congrArg some (bk (by omega))) rfl
def UN(i j:Nat):Rat:=(((([[3,5]]:List (List Int)).getD i []).getD j 0:Int):Rat)
def exR(i j:Nat):Rat:=(((([[1,0],[0,2],[3,2]]:List (List Int)).getD i []).getD j 0:Int):Rat)
def exG(i:Nat):Rat:=((([4,12,18]:List Int).getD i 0:Int):Rat)
def Oa:Nat→Nat→Rat:=tF 2 3 exR exG
def Sn:Nat→Nat→Rat:=lT Oa 1 1
def Z4:Nat→Nat→Rat:=lT Sn 2 0
def So(j:Nat):Nat:=2+j
def UO(j:Nat):Nat:=if j=1 then 1 else So j
def Z5(j:Nat):Nat:=if j=2 then 0 else UO j
theorem ua{L n:Nat}{f:Nat→Rat}{v:List Qr}{k:Nat→Rat}(h:∀i,i<n→FQ L (f i))(h1:1≤L)(hL:L≤1000000000)(hv:eA 2 v k)(hn:v.length=n)(e:∀i,i<n→f i=k i):cK (vq n f) v=some true:=by
 have:=veq (HI h h1) hv (by omega)
 rw[this,cc,hn,Nat.max_self,decide_eq_true (fun i hi=>by rw[zy hi];exact e i hi)]
theorem F6{L n:Nat}{f:Nat→Rat}{v:List Qr}{k:Nat→Rat}(h:∀i,i<n→FQ L (f i))(h1:1≤L)(hL:L≤1000000000)(hv:eA 2 v k)(hn:v.length=n):cK (vq n f) v=some (decide (∀i,i<n→f i=k i)):=by
 have:=veq (HI h h1) hv (by omega)
 rw[this,cc,hn,Nat.max_self]
 congr 1
 exact decide_eq_decide.2 ⟨fun q i hi=>by have:=q i hi;rw[zy hi]at this;exact this,fun q i hi=>by rw[zy hi];exact q i hi⟩
set_option maxRecDepth 100000 in
theorem Z6:dN=some true:=by
 obtain⟨eo,ro⟩:=Wn (l:=[[3,5]]) (by decide) (by decide)
 obtain⟨er,rr⟩:=Wn (l:=[[1,0],[0,2],[3,2]]) (by decide) (by decide)
 obtain⟨eb,rb⟩:=zx (l:=[4,12,18]) (by decide) (by decide)
 obtain⟨i1,q1⟩:=zx (l:=[-3,1,0]) (by decide) (by decide)
 obtain⟨i2,q2⟩:=zx (l:=[4,6,6]) (by decide) (by decide)
 obtain⟨i3,q3⟩:=zx (l:=[30,0,-6]) (by decide) (by decide)
 obtain⟨i4,q4⟩:=zx (l:=[2,6,2]) (by decide) (by decide)
 obtain⟨i5,q5⟩:=zx (l:=[2,6]) (by decide) (by decide)
 obtain⟨i6,q6⟩:=zx (l:=[36,-2,-6]) (by decide) (by decide)
 have l0:(vq [(4:Int),12,18].length (fun i=>(([(4:Int),12,18].getD i 0:Int):Rat))).length=3:=cc _ _
 have l1:(vq [(-3:Int),1,0].length (fun i=>(([(-3:Int),1,0].getD i 0:Int):Rat))).length=3:=cc _ _
 have l2:(vq [(4:Int),6,6].length (fun i=>(([(4:Int),6,6].getD i 0:Int):Rat))).length=3:=cc _ _
 have l3:(vq [(30:Int),0,-6].length (fun i=>(([(30:Int),0,-6].getD i 0:Int):Rat))).length=3:=cc _ _
 have l4:(vq [(2:Int),6,2].length (fun i=>(([(2:Int),6,2].getD i 0:Int):Rat))).length=3:=cc _ _
 have l5:(vq [(2:Int),6].length (fun i=>(([(2:Int),6].getD i 0:Int):Rat))).length=2:=cc _ _
 have l6:(vq [(36:Int),-2,-6].length (fun i=>(([(36:Int),-2,-6].getD i 0:Int):Rat))).length=3:=cc _ _
 generalize hmo:mq [[(3:Int),5]].length _ _=mo at eo ro
 generalize hmr:mq [[(1:Int),0],[0,2],[3,2]].length _ _=mr at er rr
 generalize vq [(4:Int),12,18].length _=vb at eb rb l0
 generalize vq [(-3:Int),1,0].length _=v1 at i1 q1 l1
 generalize vq [(4:Int),6,6].length _=v2 at i2 q2 l2
 generalize vq [(30:Int),0,-6].length _=v3 at i3 q3 l3
 generalize vq [(2:Int),6,2].length _=v4 at i4 q4 l4
 generalize vq [(2:Int),6].length _=v5 at i5 q5 l5
 generalize vq [(36:Int),-2,-6].length _=v6 at i6 q6 l6
 have lo:mo.length=1:=by rw[←hmo,c9];rfl
 have lr:mr.length=3:=by rw[←hmr,c9];rfl
 have wo:∀v∈mo,v.length≤2:=by rw[←hmo];decide+kernel
 have wr:∀v∈mr,v.length≤2:=by rw[←hmr];decide+kernel
 have co:r9 mo≤2:=si.2 wo
 have cr:r9 mr≤2:=si.2 wr
 have hv:HU ((2:Nat):Int) mo mr vb:=⟨by decide,by decide,by omega,by omega,by omega,by omega,by omega,by omega⟩
 have eN:=aek (n:=2) ro rr rb (by decide) (by decide) (by decide) hv
 have k0:=HK (n:=2) ro rr rb (by decide) hv
 rw[lo,lr]at eN k0
 have k0:ny 2 2 3 1 UN Oa So:=k0
 have eN:iw ⟨2,mo,mr,vb⟩=some (true,2,mq 1 (fun _=>2) UN,bq 3 So,mq 3 (fun _=>6) Oa):=eN
 have p1:Oa 1 1≠0:=by decide+kernel
 have p2:Sn 2 0≠0:=by decide+kernel
 have k1:ny 9 2 3 1 UN Sn UO:=As k0 (r:=1) (c:=1) (by decide) (by decide) p1
 have k2:ny 37 2 3 1 UN Z4 Z5:=As k1 (r:=2) (c:=0) (by decide) (by decide) p2
 have t1:aA true 2 (mq 1 (fun _=>2) UN) (bq 3 So) (mq 3 (fun _=>6) Oa) 1 1=some (0,mq 1 (fun _=>2) UN,bq 3 UO,mq 3 (fun _=>6) Sn):=D1 k0 (by decide) (r:=1) (c:=1) (by decide) (by decide) (by decide+kernel) p1
 have t2:aA true 2 (mq 1 (fun _=>2) UN) (bq 3 UO) (mq 3 (fun _=>6) Sn) 2 0=some (0,mq 1 (fun _=>2) UN,bq 3 Z5,mq 3 (fun _=>6) Z4):=D1 k1 (by decide) (r:=2) (c:=0) (by decide) (by decide) (by decide+kernel) p2
 have a0:ee (HJ 2 3 1 UN Oa So)=some [2,3,4]:=Sl (by decide)
 have a0':=FL [2,3,4] (by decide)
 have a1:=LQ k0 (by decide)
 have b1:=ua (fun i hi=>k0.f i hi 5) (by decide) (by decide) rb l0 (by decide+kernel)
 have a2:=(J7 k0 (by decide) (c:=0) (by decide)).1
 have b2:=ua (fun i (_:i<3)=>(J7 k0 (by decide) (c:=0) (by decide)).2.fq i) (by decide) (by decide) q1 l1 (by decide+kernel)
 have a3:=LQ k1 (by decide)
 have b3:=ua (fun i hi=>k1.f i hi 5) (by decide) (by decide) q2 l2 (by decide+kernel)
 have a4:=M1 k1 (by decide)
 have b4:=ua (fun i (_:i<3)=>B0 k1 (fun j hj=>k1.f j hj 5) 3 (Nat.le_refl _) i) (by decide) (by decide) q3 l3 (by decide+kernel)
 have a5:=J8 k1 (by decide)
 rw[decide_eq_false (by decide+kernel)]at a5
 have a6:=LQ k2 (by decide)
 have b6:=ua (fun i hi=>k2.f i hi 5) (by decide) (by decide) q4 l4 (by decide+kernel)
 have a7:=Ar k2 (by decide)
 have s7:∀i,i<2→FQ 37 (qj 2 3 Z4 Z5 3 i):=fun i hi=>by
  match i,hi with
  |0,_=>exact k2.f 2 (by decide) 5
  |1,_=>exact k2.f 1 (by decide) 5
 have b7:=ua s7 (by decide) (by decide) q5 l5 (by decide+kernel)
 have a8:=M1 k2 (by decide)
 have b8:=ua (fun i (_:i<3)=>B0 k2 (fun j hj=>k2.f j hj 5) 3 (Nat.le_refl _) i) (by decide) (by decide) q6 l6 (by decide+kernel)
 have a9:=J8 k2 (by decide)
 rw[decide_eq_true (by decide+kernel)]at a9
 have a10:=N9 k2 (by decide)
 rw[decide_eq_true (by decide+kernel)]at a10
 unfold dN nF
 refine bind_eq (bind_eq eo<|bind_eq er<|bind_eq eb rfl)<|bind_eq eN<|aZ ?_
 refine bind_eq (a:=false) (aE rfl rfl)<|bind_eq (a:=false) (aE rfl<|bind_eq a0<|bind_eq a0'<|bind_eq rfl rfl)<|bind_eq (a:=false) (aE rfl<|bind_eq a1<|bind_eq eb<|bind_eq b1<|bind_eq rfl rfl)<|bind_eq (a:=false) (aE rfl<|bind_eq a2<|bind_eq i1<|bind_eq b2<|bind_eq rfl rfl)<|aE rfl<|bind_eq t1<|aZ ?_
 refine bind_eq (dF (by decide))<|bind_eq (a:=false) (aE rfl<|bind_eq a3<|bind_eq i2<|bind_eq b3<|bind_eq rfl rfl)<|bind_eq (a:=false) (aE rfl<|bind_eq a4<|bind_eq i3<|bind_eq b4<|bind_eq rfl rfl)<|bind_eq (a:=false) (aE rfl<|bind_eq a5 rfl)<|aE rfl<|bind_eq t2<|aZ ?_
 exact bind_eq (dT rfl)<|Sb (bind_eq a6<|bind_eq i4<|bind_eq b6 rfl)<|Sb (bind_eq a7<|bind_eq i5<|bind_eq b7 rfl)<|Sb (bind_eq a8<|bind_eq i6<|bind_eq b8 rfl)<|Sb (bind_eq a9 rfl)<|Sb (bind_eq a10 rfl) rfl
end Go.Proofs.YtningmnklfpfjaaGreat
