/- A part of the proof: the framework, the plain functions, the followed functions, the plain laws. -/
import Derived.Test.YtmiflmkdaeianaaGreatPBM3
set_option linter.unusedVariables false
set_option linter.unusedSimpArgs false
namespace Go.Proofs.YtmiflmkdaeianaaGreat
open Go.Fw Go.Fw.Z Go.RowKit
theorem AW{x0:List (List Qr)}{r:Bool}(h:fu x0=some r):Pure Tryz.prog 14 [slc 1 (List.map (eS 4 eQ) x0)] (.v (.bool r)):=by
 refine aq Tryz.func14 rfl (Nat.le_of_ble_eq_true rfl) (fun c9 M vs hvs=>?_)
 unfold fu at h
 refine sr<|ag rfl<|dn<|sr<|ag rfl<|dn<|qq<|sr<|ag rfl<|dn<|bE h fun Ll CI vr=>?_
 refine aP (fun(Gf:Unit)=>AS.bL 55 [] [] []) (fun Gf=>.inl Gf=Ll) ?_ (fun Gf zS=>?_)
 refine ax ?_
 refine aQ CI (fun zO=>AS.bL 55 [(0,.sv (slc 1 (List.map (eS 4 eQ) x0))),(3,.sv (.v (.int .i64 zO.1))),(4,.sv (.v (.int .i64 zO.2)))] [] []) (wR []) (fun zO y16 G16 h Gc AQ=>?_)
 obtain⟨WJ,CT⟩:=zO
 try dsimp only
 refine qq<|sr<|mv rfl<|mv rfl<|lE h fun x8 h8 h=>ln rfl h8<|lE h fun x9 h9 h=>ls _ rfl rfl h9<|dn ?_
 cases x9
 refine cF<|aW<|ae.x<|ae.x<|aG.x<|ae.n ?_
 obtain rfl:=O (F h)
 exact⟨(),AQ _ rfl,wR []⟩
 refine cT<|aE<|ae.n<|qq<|ax<|qq<|sr<|mv rfl<|mv rfl<|bE (V h) fun gp kU h=>ix rfl rfl kU<|lr rfl rfl<|lE h fun ek jz h=>ln rfl jz<|lE h fun dI iW h=>gt _ rfl rfl iW<|dn ?_
 cases dI
 refine fs<|qq<|sr<|ag rfl<|dn<|bE (F h) fun e22 S3 AR=>?_
 refine aP (fun(xx:Int)=>AS.bL 55 [(0,.sv (slc 1 (List.map (eS 4 eQ) x0))),(3,.sv (.v (.int .i64 xx))),(4,.sv (.v (.int .i64 CT)))] [] []) (fun xx=>xx=e22) ?_ (fun xx S4=>?_)
 refine ax ?_
 refine aQ S3 (fun F7=>AS.bL 55 [(0,.sv (slc 1 (List.map (eS 4 eQ) x0))),(3,.sv (.v (.int .i64 F7.1))),(4,.sv (.v (.int .i64 CT))),(5,.sv (.v (.int .i64 F7.2)))] [] []) (wR []) (fun F7 y22 G22 h S5 S6=>?_)
 obtain⟨Hl,oW⟩:=F7
 try dsimp only
 refine qq<|sr<|mv rfl<|mv rfl<|mv rfl<|bE h fun ij mX h=>ix rfl rfl mX<|lr rfl rfl<|lE h fun ig mB h=>ln rfl mB<|lE h fun dR lQ h=>ls _ rfl rfl lQ<|dn ?_
 cases dR
 refine cF<|aW<|ae.x<|ae.x<|aG.x<|ae.n ?_
 obtain rfl:=O (F h)
 exact⟨Hl,S6 _ rfl,wR []⟩
 refine cT<|aE<|ae.n<|qq<|ax<|ai mixed<|mv rfl<|lE (V h) fun jR ru h=>ad _ rfl rfl ru<|mv rfl<|mv rfl<|bE h fun lU sV h=>ix rfl rfl sV<|lr rfl rfl<|mv rfl ?_
 obtain⟨⟨⟨Bp,xl⟩,⟨PY,PZ⟩⟩,qH,h⟩:=bS h
 refine ix rfl rfl qH<|RT.aH .none rfl T rfl<|RT.aH .none rfl T rfl<|lr rfl rfl<|lE h fun oa zw h=>ln rfl zw<|lE h fun qN Ct h=>RT.min .none _ rfl rfl T (Rg (p:=100) (q:=oa) Ct)<|lE h fun mO sx h=>ad _ rfl rfl sx<|mv rfl<|mv rfl<|bE h fun xN GX h=>ix rfl rfl GX<|lr rfl rfl<|mv rfl ?_
 obtain⟨⟨⟨Ei,Ej⟩,⟨P0,Ho⟩⟩,h46,h⟩:=bS h
 refine ix rfl rfl h46<|RT.aH .none rfl T rfl<|RT.aH .none rfl T rfl<|lr rfl rfl<|lE h fun tB Co h=>ln rfl Co<|lE h fun E6 IE h=>RT.min .none _ rfl rfl T (Rg (p:=100) (q:=tB) IE)<|lE h fun xO IF h=>ad _ rfl rfl IF<|ag rfl ?_
 refine RT.done ⟨by kernel_rfl,?_⟩
 refine aG.n<|ae.n<|af<|mv rfl<|lE h fun gu mD h=>ad _ rfl rfl mD<|ag rfl<|RT.done ?_
 obtain rfl:=O h
 exact ae.n ⟨(xO,gu),S5 _ rfl,wR []⟩
 subst S4
 try dsimp only
 refine ae.n<|sr<|mv rfl<|lE AR fun RL h54 AR=>gt _ rfl rfl h54<|dn ?_
 cases RL
 refine cF<|aE<|aG.n<|ae.n<|af<|mv rfl<|lE (F AR) fun fV iV AR=>ad _ rfl rfl iV<|ag rfl<|RT.done ?_
 obtain rfl:=O AR
 exact ae.n ⟨(xx,fV),Gc _ rfl,wR []⟩
 refine cT<|sr<|ag rfl<|dn<|aj<|aG.r<|ae.r ?_
 obtain rfl:=O (V AR)
 have Lx:=AQ _ rfl
 subst Lx
 refine ae.r<|aG.r<|ae.r<|ae.r ?_
 obtain rfl:=O vr
 exact R1 rfl
 refine cT<|sr<|ag rfl<|dn<|aj<|ae.r<|aG.r<|ae.r ?_
 obtain rfl:=O (V h)
 have Lx:=AQ _ rfl
 subst Lx
 refine ae.r<|aG.r<|ae.r<|ae.r ?_
 obtain rfl:=O vr
 exact R1 rfl
 subst zS
 try dsimp only
 refine ae.n<|sr<|ag rfl<|dn<|aj ?_
 obtain rfl:=O vr
 exact R1 rfl
end Go.Proofs.YtmiflmkdaeianaaGreat
namespace Go.Proofs.YtmiflmkdaeianaaGreat
open Go.Fw
noncomputable def iQ(x0:List Mv):Option (Bool):=(some (x0.length:Int)).bind fun x6=>(some (decide ((60:Int)<x6))).bind fun x7=>(bif x7 then some true else(bC (fun(yj:Int×(List Qr))=>match yj with|⟨uj,CU⟩=>(show Option ((Int×(List Qr))⊕((Unit)⊕(Bool)))from(some (x0.length:Int)).bind fun eG=>(some (decide ((uj:Int)<eG))).bind fun fV=>(bif fV then(bQ x0 uj).bind fun⟨nc,nf,Ek,⟨⟨vz,Bx⟩,⟨By,Bz⟩⟩⟩=>(uC 64 CU [⟨⟨vz,Bx⟩,⟨By,Bz⟩⟩]).bind fun ij=>bM (fun(zX:Bool)=>bM (fun(vA:(List Qr))=>(some (IntKind.i64.wrap (uj+1))).bind fun fE=>some (.inl (fE,vA))) fun WK=>(bif zX then(fu [ij]).bind fun lW=>(bif lW then some (.inr (.inr true))else WK [])else WK ij)) fun K15=>(some (Int.tmod uj 40)).bind fun ig=>(some (decide ((ig:Int)=39))).bind fun dR=>(bif dR then some true else(some (x0.length:Int)).bind fun jR=>(some (IntKind.i64.wrap (jR-1))).bind fun gx=>(some (decide ((uj:Int)=gx))).bind fun qm=>some qm).bind fun CV=>K15 CV else some (.inr (.inl ()))))) (0,[])).bind fun IB=>match IB with|.inr v12=>some v12|.inl _=>some false)
noncomputable def dL(x0:Zr)(x1:Int):Option (Bool):=match x0 with|⟨aD,aB⟩=>(aM x1).bind fun⟨oX,oY⟩=>(dm ⟨aD,aB⟩ ⟨oX,oY⟩).bind fun x8=>some x8
noncomputable def cm(x0:Int)(x1:Int):Option (Qr):=(kN x0 x1).bind fun⟨⟨⟨Ly,Lz⟩,⟨LA,LB⟩⟩,Nn⟩=>some ⟨⟨Ly,Lz⟩,⟨LA,LB⟩⟩
noncomputable def kj(x0:List En):Option (List En):=(bC (fun(s6:Int×(List En))=>match s6 with|⟨uf,j0⟩=>(show Option ((Int×(List En))⊕((List En)))from(some (x0.length:Int)).bind fun x7=>(some (decide ((uf:Int)<x7))).bind fun x8=>(bif x8 then(bQ x0 uf).bind fun⟨my,mz,Hp,⟨Hq,Hr⟩⟩=>(uC 56 j0 [⟨my,mz,Hp,⟨Hq,Hr⟩⟩]).bind fun dI=>(some (IntKind.i64.wrap (uf+1))).bind fun eG=>some (.inl (eG,dI))else some (.inr j0)))) (0,[])).bind fun dK=>some dK
noncomputable def eE:Option (Bool):=(kR 3).bind fun⟨iq,mw⟩=>(cm 5 2).bind fun⟨⟨nc,nf⟩,⟨Ek,vz⟩⟩=>(bF iq mw 1 1 0 ⟨⟨nc,nf⟩,⟨Ek,vz⟩⟩).bind fun⟨dQ,l2⟩=>(cm (-7) 1).bind fun⟨⟨ei,kH⟩,⟨vo,qD⟩⟩=>(bF iq l2 2 1 0 ⟨⟨ei,kH⟩,⟨vo,qD⟩⟩).bind fun⟨ij,l4⟩=>(cm 1 1).bind fun⟨⟨nj,nk⟩,⟨Bt,Eb⟩⟩=>(bF iq l4 3 1 0 ⟨⟨nj,nk⟩,⟨Bt,Eb⟩⟩).bind fun⟨dR,l6⟩=>(cm 1 1).bind fun⟨⟨P1,P2⟩,⟨P3,P4⟩⟩=>(bF iq l6 0 1 0 ⟨⟨P1,P2⟩,⟨P3,P4⟩⟩).bind fun⟨jr,l8⟩=>(cm 1 1).bind fun⟨⟨xp,xq⟩,⟨P5,P6⟩⟩=>(bF iq l8 1 5 0 ⟨⟨xp,xq⟩,⟨P5,P6⟩⟩).bind fun⟨qm,E7⟩=>(cm 1 1).bind fun⟨⟨mR,mh⟩,⟨DY,DZ⟩⟩=>(bF iq E7 1 4 8 ⟨⟨mR,mh⟩,⟨DY,DZ⟩⟩).bind fun⟨iZ,E8⟩=>(gZ iq E8).bind fun pH=>bM (fun(LC:Bool)=>some LC) fun afp=>(cm 5 2).bind fun⟨⟨jS,jb⟩,⟨Hi,Hj⟩⟩=>(er ⟨⟨jS,jb⟩,⟨Hi,Hj⟩⟩).bind fun⟨rC,rD⟩=>(dL ⟨rC,rD⟩ 2).bind fun oa=>(bif oa then(cm 7 2).bind fun⟨⟨mm,mq⟩,⟨D0,D1⟩⟩=>(er ⟨⟨mm,mq⟩,⟨D0,D1⟩⟩).bind fun⟨D2,D3⟩=>(dL ⟨D2,D3⟩ 4).bind fun oc=>some oc else some false).bind fun Hs=>(bif Hs then(cm (-5) 2).bind fun⟨⟨Ht,Hu⟩,⟨Hv,El⟩⟩=>(er ⟨⟨Ht,Hu⟩,⟨Hv,El⟩⟩).bind fun⟨Ei,Ej⟩=>(dL ⟨Ei,Ej⟩ (-2)).bind fun As=>some As else some false).bind fun ND=>(bif ND then(cm 8 3).bind fun⟨⟨Em,Hw⟩,⟨Hx,Hy⟩⟩=>(er ⟨⟨Em,Hw⟩,⟨Hx,Hy⟩⟩).bind fun⟨DT,DU⟩=>(dL ⟨DT,DU⟩ 3).bind fun xO=>some xO else some false).bind fun NF=>(bif NF then(some (decide ((dQ:Int)=0))).bind fun M9=>some M9 else some false).bind fun NG=>(bif NG then(some (decide ((ij:Int)=0))).bind fun DQ=>some DQ else some false).bind fun NH=>(bif NH then(some (decide ((dR:Int)=1))).bind fun Tg=>some Tg else some false).bind fun NI=>(bif NI then(some (decide ((jr:Int)=1))).bind fun GR=>some GR else some false).bind fun NJ=>(bif NJ then(some (decide ((qm:Int)=12))).bind fun RA=>some RA else some false).bind fun NK=>(bif NK then(some (decide ((iZ:Int)=1))).bind fun SW=>some SW else some false).bind fun NL=>(bif NL then(some (pH.length:Int)).bind fun x80=>(some (decide ((x80:Int)=3))).bind fun SX=>some SX else some false).bind fun NM=>(bif NM then(bQ pH 0).bind fun⟨P7,P8⟩=>(dL ⟨P7,P8⟩ 5).bind fun RB=>some RB else some false).bind fun NN=>(bif NN then(bQ pH 1).bind fun⟨P9,Qa⟩=>(dL ⟨P9,Qa⟩ 2).bind fun RC=>some RC else some false).bind fun NO=>(bif NO then(bQ pH 2).bind fun⟨Qb,Qc⟩=>(dL ⟨Qb,Qc⟩ (-7)).bind fun Mz=>some Mz else some false).bind fun LD=>(bif LD then(iD iq E8 1).bind fun⟨LF,LG⟩=>(dL ⟨LF,LG⟩ (-5)).bind fun zh=>some zh else some false).bind fun LH=>(bif LH then(ef iq E8).bind fun WL=>(some (WL.length:Int)).bind fun Th=>(some (decide ((Th:Int)=2))).bind fun Gg=>some Gg else some false).bind fun LI=>afp LI
end Go.Proofs.YtmiflmkdaeianaaGreat
namespace Go.Proofs.YtmiflmkdaeianaaGreat
open Go.Fw Go.Fw.Z Go.RowKit
theorem sY{x0:List Mv}{r:Bool}(h:iQ x0=some r):Pure Tryz.prog 4 [slc 7 (List.map Iu x0)] (.v (.bool r)):=by
 refine aq Tryz.func4 rfl (Nat.le_of_ble_eq_true rfl) (fun c9 M vs hvs=>?_)
 unfold iQ at h
 refine sr<|ag rfl<|dn<|qq<|sr<|mv rfl<|lE h fun x6 h6 h=>ln rfl h6<|lE h fun x7 h7 h=>gt _ rfl rfl h7<|dn ?_
 cases x7
 refine fs<|sr<|ag rfl<|dn<|bq (eY 3 304 37 4 rfl rfl T)<|qq<|sr<|ag rfl<|dn<|bE (F h) fun IB Kk mY=>?_
 refine aP (fun(ry:Unit)=>AS.bL 35 [] [] []) (fun ry=>.inl ry=IB) ?_ (fun ry Kl=>?_)
 refine ax ?_
 refine aQ Kk (fun yj=>AS.bL 35 [(0,.sv (slc 7 (List.map Iu x0))),(3,.row 309),(4,.sv (.v (.int .i64 yj.1)))] [] [(309,TR 37 4 eQ yj.2)]) (dx (fun i=>bif Nat.beq i 309 then 304 else i) rfl rfl rfl rfl rfl ⟨.sv (SV.aa _),.row rfl,.sv (SV.aa _),trivial⟩ trivial ⟨⟨_,rfl,cn.refl _⟩,trivial⟩ (fun i hi=>by rw[bD (show i≠309 by omega)];rfl)) (fun yj y12 G12 h Km II=>?_)
 obtain⟨uj,CU⟩:=yj
 try dsimp only
 refine qq<|sr<|mv rfl<|mv rfl<|lE h fun eG gG h=>ln rfl gG<|lE h fun fV iV h=>ls _ rfl rfl iV<|dn ?_
 cases fV
 refine cF<|aW<|ae.x<|ae.x<|aG.x<|ae.n ?_
 obtain rfl:=O (F h)
 exact⟨(),II _ rfl,wR []⟩
 refine cT<|aE<|ae.n<|qq<|ax<|sr<|mo (s:=.row _) rfl<|mv rfl<|mv rfl ?_
 obtain⟨⟨nc,nf,Ek,⟨⟨vz,Bx⟩,⟨By,Bz⟩⟩⟩,iW,h⟩:=bS (V h)
 refine ix rfl rfl iW<|RT.aH .none rfl T rfl<|RT.kF (cs:=[_,_,_,_]) .none rfl T rfl rfl<|bl (l:=[⟨⟨vz,Bx⟩,⟨By,Bz⟩⟩]) (e:=eQ) (.agg rfl (.nil)) rfl rfl rfl rfl rfl rfl<|bE h fun ij mX h=>aR (k:=[⟨⟨vz,Bx⟩,⟨By,Bz⟩⟩]) (e:=eQ) rfl rfl rfl mX<|an (s:=.row _) rfl<|dn<|qq ?_
 refine aC h (fun j15=>AS.bL 35 [(0,.sv (slc 7 (List.map Iu x0))),(3,.row 21),(4,.sv (.v (.int .i64 uj))),(31,.sv (.v (.bool j15)))] [] [(21,TR 37 4 eQ ij)]) (fun h=>?_) (fun zX h=>?_)
 refine af<|mv rfl<|lE h fun ig mB h=>RT.rem .none _ rfl rfl T (by decide) mB<|lE h fun dR lQ h=>eq _ rfl rfl (oN (p:=ig) (q:=39) lQ)<|mv rfl<|bE h fun CV tR h=>?_
 cases dR
 refine gm rfl<|gm rfl<|lE (F tR) fun jR ru tR=>gn rfl ru<|lE tR fun gx kW tR=>RT.sub (.some rfl rfl) _ rfl rfl T kW<|lE tR fun qm vc tR=>DO _ rfl rfl (oN (p:=uj) (q:=gx) vc) ?_
 obtain rfl:=O tR
 exact pF rfl<|dn<|⟨qm,h,wR []⟩
 obtain rfl:=O (V tR)
 exact ww<|ww<|ww<|ww<|ww<|pT rfl<|dn<|⟨true,h,wR []⟩
 try dsimp only
 refine ae.n ?_
 refine aC h (fun j17=>AS.bL 35 [(0,.sv (slc 7 (List.map Iu x0))),(3,.row 316),(4,.sv (.v (.int .i64 uj)))] [] [(316,TR 37 4 eQ j17)]) (fun h=>?_) (fun vA h=>?_)
 cases zX
 exact fs<|⟨ij,(F h),dx (fun i=>bif Nat.beq i 316 then 21 else i) rfl rfl rfl rfl rfl ⟨.sv (SV.aa _),.row rfl,.sv (SV.aa _),trivial⟩ trivial ⟨⟨_,rfl,cn.refl _⟩,trivial⟩ (fun i hi=>by rw[bD (show i≠316 by omega)];rfl)⟩
 refine cT<|qq<|qq<|bq (b8 (i:=21) (E1:=37) (n:=4) (e:=eQ) (l:=ij) rfl)<|af<|mv rfl<|bl (l:=[ij]) (e:=(eS 4 eQ)) (.one rfl (.nil)) rfl rfl rfl rfl rfl rfl<|bE (V h) fun lW qH h=>cl (AW qH) ⟨rfl,trivial⟩<|dn ?_
 cases lW
 refine fs<|af<|ag rfl<|dn ?_
 refine⟨[],(F h),?_⟩
 try dsimp only
 exact Fv (eY 3 320 37 4 rfl rfl T)<|dx (fun i=>bif Nat.beq i 316 then 320 else i) rfl rfl rfl rfl rfl ⟨.sv (SV.aa _),.row rfl,.sv (SV.aa _),trivial⟩ trivial ⟨⟨_,rfl,cn.refl _⟩,trivial⟩ (fun i hi=>by rw[bD (show i≠316 by omega)];rfl)
 refine cT<|sr<|ag rfl<|dn<|aj<|ae.r<|ae.r<|aG.r<|ae.r ?_
 obtain rfl:=O (V h)
 have afr:=II _ rfl
 subst afr
 refine ae.r<|aG.r<|ae.r<|ae.r ?_
 obtain rfl:=O mY
 exact R1 rfl
 try dsimp only
 refine aG.n<|ae.n<|af<|mv rfl<|lE h fun fE jy h=>ad _ rfl rfl jy<|ag rfl<|RT.done ?_
 obtain rfl:=O h
 exact ae.n ⟨(fE,vA),Km _ rfl,dx (fun i=>bif Nat.beq i 309 then 316 else i) rfl rfl rfl rfl rfl ⟨.sv (SV.aa _),.row rfl,.sv (SV.aa _),trivial⟩ trivial ⟨⟨_,rfl,cn.refl _⟩,trivial⟩ (fun i hi=>by rw[bD (show i≠309 by omega)];rfl)⟩
 subst Kl
 try dsimp only
 refine ae.n<|sr<|ag rfl<|dn<|aj ?_
 obtain rfl:=O mY
 exact R1 rfl
 refine cT<|sr<|ag rfl<|dn<|aj<|ae.r ?_
 obtain rfl:=O (V h)
 exact R1 rfl
theorem gC{x0:Zr}{x1:Int}{r:Bool}(h:dL x0 x1=some r):Pure Tryz.prog 17 [.agg (eZ x0),.v (.int .i64 x1)] (.v (.bool r)):=by
 obtain⟨aD,aB⟩:=x0
 refine aq Tryz.func17 rfl (Nat.le_of_ble_eq_true rfl) (fun c9 M vs hvs=>?_)
 unfold dL at h
 refine sr<|bx rfl<|ag rfl<|dn<|qq<|ai mixed<|ld rfl rfl (.cons rfl (.cons rfl (.nil)))<|mv rfl ?_
 obtain⟨⟨oX,oY⟩,h7,h⟩:=bS h
 refine cl (bN h7) ⟨rfl,trivial⟩<|bE h fun x8 h8 h=>cl (jg h8) ⟨rfl,rfl,trivial⟩<|ag rfl ?_
 refine RT.done ⟨by kernel_rfl,?_⟩
 refine ae.n<|aj ?_
 obtain rfl:=O h
 exact R1 rfl
theorem dh{x0:Int}{x1:Int}{r:Qr}(h:cm x0 x1=some r):Pure Tryz.prog 15 [.v (.int .i64 x0),.v (.int .i64 x1)] (.agg (eQ r)):=by
 refine aq Tryz.func15 rfl (Nat.le_of_ble_eq_true rfl) (fun c9 M vs hvs=>?_)
 unfold cm at h
 refine sr<|al (cs:=[.v (.bool false),slc 1 (List.map ah []),.v (.bool false),slc 1 (List.map ah [])]) (by exact⟨SV.aa _,imp_nil,SV.aa _,imp_nil,trivial⟩) rfl<|dn<|sr<|mv rfl<|mv rfl ?_
 obtain⟨⟨⟨⟨Ly,Lz⟩,⟨LA,LB⟩⟩,Nn⟩,gG,h⟩:=bS h
 refine cl (xm gG) ⟨rfl,rfl,trivial⟩<|mv rfl<|ex rfl rfl<|ex rfl rfl<|al (cs:=[.v (.bool false),slc 1 (List.map ah []),.v (.bool false),slc 1 (List.map ah [])]) (by exact⟨SV.aa _,imp_nil,SV.aa _,imp_nil,trivial⟩) rfl<|so rfl rfl rfl<|ag rfl<|dn<|sr<|ld rfl rfl (.cons rfl (.cons rfl (.cons rfl (.cons rfl (.nil)))))<|so rfl rfl rfl<|dn<|aj ?_
 obtain rfl:=O h
 exact RZ (.agg rfl rfl (.cons rfl (.cons rfl (.cons rfl (.cons rfl (.nil))))) rfl (.nil))
theorem AX{x0:List En}{r:List En}(h:kj x0=some r):Pure Tryz.prog 25 [slc 5 (List.map dH x0)] (slc 5 (List.map dH r)):=by
 refine aq Tryz.func25 rfl (Nat.le_of_ble_eq_true rfl) (fun c9 M vs hvs=>?_)
 unfold kj at h
 refine sr<|aI rfl (imp_nil (n:=5) (e:=dH))<|dn<|sr<|ag rfl<|dn<|bq (eY 3 304 64 5 rfl rfl T)<|qq<|sr<|ag rfl<|dn<|bE h fun e6 FF kV=>?_
 refine aP (fun(dK:(List En))=>AS.bL 19 [(3,.row 306)] [] [(306,TR 64 5 dH dK)]) (fun dK=>dK=e6) ?_ (fun dK FG=>?_)
 refine ax ?_
 refine aQ FF (fun s6=>AS.bL 19 [(0,.sv (slc 5 (List.map dH x0))),(3,.row 306),(4,.sv (.v (.int .i64 s6.1)))] [] [(306,TR 64 5 dH s6.2)]) (dx (fun i=>bif Nat.beq i 306 then 304 else i) rfl rfl rfl rfl rfl ⟨.sv (SV.aa _),.row rfl,.sv (SV.aa _),trivial⟩ trivial ⟨⟨_,rfl,cn.refl _⟩,trivial⟩ (fun i hi=>by rw[bD (show i≠306 by omega)];rfl)) (fun s6 y6 G6 h FH Ck=>?_)
 obtain⟨uf,j0⟩:=s6
 try dsimp only
 refine qq<|sr<|mv rfl<|mv rfl<|lE h fun x7 h7 h=>ln rfl h7<|lE h fun x8 h8 h=>ls _ rfl rfl h8<|dn ?_
 cases x8
 refine cF<|aW<|ae.x<|ae.x<|aG.x<|ae.n ?_
 obtain rfl:=O (F h)
 exact⟨j0,Ck _ rfl,wR []⟩
 refine cT<|aE<|ae.n<|qq<|ax<|af<|mo (s:=.row _) rfl<|mv rfl<|mv rfl ?_
 obtain⟨⟨my,mz,Hp,⟨Hq,Hr⟩⟩,kU,h⟩:=bS (V h)
 refine ix rfl rfl kU<|RT.kF (cs:=[_,_,_,_,_]) .none rfl T rfl rfl<|bl (l:=[⟨my,mz,Hp,⟨Hq,Hr⟩⟩]) (e:=dH) (.agg rfl (.nil)) rfl rfl rfl rfl rfl rfl<|bE h fun dI iW h=>aR (k:=[⟨my,mz,Hp,⟨Hq,Hr⟩⟩]) (e:=dH) rfl rfl rfl iW<|an (s:=.row _) rfl<|RT.done<|aG.n<|ae.n<|af<|mv rfl<|lE h fun eG gG h=>ad _ rfl rfl gG<|ag rfl<|RT.done ?_
 obtain rfl:=O h
 exact ae.n ⟨(eG,dI),FH _ rfl,dx (fun i=>bif Nat.beq i 306 then 17 else i) rfl rfl rfl rfl rfl ⟨.sv (SV.aa _),.row rfl,.sv (SV.aa _),trivial⟩ trivial ⟨⟨_,rfl,cn.refl _⟩,trivial⟩ (fun i hi=>by rw[bD (show i≠306 by omega)];rfl)⟩
 subst FG
 try dsimp only
 refine ae.n<|sr<|mo (s:=.row _) rfl<|an (s:=.row _) rfl<|dn<|bq (b8 (i:=306) (E1:=64) (n:=5) (e:=dH) (l:=dK) rfl)<|aj ?_
 obtain rfl:=O kV
 exact R1 rfl
set_option maxHeartbeats 4000000 in
theorem kn{r:Bool}(h:eE=some r):Pure Tryz.prog 5 [] (.v (.bool r)):=by
 refine aq Tryz.func5 rfl (Nat.le_of_ble_eq_true rfl) (fun c9 M vs hvs=>?_)
 unfold eE at h
 refine sr<|ag rfl<|dn<|sr ?_
 obtain⟨⟨iq,mw⟩,iV,h⟩:=bS h
 refine RT.CC .none (xu iV) [302] (by decide) rfl ⟨⟨rfl,T⟩,trivial⟩ rfl ⟨rfl,trivial⟩ T rfl rfl<|mo (s:=.cmp _ _) rfl<|RT.oT .none rfl rfl T<|RT.oT .none rfl rfl T<|an (s:=.ptr _ _) rfl<|ag rfl<|dn<|qq<|sr<|mv rfl<|ne false rfl rfl (by decide)<|dn<|fs<|sr<|mo (s:=.ptr _ _) rfl ?_
 obtain⟨⟨⟨nc,nf⟩,⟨Ek,vz⟩⟩,iW,h⟩:=bS h
 refine cl (dh iW) ⟨rfl,rfl,trivial⟩ ?_
 obtain⟨⟨dQ,l2⟩,iN,h⟩:=bS h
 refine RT.xn .none (dj iN) 11 [302] [304] rfl ⟨rfl,trivial⟩ (by decide) (by decide) rfl ⟨⟨rfl,T⟩,trivial⟩ rfl rfl (.cons rfl (.cons rfl (.cons rfl (.cons rfl (.cons rfl (.nil)))))) T<|ag rfl<|dn<|sr<|mo (s:=.ptr _ _) rfl ?_
 obtain⟨⟨⟨ei,kH⟩,⟨vo,qD⟩⟩,kE,h⟩:=bS h
 refine cl (dh kE) ⟨rfl,rfl,trivial⟩ ?_
 obtain⟨⟨ij,l4⟩,mX,h⟩:=bS h
 refine RT.xn .none (dj mX) 11 [304] [306] rfl ⟨rfl,trivial⟩ (by decide) (by decide) rfl ⟨⟨rfl,T⟩,trivial⟩ rfl rfl (.cons rfl (.cons rfl (.cons rfl (.cons rfl (.cons rfl (.nil)))))) T<|ag rfl<|dn<|sr<|mo (s:=.ptr _ _) rfl ?_
 obtain⟨⟨⟨nj,nk⟩,⟨Bt,Eb⟩⟩,mB,h⟩:=bS h
 refine cl (dh mB) ⟨rfl,rfl,trivial⟩ ?_
 obtain⟨⟨dR,l6⟩,lQ,h⟩:=bS h
 refine RT.xn .none (dj lQ) 11 [306] [308] rfl ⟨rfl,trivial⟩ (by decide) (by decide) rfl ⟨⟨rfl,T⟩,trivial⟩ rfl rfl (.cons rfl (.cons rfl (.cons rfl (.cons rfl (.cons rfl (.nil)))))) T<|ag rfl<|dn<|sr<|mo (s:=.ptr _ _) rfl ?_
 obtain⟨⟨⟨P1,P2⟩,⟨P3,P4⟩⟩,mD,h⟩:=bS h
 refine cl (dh mD) ⟨rfl,rfl,trivial⟩ ?_
 obtain⟨⟨jr,l8⟩,nI,h⟩:=bS h
 refine RT.xn .none (dj nI) 11 [308] [310] rfl ⟨rfl,trivial⟩ (by decide) (by decide) rfl ⟨⟨rfl,T⟩,trivial⟩ rfl rfl (.cons rfl (.cons rfl (.cons rfl (.cons rfl (.cons rfl (.nil)))))) T<|ag rfl<|dn<|sr<|mo (s:=.ptr _ _) rfl ?_
 obtain⟨⟨⟨xp,xq⟩,⟨P5,P6⟩⟩,kW,h⟩:=bS h
 refine cl (dh kW) ⟨rfl,rfl,trivial⟩ ?_
 obtain⟨⟨qm,E7⟩,vc,h⟩:=bS h
 refine RT.xn .none (dj vc) 11 [310] [312] rfl ⟨rfl,trivial⟩ (by decide) (by decide) rfl ⟨⟨rfl,T⟩,trivial⟩ rfl rfl (.cons rfl (.cons rfl (.cons rfl (.cons rfl (.cons rfl (.nil)))))) T<|ag rfl<|dn<|sr<|mo (s:=.ptr _ _) rfl ?_
 obtain⟨⟨⟨mR,mh⟩,⟨DY,DZ⟩⟩,lY,h⟩:=bS h
 refine cl (dh lY) ⟨rfl,rfl,trivial⟩ ?_
 obtain⟨⟨iZ,E8⟩,mu,h⟩:=bS h
 refine RT.xn .none (dj mu) 11 [312] [314] rfl ⟨rfl,trivial⟩ (by decide) (by decide) rfl ⟨⟨rfl,T⟩,trivial⟩ rfl rfl (.cons rfl (.cons rfl (.cons rfl (.cons rfl (.cons rfl (.nil)))))) T<|ag rfl<|dn<|sr<|mo (s:=.ptr _ _) rfl<|bE h fun pH AH h=>RT.rN .none (wK AH) 11 [314] rfl ⟨rfl,trivial⟩ (by decide) rfl rfl (.cons rfl (.nil)) T<|ag rfl<|dn<|qq ?_
 refine aC h (fun afs=>AS.bL 112 [(0,.sv (.v (.bool afs)))] [] []) (fun h=>?_) (fun LC h=>?_)
 refine af ?_
 obtain⟨⟨⟨jS,jb⟩,⟨Hi,Hj⟩⟩,qI,h⟩:=bS h
 refine cl (dh qI) ⟨rfl,rfl,trivial⟩ ?_
 obtain⟨⟨rC,rD⟩,xR,h⟩:=bS h
 refine cl (je xR) ⟨rfl,trivial⟩<|bE h fun oa zw h=>cl (gC zw) ⟨rfl,rfl,trivial⟩<|mv rfl<|bE h fun Hs xy h=>?_
 cases oa
 obtain rfl:=O (F xy)
 refine ww<|ww<|ww<|pF rfl<|mv rfl<|bE h fun aaL WM h=>?_
 obtain rfl:=O (F WM)
 refine ww<|ww<|ww<|pF rfl<|mv rfl<|bE h fun aaM WN h=>?_
 obtain rfl:=O (F WN)
 refine ww<|ww<|ww<|pF rfl<|mv rfl<|bE h fun aaN WO h=>?_
 obtain rfl:=O (F WO)
 refine ww<|ww<|pF rfl<|mv rfl<|bE h fun aaO WQ h=>?_
 obtain rfl:=O (F WQ)
 refine ww<|ww<|pF rfl<|mv rfl<|bE h fun aaP WR h=>?_
 obtain rfl:=O (F WR)
 refine ww<|ww<|pF rfl<|mv rfl<|bE h fun aaQ WS h=>?_
 obtain rfl:=O (F WS)
 refine ww<|ww<|pF rfl<|mv rfl<|bE h fun aaR WT h=>?_
 obtain rfl:=O (F WT)
 refine ww<|ww<|pF rfl<|mv rfl<|bE h fun aaS WU h=>?_
 obtain rfl:=O (F WU)
 refine ww<|ww<|pF rfl<|mv rfl<|bE h fun aaT WV h=>?_
 obtain rfl:=O (F WV)
 refine ww<|ww<|ww<|pF rfl<|mv rfl<|bE h fun aaU WW h=>?_
 obtain rfl:=O (F WW)
 refine ww<|ww<|ww<|ww<|pF rfl<|mv rfl<|bE h fun aaV WX h=>?_
 obtain rfl:=O (F WX)
 refine ww<|ww<|ww<|ww<|pF rfl<|mv rfl<|bE h fun WY WZ h=>?_
 obtain rfl:=O (F WZ)
 refine ww<|ww<|ww<|ww<|pF rfl<|mv rfl<|bE h fun W0 W2 h=>?_
 obtain rfl:=O (F W2)
 refine ww<|ww<|ww<|pF rfl<|mv rfl<|bE h fun W4 W5 h=>?_
 obtain rfl:=O (F W5)
 exact ww<|ww<|ww<|ww<|pF rfl<|ag rfl<|dn<|⟨false,h,wR []⟩
 obtain⟨⟨⟨mm,mq⟩,⟨D0,D1⟩⟩,sx,xy⟩:=bS (V xy)
 refine gc (dh sx) ⟨rfl,rfl,trivial⟩ ?_
 obtain⟨⟨D2,D3⟩,Cm,xy⟩:=bS xy
 refine gc (je Cm) ⟨rfl,trivial⟩<|bE xy fun oc zx xy=>gc (gC zx) ⟨rfl,rfl,trivial⟩ ?_
 obtain rfl:=O xy
 refine pT rfl<|mv rfl<|bE h fun aaW xz h=>?_
 cases oc
 obtain rfl:=O (F xz)
 refine ww<|ww<|ww<|pF rfl<|mv rfl<|bE h fun aaX W6 h=>?_
 obtain rfl:=O (F W6)
 refine ww<|ww<|ww<|pF rfl<|mv rfl<|bE h fun aaY W7 h=>?_
 obtain rfl:=O (F W7)
 refine ww<|ww<|pF rfl<|mv rfl<|bE h fun aaZ W8 h=>?_
 obtain rfl:=O (F W8)
 refine ww<|ww<|pF rfl<|mv rfl<|bE h fun aa0 W9 h=>?_
 obtain rfl:=O (F W9)
 refine ww<|ww<|pF rfl<|mv rfl<|bE h fun aa1 Xa h=>?_
 obtain rfl:=O (F Xa)
 refine ww<|ww<|pF rfl<|mv rfl<|bE h fun aa2 Xb h=>?_
 obtain rfl:=O (F Xb)
 refine ww<|ww<|pF rfl<|mv rfl<|bE h fun aa3 Xc h=>?_
 obtain rfl:=O (F Xc)
 refine ww<|ww<|pF rfl<|mv rfl<|bE h fun aa4 Xd h=>?_
 obtain rfl:=O (F Xd)
 refine ww<|ww<|ww<|pF rfl<|mv rfl<|bE h fun aa5 Xe h=>?_
 obtain rfl:=O (F Xe)
 refine ww<|ww<|ww<|ww<|pF rfl<|mv rfl<|bE h fun aa6 Xf h=>?_
 obtain rfl:=O (F Xf)
 refine ww<|ww<|ww<|ww<|pF rfl<|mv rfl<|bE h fun Xg Xh h=>?_
 obtain rfl:=O (F Xh)
 refine ww<|ww<|ww<|ww<|pF rfl<|mv rfl<|bE h fun Xi Xj h=>?_
 obtain rfl:=O (F Xj)
 refine ww<|ww<|ww<|pF rfl<|mv rfl<|bE h fun Xk Xl h=>?_
 obtain rfl:=O (F Xl)
 exact ww<|ww<|ww<|ww<|pF rfl<|ag rfl<|dn<|⟨false,h,wR []⟩
 obtain⟨⟨⟨Ht,Hu⟩,⟨Hv,El⟩⟩,FK,xz⟩:=bS (V xz)
 refine gc (dh FK) ⟨rfl,rfl,trivial⟩ ?_
 obtain⟨⟨Ei,Ej⟩,h46,xz⟩:=bS xz
 refine gc (je h46) ⟨rfl,trivial⟩<|bE xz fun As DW xz=>gc (gC DW) ⟨rfl,rfl,trivial⟩ ?_
 obtain rfl:=O xz
 refine pT rfl<|mv rfl<|bE h fun aa7 xA h=>?_
 cases As
 obtain rfl:=O (F xA)
 refine ww<|ww<|ww<|pF rfl<|mv rfl<|bE h fun aa8 Xm h=>?_
 obtain rfl:=O (F Xm)
 refine ww<|ww<|pF rfl<|mv rfl<|bE h fun aa9 Xn h=>?_
 obtain rfl:=O (F Xn)
 refine ww<|ww<|pF rfl<|mv rfl<|bE h fun aba Xo h=>?_
 obtain rfl:=O (F Xo)
 refine ww<|ww<|pF rfl<|mv rfl<|bE h fun abb Xp h=>?_
 obtain rfl:=O (F Xp)
 refine ww<|ww<|pF rfl<|mv rfl<|bE h fun abc Xq h=>?_
 obtain rfl:=O (F Xq)
 refine ww<|ww<|pF rfl<|mv rfl<|bE h fun abd Xr h=>?_
 obtain rfl:=O (F Xr)
 refine ww<|ww<|pF rfl<|mv rfl<|bE h fun abe Xs h=>?_
 obtain rfl:=O (F Xs)
 refine ww<|ww<|ww<|pF rfl<|mv rfl<|bE h fun abf Xt h=>?_
 obtain rfl:=O (F Xt)
 refine ww<|ww<|ww<|ww<|pF rfl<|mv rfl<|bE h fun abg Xu h=>?_
 obtain rfl:=O (F Xu)
 refine ww<|ww<|ww<|ww<|pF rfl<|mv rfl<|bE h fun Xv Xw h=>?_
 obtain rfl:=O (F Xw)
 refine ww<|ww<|ww<|ww<|pF rfl<|mv rfl<|bE h fun Xx Xy h=>?_
 obtain rfl:=O (F Xy)
 refine ww<|ww<|ww<|pF rfl<|mv rfl<|bE h fun Xz XA h=>?_
 obtain rfl:=O (F XA)
 exact ww<|ww<|ww<|ww<|pF rfl<|ag rfl<|dn<|⟨false,h,wR []⟩
 obtain⟨⟨⟨Em,Hw⟩,⟨Hx,Hy⟩⟩,Co,xA⟩:=bS (V xA)
 refine gc (dh Co) ⟨rfl,rfl,trivial⟩ ?_
 obtain⟨⟨DT,DU⟩,IE,xA⟩:=bS xA
 refine gc (je IE) ⟨rfl,trivial⟩<|bE xA fun xO IF xA=>gc (gC IF) ⟨rfl,rfl,trivial⟩ ?_
 obtain rfl:=O xA
 refine pT rfl<|mv rfl<|bE h fun abh Hz h=>?_
 cases xO
 obtain rfl:=O (F Hz)
 refine ww<|ww<|pF rfl<|mv rfl<|bE h fun abi XB h=>?_
 obtain rfl:=O (F XB)
 refine ww<|ww<|pF rfl<|mv rfl<|bE h fun abj XC h=>?_
 obtain rfl:=O (F XC)
 refine ww<|ww<|pF rfl<|mv rfl<|bE h fun abk XD h=>?_
 obtain rfl:=O (F XD)
 refine ww<|ww<|pF rfl<|mv rfl<|bE h fun abl XE h=>?_
 obtain rfl:=O (F XE)
 refine ww<|ww<|pF rfl<|mv rfl<|bE h fun abm XF h=>?_
 obtain rfl:=O (F XF)
 refine ww<|ww<|pF rfl<|mv rfl<|bE h fun abn XG h=>?_
 obtain rfl:=O (F XG)
 refine ww<|ww<|ww<|pF rfl<|mv rfl<|bE h fun abo XH h=>?_
 obtain rfl:=O (F XH)
 refine ww<|ww<|ww<|ww<|pF rfl<|mv rfl<|bE h fun abp XI h=>?_
 obtain rfl:=O (F XI)
 refine ww<|ww<|ww<|ww<|pF rfl<|mv rfl<|bE h fun XJ XK h=>?_
 obtain rfl:=O (F XK)
 refine ww<|ww<|ww<|ww<|pF rfl<|mv rfl<|bE h fun XL XM h=>?_
 obtain rfl:=O (F XM)
 refine ww<|ww<|ww<|pF rfl<|mv rfl<|bE h fun XN XO h=>?_
 obtain rfl:=O (F XO)
 exact ww<|ww<|ww<|ww<|pF rfl<|ag rfl<|dn<|⟨false,h,wR []⟩
 refine gm rfl<|lE (V Hz) fun M9 R7 Hz=>DO _ rfl rfl (oN (p:=dQ) (q:=0) R7) ?_
 obtain rfl:=O Hz
 refine pT rfl<|mv rfl<|bE h fun abq HA h=>?_
 cases M9
 obtain rfl:=O (F HA)
 refine ww<|ww<|pF rfl<|mv rfl<|bE h fun abr XP h=>?_
 obtain rfl:=O (F XP)
 refine ww<|ww<|pF rfl<|mv rfl<|bE h fun abt XQ h=>?_
 obtain rfl:=O (F XQ)
 refine ww<|ww<|pF rfl<|mv rfl<|bE h fun abu XR h=>?_
 obtain rfl:=O (F XR)
 refine ww<|ww<|pF rfl<|mv rfl<|bE h fun abv XS h=>?_
 obtain rfl:=O (F XS)
 refine ww<|ww<|pF rfl<|mv rfl<|bE h fun abw XT h=>?_
 obtain rfl:=O (F XT)
 refine ww<|ww<|ww<|pF rfl<|mv rfl<|bE h fun abx XU h=>?_
 obtain rfl:=O (F XU)
 refine ww<|ww<|ww<|ww<|pF rfl<|mv rfl<|bE h fun aby XV h=>?_
 obtain rfl:=O (F XV)
 refine ww<|ww<|ww<|ww<|pF rfl<|mv rfl<|bE h fun XW XX h=>?_
 obtain rfl:=O (F XX)
 refine ww<|ww<|ww<|ww<|pF rfl<|mv rfl<|bE h fun XY XZ h=>?_
 obtain rfl:=O (F XZ)
 refine ww<|ww<|ww<|pF rfl<|mv rfl<|bE h fun X0 X1 h=>?_
 obtain rfl:=O (F X1)
 exact ww<|ww<|ww<|ww<|pF rfl<|ag rfl<|dn<|⟨false,h,wR []⟩
 refine gm rfl<|lE (V HA) fun DQ IG HA=>DO _ rfl rfl (oN (p:=ij) (q:=0) IG) ?_
 obtain rfl:=O HA
 refine pT rfl<|mv rfl<|bE h fun abz HB h=>?_
 cases DQ
 obtain rfl:=O (F HB)
 refine ww<|ww<|pF rfl<|mv rfl<|bE h fun abA X2 h=>?_
 obtain rfl:=O (F X2)
 refine ww<|ww<|pF rfl<|mv rfl<|bE h fun abB X3 h=>?_
 obtain rfl:=O (F X3)
 refine ww<|ww<|pF rfl<|mv rfl<|bE h fun abC X5 h=>?_
 obtain rfl:=O (F X5)
 refine ww<|ww<|pF rfl<|mv rfl<|bE h fun abD X6 h=>?_
 obtain rfl:=O (F X6)
 refine ww<|ww<|ww<|pF rfl<|mv rfl<|bE h fun abE X7 h=>?_
 obtain rfl:=O (F X7)
 refine ww<|ww<|ww<|ww<|pF rfl<|mv rfl<|bE h fun abF X8 h=>?_
 obtain rfl:=O (F X8)
 refine ww<|ww<|ww<|ww<|pF rfl<|mv rfl<|bE h fun X9 Ya h=>?_
 obtain rfl:=O (F Ya)
 refine ww<|ww<|ww<|ww<|pF rfl<|mv rfl<|bE h fun Yb Yc h=>?_
 obtain rfl:=O (F Yc)
 refine ww<|ww<|ww<|pF rfl<|mv rfl<|bE h fun Yd Ye h=>?_
 obtain rfl:=O (F Ye)
 exact ww<|ww<|ww<|ww<|pF rfl<|ag rfl<|dn<|⟨false,h,wR []⟩
 refine gm rfl<|lE (V HB) fun Tg h64 HB=>DO _ rfl rfl (oN (p:=dR) (q:=1) h64) ?_
 obtain rfl:=O HB
 refine pT rfl<|mv rfl<|bE h fun abG HC h=>?_
 cases Tg
 obtain rfl:=O (F HC)
 refine ww<|ww<|pF rfl<|mv rfl<|bE h fun abH Yf h=>?_
 obtain rfl:=O (F Yf)
 refine ww<|ww<|pF rfl<|mv rfl<|bE h fun abI Yg h=>?_
 obtain rfl:=O (F Yg)
 refine ww<|ww<|pF rfl<|mv rfl<|bE h fun abJ Yh h=>?_
 obtain rfl:=O (F Yh)
 refine ww<|ww<|ww<|pF rfl<|mv rfl<|bE h fun abK Yi h=>?_
 obtain rfl:=O (F Yi)
 refine ww<|ww<|ww<|ww<|pF rfl<|mv rfl<|bE h fun abL Yj h=>?_
 obtain rfl:=O (F Yj)
 refine ww<|ww<|ww<|ww<|pF rfl<|mv rfl<|bE h fun Yk Yl h=>?_
 obtain rfl:=O (F Yl)
 refine ww<|ww<|ww<|ww<|pF rfl<|mv rfl<|bE h fun Ym Yn h=>?_
 obtain rfl:=O (F Yn)
 refine ww<|ww<|ww<|pF rfl<|mv rfl<|bE h fun Yo Yp h=>?_
 obtain rfl:=O (F Yp)
 exact ww<|ww<|ww<|ww<|pF rfl<|ag rfl<|dn<|⟨false,h,wR []⟩
 refine gm rfl<|lE (V HC) fun GR Ni HC=>DO _ rfl rfl (oN (p:=jr) (q:=1) Ni) ?_
 obtain rfl:=O HC
 refine pT rfl<|mv rfl<|bE h fun abM HD h=>?_
 cases GR
 obtain rfl:=O (F HD)
 refine ww<|ww<|pF rfl<|mv rfl<|bE h fun abN Yq h=>?_
 obtain rfl:=O (F Yq)
 refine ww<|ww<|pF rfl<|mv rfl<|bE h fun abO Yr h=>?_
 obtain rfl:=O (F Yr)
 refine ww<|ww<|ww<|pF rfl<|mv rfl<|bE h fun abP Ys h=>?_
 obtain rfl:=O (F Ys)
 refine ww<|ww<|ww<|ww<|pF rfl<|mv rfl<|bE h fun abQ Yt h=>?_
 obtain rfl:=O (F Yt)
 refine ww<|ww<|ww<|ww<|pF rfl<|mv rfl<|bE h fun Yu Yv h=>?_
 obtain rfl:=O (F Yv)
 refine ww<|ww<|ww<|ww<|pF rfl<|mv rfl<|bE h fun Yw Yx h=>?_
 obtain rfl:=O (F Yx)
 refine ww<|ww<|ww<|pF rfl<|mv rfl<|bE h fun Yy Yz h=>?_
 obtain rfl:=O (F Yz)
 exact ww<|ww<|ww<|ww<|pF rfl<|ag rfl<|dn<|⟨false,h,wR []⟩
 refine gm rfl<|lE (V HD) fun RA Sa HD=>DO _ rfl rfl (oN (p:=qm) (q:=12) Sa) ?_
 obtain rfl:=O HD
 refine pT rfl<|mv rfl<|bE h fun abR HE h=>?_
 cases RA
 obtain rfl:=O (F HE)
 refine ww<|ww<|pF rfl<|mv rfl<|bE h fun abS YA h=>?_
 obtain rfl:=O (F YA)
 refine ww<|ww<|ww<|pF rfl<|mv rfl<|bE h fun abT YB h=>?_
 obtain rfl:=O (F YB)
 refine ww<|ww<|ww<|ww<|pF rfl<|mv rfl<|bE h fun abU YC h=>?_
 obtain rfl:=O (F YC)
 refine ww<|ww<|ww<|ww<|pF rfl<|mv rfl<|bE h fun YD YE h=>?_
 obtain rfl:=O (F YE)
 refine ww<|ww<|ww<|ww<|pF rfl<|mv rfl<|bE h fun YF YG h=>?_
 obtain rfl:=O (F YG)
 refine ww<|ww<|ww<|pF rfl<|mv rfl<|bE h fun YH YI h=>?_
 obtain rfl:=O (F YI)
 exact ww<|ww<|ww<|ww<|pF rfl<|ag rfl<|dn<|⟨false,h,wR []⟩
 refine gm rfl<|lE (V HE) fun SW h76 HE=>DO _ rfl rfl (oN (p:=iZ) (q:=1) h76) ?_
 obtain rfl:=O HE
 refine pT rfl<|mv rfl<|bE h fun abV BA h=>?_
 cases SW
 obtain rfl:=O (F BA)
 refine ww<|ww<|ww<|pF rfl<|mv rfl<|bE h fun abW YJ h=>?_
 obtain rfl:=O (F YJ)
 refine ww<|ww<|ww<|ww<|pF rfl<|mv rfl<|bE h fun abX YK h=>?_
 obtain rfl:=O (F YK)
 refine ww<|ww<|ww<|ww<|pF rfl<|mv rfl<|bE h fun YL YM h=>?_
 obtain rfl:=O (F YM)
 refine ww<|ww<|ww<|ww<|pF rfl<|mv rfl<|bE h fun YN YO h=>?_
 obtain rfl:=O (F YO)
 refine ww<|ww<|ww<|pF rfl<|mv rfl<|bE h fun YP YQ h=>?_
 obtain rfl:=O (F YQ)
 exact ww<|ww<|ww<|ww<|pF rfl<|ag rfl<|dn<|⟨false,h,wR []⟩
 refine gm rfl<|lE (V BA) fun x80 h80 BA=>gn rfl h80<|lE BA fun SX h81 BA=>DO _ rfl rfl (oN (p:=x80) (q:=3) h81) ?_
 obtain rfl:=O BA
 refine pT rfl<|mv rfl<|bE h fun abY BB h=>?_
 cases SX
 obtain rfl:=O (F BB)
 refine ww<|ww<|ww<|ww<|pF rfl<|mv rfl<|bE h fun abZ YR h=>?_
 obtain rfl:=O (F YR)
 refine ww<|ww<|ww<|ww<|pF rfl<|mv rfl<|bE h fun YS YT h=>?_
 obtain rfl:=O (F YT)
 refine ww<|ww<|ww<|ww<|pF rfl<|mv rfl<|bE h fun YU YV h=>?_
 obtain rfl:=O (F YV)
 refine ww<|ww<|ww<|pF rfl<|mv rfl<|bE h fun YW YX h=>?_
 obtain rfl:=O (F YX)
 exact ww<|ww<|ww<|ww<|pF rfl<|ag rfl<|dn<|⟨false,h,wR []⟩
 refine gm rfl ?_
 obtain⟨⟨P7,P8⟩,VS,BB⟩:=bS (V BB)
 refine RT.Iy (.some rfl rfl) rfl rfl T VS<|RT.kF (cs:=[_,_]) (.some rfl rfl) rfl T rfl rfl<|bE BB fun RB VT BB=>gc (gC VT) ⟨rfl,rfl,trivial⟩ ?_
 obtain rfl:=O BB
 refine pT rfl<|mv rfl<|bE h fun ab0 BC h=>?_
 cases RB
 obtain rfl:=O (F BC)
 refine ww<|ww<|ww<|ww<|pF rfl<|mv rfl<|bE h fun YY YZ h=>?_
 obtain rfl:=O (F YZ)
 refine ww<|ww<|ww<|ww<|pF rfl<|mv rfl<|bE h fun Y0 Y1 h=>?_
 obtain rfl:=O (F Y1)
 refine ww<|ww<|ww<|pF rfl<|mv rfl<|bE h fun Y2 Y3 h=>?_
 obtain rfl:=O (F Y3)
 exact ww<|ww<|ww<|ww<|pF rfl<|ag rfl<|dn<|⟨false,h,wR []⟩
 refine gm rfl ?_
 obtain⟨⟨P9,Qa⟩,Sb,BC⟩:=bS (V BC)
 refine RT.Iy (.some rfl rfl) rfl rfl T Sb<|RT.kF (cs:=[_,_]) (.some rfl rfl) rfl T rfl rfl<|bE BC fun RC h93 BC=>gc (gC h93) ⟨rfl,rfl,trivial⟩ ?_
 obtain rfl:=O BC
 refine pT rfl<|mv rfl<|bE h fun Y4 BD h=>?_
 cases RC
 obtain rfl:=O (F BD)
 refine ww<|ww<|ww<|ww<|pF rfl<|mv rfl<|bE h fun Y5 Y6 h=>?_
 obtain rfl:=O (F Y6)
 refine ww<|ww<|ww<|pF rfl<|mv rfl<|bE h fun Y7 Y8 h=>?_
 obtain rfl:=O (F Y8)
 exact ww<|ww<|ww<|ww<|pF rfl<|ag rfl<|dn<|⟨false,h,wR []⟩
 refine gm rfl ?_
 obtain⟨⟨Qb,Qc⟩,VW,BD⟩:=bS (V BD)
 refine RT.Iy (.some rfl rfl) rfl rfl T VW<|RT.kF (cs:=[_,_]) (.some rfl rfl) rfl T rfl rfl<|bE BD fun Mz h99 BD=>gc (gC h99) ⟨rfl,rfl,trivial⟩ ?_
 obtain rfl:=O BD
 refine pT rfl<|mv rfl<|bE h fun Y9 BE h=>?_
 cases Mz
 obtain rfl:=O (F BE)
 refine ww<|ww<|ww<|pF rfl<|mv rfl<|bE h fun Za Zb h=>?_
 obtain rfl:=O (F Zb)
 exact ww<|ww<|ww<|ww<|pF rfl<|ag rfl<|dn<|⟨false,h,wR []⟩
 refine RT.move (.some rfl rfl) (s:=.ptr _ _) rfl T ?_
 obtain⟨⟨LF,LG⟩,Sc,BE⟩:=bS (V BE)
 refine RT.rN (.some rfl rfl) (xV Sc) 11 [314] rfl ⟨rfl,trivial⟩ (by decide) rfl rfl (.cons rfl (.cons rfl (.nil))) T<|bE BE fun zh Ko BE=>gc (gC Ko) ⟨rfl,rfl,trivial⟩ ?_
 obtain rfl:=O BE
 refine pT rfl<|mv rfl<|bE h fun Zc xB h=>?_
 cases zh
 obtain rfl:=O (F xB)
 exact ww<|ww<|ww<|ww<|pF rfl<|ag rfl<|dn<|⟨false,h,wR []⟩
 refine RT.move (.some rfl rfl) (s:=.ptr _ _) rfl T<|bE (V xB) fun WL afv xB=>RT.rN (.some rfl rfl) (rR afv) 11 [314] rfl ⟨rfl,trivial⟩ (by decide) rfl rfl (.cons rfl (.nil)) T<|lE xB fun Th afw xB=>gn rfl afw<|lE xB fun Gg Ti xB=>DO _ rfl rfl (oN (p:=Th) (q:=2) Ti) ?_
 obtain rfl:=O xB
 exact pT rfl<|ag rfl<|dn<|⟨Gg,h,wR []⟩
 try dsimp only
 refine ae.n<|aj ?_
 obtain rfl:=O h
 exact R1 rfl
end Go.Proofs.YtmiflmkdaeianaaGreat
namespace Go.Fw
open Go.RowKit
def Mem.to(M:Mem)(N:Nat):Mem:=fun b o=>if b<N then M b o else none
theorem Mem.Qd(M:Mem)(N:Nat):(M.to N).le M:=fun b o v h=>by
 unfold Mem.to at h
 split at h
 ·exact h
 ·cases h
theorem Mem.NP{M M':Mem}(h:M.le M')(N:Nat):(M.to N).le (M'.to N):=fun b o v e=>by
 unfold Mem.to at*
 split at e
 ·rename_i hn;rw[if_pos hn];exact h b o v e
 ·cases e
def od(N:Nat)(s:SV):SV:=⟨fun M v=>s.h (M.to N) v,fun hM h=>s.mono (Mem.NP hM N) h⟩
theorem Gh{N:Nat}{s:SV}:SV.imp (od N s) s:=fun M _ h=>s.mono (Mem.Qd M N) h
def AV.od(N:Nat):AV→AV
 |.sv s=>.sv (Fw.od N s)
 |x=>x
theorem AV.Qe{N:Nat}{x:AV}{j:Nat}:(x.od N).mb j↔x.mb j:=by cases x<;>exact Iff.rfl
theorem AV.Qf{N:Nat}{x:AV}{j:Nat}:(x.od N).mr j↔x.mr j:=by cases x<;>exact Iff.rfl
def AS.od(N:Nat)(S:AS):AS:={S with t:=fun s=>(S.t s).od N,b:=fun j=>(S.b j).map fun B=>⟨B.T,B.cells.map (AV.od N)⟩}
theorem AV.Eo{E:Env}{N:Nat}(h:E.M.le (E.M.to N)){x:AV}{v:Value}(hx:x.holds E v):(x.od N).holds E v:=by
 cases x with
 |sv s=>exact s.mono h hx
 |_=>exact hx
theorem bW.od{E:Env}{N:Nat}(h:E.M.le (E.M.to N)):∀{l:List AV} {vs:List Value},bW E l vs→bW E (l.map (AV.od N)) vs
 |[],[],_=>trivial
 |_::_,_::_,hv=>⟨AV.Eo h hv.1,bW.od h hv.2⟩
 |[],_::_,hv=>hv.elim
 |_::_,[],hv=>hv.elim
section
variable {P:Program}{C:Ctx}{S:AS}{Q:Exit→AS→Prop}
theorem au.odd{E:Env}{a:Act}{w:World}(h:au C S E a w){N:Nat}(hN:w.heap.size≤N):au C (S.od N) E a w:=by
 have hle:E.M.le (E.M.to N):=fun b o v e=>by
  have:=iU h.bV e
  unfold Mem.to;rw[if_pos (by omega)];exact e
 have v7:∀i B,(S.od N).b i=some B→∃B0,S.b i=some B0∧B=⟨B0.T,B0.cells.map (AV.od N)⟩:=fun i B hB=>by
  have hB:(S.b i).map (fun B=>(⟨B.T,B.cells.map (AV.od N)⟩:lP))=some B:=hB
  cases e:S.b i with
  |none=>rw[e]at hB;cases hB
  |some B0=>rw[e]at hB;cases hB;exact⟨B0,rfl,rfl⟩
 have bTo:∀i B0,S.b i=some B0→∃B,(S.od N).b i=some B:=fun i B0 e=>⟨_,by show(S.b i).map _=_;rw[e];rfl⟩
 exact{h with
  wf:=by
   refine⟨fun s j hj=>?_,fun s j hj=>h.wf.tr s j (AV.Qf.1 hj),fun i B hB x hx j hj=>?_,fun i B hB x hx j hj=>?_⟩
   ·obtain⟨B,hB⟩:=h.wf.tb s j (AV.Qe.1 hj);exact bTo j B hB
   ·obtain⟨B0,h0,rfl⟩:=v7 i B hB
    obtain⟨y,hy,rfl⟩:=List.mem_map.1 hx
    obtain⟨B1,h1⟩:=h.wf.bb i B0 h0 y hy j (AV.Qe.1 hj)
    exact bTo j B1 h1
   ·obtain⟨B0,h0,rfl⟩:=v7 i B hB
    obtain⟨y,hy,rfl⟩:=List.mem_map.1 hx
    exact h.wf.br i B0 h0 y hy j (AV.Qf.1 hj)
  tm:=fun s=>AV.Eo hle (h.tm s)
  bx:=fun i B hB=>by
   obtain⟨B0,h0,rfl⟩:=v7 i B hB
   obtain⟨h1,h2,h3,vs,h4,h5⟩:=h.bx i B0 h0
   exact⟨h1,h2,h3,vs,h4,h5.od hle⟩
  inj:=fun i j B B' hi hj e=>by
   obtain⟨B0,h0,_⟩:=v7 i B hi
   obtain⟨B1,h1,_⟩:=v7 j B' hj
   exact h.inj i j B0 B1 h0 h1 e
  rx:=fun i R hR=>by
   obtain⟨p1,p2⟩:=h.rx i R hR
   refine⟨p1,fun g hg=>?_⟩
   obtain⟨q1,q2,q3,q4⟩:=p2 g hg
   refine⟨q1,q2,q3,fun j B hB=>?_⟩
   obtain⟨B0,h0,_⟩:=v7 j B hB
   exact q4 j B0 h0}
theorem xC{f:FuncId}{fn:Func}{code:Code}{args:List SV}{r:SV}(hf:P.funcs[f]? =some fn)(hb:fn.body=some code)(hn:args.length≤fn.ntmps)
  (h:∀(w:World) (M:Mem) (vs:List Value),M.bV w→SV.dw M args vs→Ok P (Dy w M) code (AS.init fn.ntmps args) (fun e S=>(e=.normal∨e=.ret)∧Jd P S fn.results.toList r)):Pure P f args r:=by
 intro M w vs hM hvs
 refine(callsIn_wide (n:=0)).1 (callsIn_of_wp_marks (F:=Fence.wide) hf hb trivial ?_)
 refine wpIn_mono (h w M vs hM hvs _ w ⟨_,iy hM hvs hn⟩) ?_
 rintro e a' w' ⟨S',⟨he,ss,Ms,himp⟩,E,hh⟩
 have key:LeavesInM Fence.wide 0 P fn a'.tmps (fun e w'=>∃v M',e=.returned v∧M.le M'∧(∀b o x,M' b o=some x→M b o=some x∨w.heap.size≤b)∧M'.bV w'∧r.h M' v∧Below w.heap.size w w') a'.defers .returning w':=by
  obtain⟨ds,h1,h2,h3⟩:=hh.marks
  rw[h1]
  refine iM ds w' h2 (fun r hr=>(h3 r hr).2.2) (fun w2 g1 g2 g3 g4 g5=>?_)
  have qk:=hh.qT h3 g1 g2 g3 g4 g5
  obtain⟨v,hv,hs⟩:=uL qk Ms
  refine⟨v,hv,v,E.M,rfl,qk.m0,fun b o x e=>?_,qk.bV,himp _ _ hs,qk.os,qk.tape,qk.output,qk.grown,fun k hk=>qk.frame k hk (fun h=>h)⟩
  rcases qk.cX b o x e with h|h|h
  ·exact .inl h
  ·exact .inr h
  ·exact h.elim
 rcases he with rfl|rfl
 ·exact key
 ·exact key
def Mem.ct(M:Mem)(N1 N2:Nat):Mem:=fun b o=>if N1≤b∧b<N2 then none else M b o
theorem Mem.LJ(M:Mem)(N1 N2:Nat):(M.ct N1 N2).le M:=fun b o v h=>by
 unfold Mem.ct at h
 split at h
 ·cases h
 ·exact h
def KpS(N1 N2:Nat)(s s':SV):Prop:=∀M v,s.h M v→s'.h (M.ct N1 N2) v
theorem Zd{N1 N2:Nat}{s:SV}{x:Value}(h:SV.imp s (.v x)):KpS N1 N2 s (.v x):=fun M v hv=>h M v hv
theorem LK{N1 N2:Nat}{s s':SV}(h:SV.imp s (od N1 s')):KpS N1 N2 s (od N1 s'):=fun M v hv=>by
 refine s'.mono (fun b o x e=>?_) (h M v hv)
 unfold Mem.to Mem.ct at*
 split at e
 ·rename_i hb;rw[if_pos hb,if_neg (by omega)];exact e
 ·cases e
inductive Tj (N1 N2:Nat):AV→AV→Prop
 |sv {s s':SV} (h:KpS N1 N2 s s'):Tj N1 N2 (.sv s) (.sv s')
 |ptr {i o:Nat}:Tj N1 N2 (.ptr i o) (.ptr i o)
theorem Tj.holds{N1 N2:Nat}{x y:AV}{E:Env}{v:Value}(h:Tj N1 N2 x y)(hx:x.holds E v):y.holds {E with M:=E.M.ct N1 N2} v:=by
 cases h with
 |sv h=>exact h _ _ hx
 |ptr=>exact hx
def I0(N1 N2:Nat):List AV→List AV→Prop
 |[],[]=>True
 |x::l,y::l'=>Tj N1 N2 x y∧I0 N1 N2 l l'
 |_,_=>False
theorem I0.holds{N1 N2:Nat}{E:Env}:∀{l l':List AV} {vs:List Value},I0 N1 N2 l l'→bW E l vs→bW {E with M:=E.M.ct N1 N2} l' vs
 |[],[],[],_,_=>trivial
 |_::_,_::_,_::_,h,hv=>⟨h.1.holds hv.1,I0.holds h.2 hv.2⟩
 |[],[],_::_,_,hv=>hv.elim
 |_::_,_::_,[],_,hv=>hv.elim
 |[],_::_,_,h,_=>h.elim
 |_::_,[],_,h,_=>h.elim
def Us(N1 N2:Nat)(S:AS):List (Nat×AV)→Prop
 |[]=>True
 |(k,x)::l=>Tj N1 N2 (S.t k) x∧Us N1 N2 S l
def Ut(N1 N2:Nat)(S:AS):List (Nat×lP)→Prop
 |[]=>True
 |(k,x)::l=>(∃cs,S.b k=some ⟨x.T,cs⟩∧I0 N1 N2 cs x.cells)∧Ut N1 N2 S l
theorem Us.mem{N1 N2:Nat}{S:AS}:∀{l:List (Nat×AV)},Us N1 N2 S l→∀p∈l,Tj N1 N2 (S.t p.1) p.2
 |_::_,h,p,hp=>by
  rcases List.mem_cons.1 hp with rfl|hp
  ·exact h.1
  ·exact Us.mem h.2 p hp
theorem Ut.mem{N1 N2:Nat}{S:AS}:∀{l:List (Nat×lP)},Ut N1 N2 S l→∀p∈l,∃cs,S.b p.1=some ⟨p.2.T,cs⟩∧I0 N1 N2 cs p.2.cells
 |_::_,h,p,hp=>by
  rcases List.mem_cons.1 hp with rfl|hp
  ·exact h.1
  ·exact Ut.mem h.2 p hp
theorem au.afy{E:Env}{a:Act}{w w':World}(h:au C S E a w){N1 N2:Nat}(hC:∀b o v,C.M0 b o=some v→b<C.w0.heap.size)(hJ:∀g go O M w,C.J g go O M w)(Fo:∀i,C.cI i=none)(hN:C.w0.heap.size≤N1)
  {n:Nat} {ts:List (Nat×AV)} {bs:List (Nat×lP)} {g:Nat} {go:Bool} (hn:S.n=n) (hwf:((ts.all fun p=>p.2.jO bs [])&&(bs.all fun p=>p.2.cells.all fun x=>x.jO bs []))=true) (ht:Us N1 N2 S ts) (hb:Ut N1 N2 S bs)
  (hos:w'.os=w.os) (lq:w'.tape=w.tape) (hout:w'.output=w.output) (hsize:w.heap.size≤w'.heap.size) (hsame:∀k,k<w.heap.size→(k<N1∨N2≤k∨∀o,E.M k o=none)→w'.heap[k]? =w.heap[k]?):
  au C (AS.bL n ts bs [] g go) {E with M:=E.M.ct N1 N2} a w' where
 wf:=Jw hwf
 marks:=by
  obtain⟨ds,d1,d2,d3⟩:=h.marks
  refine⟨ds,d1,d2,fun r hr=>?_⟩
  obtain⟨p1,p2,p3⟩:=d3 r hr
  refine⟨p1,p2,?_⟩
  rw[hsame r (Array.getElem?_eq_some_iff.1 p3).1 (.inr (.inr fun o=>?_))]
  ·exact p3
  ·cases e:E.M r o with
   |none=>rfl
   |some v=>exact((h.bV _ _ _ e).no (by simp[World.cell?,p3]) (fun es ck q=>by rw[p3]at q;cases q) (fun c T q=>by rw[p3]at q;cases q)).elim
 size:=by rw[h.size,hn];rfl
 os:=hos.trans h.os
 tape:=lq.trans h.tape
 output:=hout.trans h.output
 grown:=Nat.le_trans h.grown hsize
 frame:=fun k hk ho=>by rw[hsame k (Nat.lt_of_lt_of_le hk h.grown) (.inl (by omega))];exact h.frame k hk ho
 m0:=fun b o v e=>by
  have:=hC b o v e
  show Mem.ct E.M N1 N2 b o=some v
  unfold Mem.ct
  rw[if_neg (by omega)];exact h.m0 b o v e
 cX:=fun b o v e=>h.cX b o v (Mem.LJ _ _ _ _ _ _ e)
 bV:=fun b o v e=>by
  have e0:=Mem.LJ _ _ _ _ _ _ e
  refine(h.bV b o v e0).same (hsame b (iU h.bV e0) ?_)
  have e:Mem.ct E.M N1 N2 b o=some v:=e
  unfold Mem.ct at e
  split at e
  ·cases e
  ·omega
 tm:=fun s=>by
  rcases r9 (ts:=ts) (s:=s)with e|⟨p,hp,rfl,e⟩
  ·show(Dz ts s).holds _ _;rw[e];exact trivial
  ·show(Dz ts p.1).holds _ _;rw[e];exact(ht.mem p hp).holds (h.tm p.1)
 bx:=fun i B hB=>by
  obtain⟨cs,h1,h2⟩:=hb.mem (i,B) (jP hB)
  obtain⟨h3,h4,h5,vs,h6,h7⟩:=h.bx i _ h1
  refine⟨h3,fun o=>?_,h5,vs,?_,h2.holds h7⟩
  ·show Mem.ct E.M N1 N2 _ o=none
   unfold Mem.ct;split
   ·rfl
   ·exact h4 o
  ·show w'.heap[E.β i]? =_
   rw[hsame _ (Array.getElem?_eq_some_iff.1 h6).1 (.inr (.inr h4))];exact h6
 inj:=fun i j B B' hi hj e=>by
  obtain⟨cs,h1,_⟩:=hb.mem (i,B) (jP hi)
  obtain⟨cs',h2,_⟩:=hb.mem (j,B') (jP hj)
  exact h.inj i j _ _ h1 h2 e
 rx:=fun i R hR=>by cases hR
 dB:=fun i j R R' hi=>by cases hi
 fK:=h.fK
 cI:=fun i v e=>by rw[Fo i]at e;cases e
 iT:=fun b hb=>by
  obtain⟨p1,p2,p3⟩:=h.iT b hb
  refine⟨Nat.lt_of_lt_of_le p1 hsize,fun o=>?_,p3⟩
  show Mem.ct E.M N1 N2 _ o=none
  unfold Mem.ct;split
  ·rfl
  ·exact p2 o
 jj:=hJ _ _ _ _ _
def Own(M:Mem)(N1 N2 k:Nat):Prop:=∃o,((M.to N2).fr N1) k o=some (.agg #[])
def Gi(P:Program)(f:FuncId)(X:Nat→SV):Prop:=
 ∀(M:Mem) (w:World) (v:Value) (N1 N2:Nat),M.bV w→(nw N1 (X N1)).h (M.to N2) v→
  Calls P f ⟨[v]⟩ w fun e w'=>∃u,e=.returned u∧w'.os=w.os∧w'.tape=w.tape∧w'.output=w.output∧w.heap.size≤w'.heap.size∧∀k,k<w.heap.size→¬Own M N1 N2 k→w'.heap[k]? =w.heap[k]?
theorem LL{M:Mem}{N1 N2 k:Nat}(h:Own M N1 N2 k):N1≤k∧k<N2∧∃o,M k o=some (.agg #[]):=by
 obtain⟨o,e⟩:=h
 unfold Mem.fr Mem.to at e
 split at e
 ·split at e
  ·exact⟨by assumption,by assumption,o,e⟩
  ·cases e
 ·cases e
end
section
variable {P:Program}{C:Ctx}{ops:Array Oper}{S:AS}{K:List Ac→AS→Prop}{rest:List Oper}{acc:List Ac}
variable {gd:Option (Nat×Bool)}{rg:List Nat}{d:Nat}{ty:TypeId}{pos:String}{aft:Array Edge}{x y z:Operand}{T U E0:TypeId}
theorem RT.Tk(hg:Gd ops S gd rg){f:FuncId}[cz P f]{g:Operand}{xs:Array Operand}{at_:Array TypeId}{args:Nat→List SV}{r:Nat→SV}(hp:∀N,m7 P f N (args N) (r N))(hf:S.ev g=.sv (.v (.func (.func f) #[] #[])))(hargs:∀N,ik S xs.toList (args N))(hd:d<S.n)
  (next:∀N,C.w0.heap.size≤N→RunT P C ops true K rest [] ((S.od N).set d (.sv (r N)))):RunT P C ops true K (⟨some d,.call ⟨.value g,xs,at_⟩,ty,pos,aft,gd⟩::rest) acc S:=by
 refine .inr ⟨rfl,fun S'=>∃N,C.w0.heap.size≤N∧S'=(S.od N).set d (.sv (r N)),?_,fun S' ⟨N,h1,h2⟩=>by subst h2;exact next N h1⟩
 rintro i a w L Q ho ⟨E,h⟩ hL
 refine bG (C:=C) ho (hg.wanted h (fun s _=>rfl) rfl) ?_
 have uJ:a.eval g=.func (.func f) #[] #[]:=by
  have h1:=h.ev g;rw[hf]at h1;exact h1
 have hall:=ik.vals h (hargs w.heap.size) (fun s _=>rfl)
 have hr:(execOp a.eval ⟨some d,.call ⟨.value g,xs,at_⟩,ty,pos,aft,gd⟩).run P w=.ok (.enter f ⟨xs.toList.map a.eval⟩) w:=by
  have e2:xs.map a.eval=⟨xs.toList.map a.eval⟩:=by apply Array.ext';simp
  have e1:=cz.run (P:=P) (f:=f) (xs.map a.eval) w
  rw[←e2]
  simp[execOp,resolve,uJ,Deferred.ofValue,invoke,e1]
 refine bH (C:=C) (by intro c h;cases h) hr ?_
 refine⟨fun h=>by simp at h,fS ((hp w.heap.size E.M w _ (Nat.le_refl _) h.bV hall).mono ?_)⟩
 rintro e w' ⟨v,M',rfl,hM,hnew,hin,hv,hb⟩
 exact hL _ _ _ ⟨w.heap.size,h.grown,rfl⟩ ⟨_,((h.odd (Nat.le_refl _)).grow hM hnew hin hb).put (x:=.sv (r w.heap.size)) hv hd dN⟩
end
end Go.Fw
namespace Go.Fw
open Go.RowKit
structure MA where
 W:World
 Mx:Mem
 b0:Nat
 o0:Nat
 n:Nat
 sz:Nat
 hin:Mx.bV W
 hb:0<n→∃o,Mx b0 o=some (.agg #[])
 cell:∀i k,i<n→k<sz→∃y,Mx b0 (o0+i*sz+k)=some y∧y.oneCell'=true
def Ow(D:MA)(b:Nat):Prop:=∃o,D.Mx b o=some (.agg #[])
def vB(D:MA)(g:Nat)(w:World):Prop:=
 (∀i k y,g≤i→i<D.n→k<D.sz→D.Mx D.b0 (D.o0+i*D.sz+k)=some y→w.cell? ⟨D.b0,D.o0+i*D.sz+k,none⟩=some y)∧
 ∀b,Ow D b→∃us vs T,D.W.heap[b]? =some (.cells ⟨us⟩ T (0,0))∧w.heap[b]? =some (.cells ⟨vs⟩ T (0,0))∧vs.length=us.length
theorem vB.same{D:MA}{g:Nat}{w w':World}(h:vB D g w)(hs:∀b,Ow D b→w'.heap[b]? =w.heap[b]?):vB D g w':=by
 refine⟨fun i k y h1 h2 h3 h4=>?_,fun b hb=>?_⟩
 ·rw[World.cell?_of_block (w:=w) (a:=⟨D.b0,D.o0+i*D.sz+k,none⟩) (hs _ (D.hb (by omega)))]
  exact h.1 i k y h1 h2 h3 h4
 ·obtain⟨us,vs,T,q1,q2,q3⟩:=h.2 b hb
  exact⟨us,vs,T,q1,by rw[hs b hb];exact q2,q3⟩
theorem Tl(D:MA):vB D 0 D.W:=by
 refine⟨fun i k y _ h2 h3 h4=>?_,fun b ⟨o,hb⟩=>?_⟩
 ·obtain⟨y',e,ho⟩:=D.cell i k h2 h3
  rw[h4]at e;cases e
  exact(D.hin _ _ _ h4).cell ho
 ·obtain⟨c,T,e⟩:=(show ∃c T,D.W.heap[b]? =some (.cells c T (0,0))from D.hin _ _ _ hb)
  exact⟨c.toList,c.toList,T,by simpa using e,by simpa using e,rfl⟩
def o5(D:MA)(M:Mem):Ctx:={w0:=D.W,M0:=M,own:=Ow D,qO:=fun _=>False,fK:=fun _=>none,cI:=fun _=>none,ro:=none,J:=fun g _ O _ w=>(∀b,Ow D b→O b)∧vB D g w,Ap:=fun _ h=>h.elim,GA:=fun _ _ h=>(by cases h),jf:=fun _ _ _ _ _ _ _ j _ _ _ hs _ _ _ _=>⟨j.1,j.2.same fun b hb=>hs b (.inr (j.1 b hb))⟩}
section
variable {P:Program}{D:MA}{M0:Mem}{S:AS}
theorem au.afz{E:Env}{a:Act}{w:World}(h:au (o5 D M0) S E a w){b:Nat}{vs vs':List Value}{T:TypeId}(hO:Ow D b)(hw:w.heap[b]? =some (.cells ⟨vs⟩ T (0,0))){g':Nat}(hI:vB D g' (dz w b vs' T)):au (o5 D M0) {S with g:=g'} E a (dz w b vs' T):=by
 have hOb:E.O b:=h.jj.1 b hO
 obtain⟨hlt,hno,_⟩:=h.iT b hOb
 exact{
  wf:=⟨h.wf.tb,h.wf.tr,h.wf.bb,h.wf.br⟩
  marks:=by
   obtain⟨ds,d1,d2,d3⟩:=h.marks
   refine⟨ds,d1,d2,fun r hr=>?_⟩
   obtain⟨p1,p2,p3⟩:=d3 r hr
   exact⟨p1,p2,by rw[cf (fun e=>p2 (by rw[e];exact hOb))];exact p3⟩
  size:=h.size
  os:=h.os
  tape:=h.tape
  output:=h.output
  grown:=by rw[jD];exact h.grown
  frame:=fun k hk ho=>by rw[cf (fun e=>ho (by rw[e];exact hO))];exact h.frame k hk ho
  m0:=h.m0
  cX:=h.cX
  bV:=c7 h.bV fun k ⟨o,v,e⟩=>cf (fun q=>by rw[q,hno o]at e;cases e)
  tm:=h.tm
  bx:=fun i B hB=>by
   obtain⟨p1,p2,p3,us,p4,p5⟩:=h.bx i B hB
   exact⟨p1,p2,p3,us,by rw[cf (fun e=>p3 (by rw[e];exact hOb))];exact p4,p5⟩
  inj:=h.inj
  rx:=fun i R hR=>by
   obtain⟨⟨us,p1,p2⟩,p3⟩:=h.rx i R hR
   exact⟨⟨us,cc p1 fun g hg=>cf (fun e=>(p3 g hg).2.2.1 (by rw[e];exact hOb)),p2⟩,p3⟩
  dB:=h.dB
  fK:=h.fK
  cI:=h.cI
  iT:=fun k hk=>by rw[jD];exact h.iT k hk
  jj:=⟨h.jj.1,hI⟩}
theorem HF:∀(xs:List Value) (l:List Value) (k:Nat),(iY l k xs).length=l.length
 |[],_,_=>rfl
 |x::xs,l,k=>by rw[iY,HF xs];simp
theorem HG:∀(xs:List Value) (l:List Value) (k j:Nat),(j<k∨k+xs.length≤j)→(iY l k xs)[j]? =l[j]?
 |[],_,_,_,_=>rfl
 |x::xs,l,k,j,h=>by
  rw[List.length_cons]at h
  rw[iY,HG xs _ _ _ (by omega),List.getElem?_set,if_neg (by omega)]
theorem vB.put{g g':Nat}{w:World}(h:vB D g w)(hg:g≤g'){b o:Nat}{us vs:List Value}{T:TypeId}(hw:w.heap[b]? =some (.cells ⟨vs⟩ T (0,0)))
  (hne:∀i k,g'≤i→i<D.n→k<D.sz→b=D.b0→D.o0+i*D.sz+k<o∨o+us.length≤D.o0+i*D.sz+k):vB D g' (dz w b (iY vs o us) T):=by
 refine⟨fun i k y h1 h2 h3 h4=>?_,fun b' hb=>?_⟩
 ·have e:=h.1 i k y (Nat.le_trans hg h1) h2 h3 h4
  by_cases hb:D.b0=b
  ·subst hb
   have q:=hne i k h1 h2 h3 rfl
   simp only[World.cell?,hw]at e
   simp only[World.cell?,oL hw]
   simp only[Option.isSome_none,Bool.false_eq_true,if_false,List.getElem?_toArray]at e⊢
   rw[HG us vs o _ q];exact e
  ·rw[World.cell?_of_block (w:=w) (a:=⟨D.b0,D.o0+i*D.sz+k,none⟩) (cf hb)];exact e
 ·obtain⟨My,Jf,T0,q1,q2,q3⟩:=h.2 b' hb
  by_cases e:b'=b
  ·subst e
   rw[hw]at q2;cases q2
   exact⟨My,iY vs o us,T,q1,oL hw,by rw[HF];exact q3⟩
  ·exact⟨My,Jf,T0,q1,by rw[cf e];exact q2,q3⟩
end
section
variable {P:Program}{C:Ctx}{ops:Array Oper}{S:AS}{nd:Bool}{K:List Ac→AS→Prop}{rest:List Oper}{acc:List Ac}
variable {gd:Option (Nat×Bool)}{rg:List Nat}{d:Nat}{ty:TypeId}{pos:String}{aft:Array Edge}{x y z:Operand}{T U E0:TypeId}{D:MA}{M0:Mem}
instance{a:Option Addr}{n c:Nat}:T4 (.v (.slice a n c)) n:=⟨fun _ v h=>⟨a,c,h⟩⟩
theorem RT.NQ(hg:Gd ops S gd rg){m:Nat}[tS:dD P T E0 m]{a:Option Addr}{n c:Nat}(hx:S.ev x=.sv (.v (.slice a n c)))(hd:d<S.n)
  (next:RunT P C ops nd K rest (⟨rg++ak x,[],[],⟨some (d,.sv (.v (.int .i64 n))),[],[]⟩⟩::acc) (S.set d (.sv (.v (.int .i64 n))))):RunT P C ops nd K (⟨some d,.call ⟨.builtin .len,#[x],#[T]⟩,ty,pos,aft,gd⟩::rest) acc S:=
 RT.len hg hx hd next
theorem RT.Ze(hg:Gd ops S gd rg){sz:Nat}[tS:dD P T E0 sz]{b o n c:Nat}{kk:IntKind}{i:Nat}(hx:S.ev x=.sv (.v (.slice (some ⟨b,o,none⟩) n c)))(hy:S.ev y=.sv (.v (.int kk (i:Int))))(hd:d<S.n)(hi:i<n)
  (next:RunT P C ops nd K rest (⟨rg++(ak x++ak y),[],[],⟨some (d,.sv (.v (.pointer (some ⟨b,o+i*sz,none⟩)))),[],[]⟩⟩::acc) (S.set d (.sv (.v (.pointer (some ⟨b,o+i*sz,none⟩)))))):RunT P C ops nd K (⟨some d,.indexAddr T x y,ty,pos,aft,gd⟩::rest) acc S:=
 RT.value hg (ak x++ak y) [] [] _ hd (by intro c h;cases h) (fun S' ht _ _ E a w h=>by
  have h1:a.eval x=.slice (some ⟨b,o,none⟩) n c:=by have h1:=h.ev x;rw[aA (fun _ h=>List.mem_append_left _ h) ht,hx]at h1;exact h1
  have h2:a.eval y=.int kk (i:Int):=by have h2:=h.ev y;rw[aA (fun _ h=>List.mem_append_right _ h) ht,hy]at h2;exact h2
  refine⟨.pointer (some ⟨b,o+i*sz,none⟩),?_,rfl,dN⟩
  have hsz:=tS.size w
  have hb:(0:Int)≤(i:Int)∧(i:Int)<(n:Int):=⟨by omega,by omega⟩
  simp[execOp,h2,h1,Instr.indexAt,asIntOf,underlying,tS.u,hsz,eJ,hb]
  exact fun q=>absurd q (by omega)) next
theorem RT.Uu(hg:Gd ops S gd rg){f off:Nat}[hf:eP P T f off U][sU:eK P U]{b o:Nat}(hx:S.ev x=.sv (.v (.pointer (some ⟨b,o,none⟩))))(hd:d<S.n)
  (next:RunT P C ops nd K rest (⟨rg++ak x,[],[],⟨some (d,.sv (.v (.pointer (some ⟨b,o+off,none⟩)))),[],[]⟩⟩::acc) (S.set d (.sv (.v (.pointer (some ⟨b,o+off,none⟩)))))):RunT P C ops nd K (⟨some d,.fieldAddr T x f,ty,pos,aft,gd⟩::rest) acc S:=
 RT.value hg (ak x) [] [] _ hd (by intro c h;cases h) (fun S' ht _ _ E a w h=>by
  have h1:a.eval x=.pointer (some ⟨b,o,none⟩):=by have h1:=h.ev x;rw[aA (fun _ h=>h) ht,hx]at h1;exact h1
  have:=qS (P:=P) (T:=T) (f:=f) (off:=off) (U:=U) sU.h b o w
  exact⟨.pointer (some ⟨b,o+off,none⟩),by simp[execOp,h1,this],rfl,dN⟩) next
theorem RT.Tm(hg:Gd ops S gd rg)[tV:cK P T]{i k p:Nat}{v:Value}(hx:S.ev x=.sv (.v (.pointer (some ⟨D.b0,p,none⟩))))(hd:d<S.n)(hp:p=D.o0+i*D.sz+k)(hgi:S.g≤i)(hi:i<D.n)(hk:k<D.sz)(hv:D.Mx D.b0 (D.o0+i*D.sz+k)=some v)
  (next:RunT P (o5 D M0) ops true K rest [] (S.set d (.sv (.v v)))):RunT P (o5 D M0) ops true K (⟨some d,.load T x,ty,pos,aft,gd⟩::rest) acc S:=by
 refine .inr ⟨rfl,fun S'=>S'=S.set d (.sv (.v v)),?_,fun S' h=>by subst h;exact next⟩
 rintro i' a w L Q ho ⟨E,h⟩ hL
 refine bG (C:=o5 D M0) ho (hg.wanted h (fun s _=>rfl) rfl) ?_
 have h1:a.eval x=.pointer (some ⟨D.b0,p,none⟩):=by have h1:=h.ev x;rw[hx]at h1;exact h1
 have QY:w.cell? ⟨D.b0,p,none⟩=some v:=by rw[hp];exact h.jj.2.1 i k v hgi hi hk hv
 refine bH (C:=o5 D M0) (by intro c h;cases h) (r:=.ok (.value v) w) ?_ (hL _ _ _ rfl ⟨E,h.put (x:=.sv (.v v)) rfl hd dN⟩)
 simp[execOp,h1,Instr.loadAt,Instr.sureAddr,loadVar,tV.isAgg,QY]
theorem RT.Zf(hg:Gd ops S gd rg){b o:Nat}(us:List Value)(g':Nat)(hx:S.ev x=.sv (.v (.pointer (some ⟨b,o,none⟩))))(hy:∀E a w,au (o5 D M0) S E a w→(a.eval y).cells=⟨us⟩)(hone:∀u∈us,u.oneCell'=true)(hs:∀w:World,(sizeOf T).run P w=.ok us.length w)(hO:Ow D b)
  (hsz:∀j,j<us.length→∃v,D.W.cell? ⟨b,o+j,none⟩=some v) (hle:S.g≤g') (hne:∀i k,g'≤i→i<D.n→k<D.sz→b=D.b0→D.o0+i*D.sz+k<o∨o+us.length≤D.o0+i*D.sz+k)
  (next:RunT P (o5 D M0) ops true K rest [] {S with g:=g'}):RunT P (o5 D M0) ops true K (⟨none,.store T x y,ty,pos,aft,gd⟩::rest) acc S:=by
 refine .inr ⟨rfl,fun S'=>S'={S with g:=g'},?_,fun S' h=>by subst h;exact next⟩
 rintro i' a w L Q ho ⟨E,h⟩ hL
 refine bG (C:=o5 D M0) ho (hg.wanted h (fun s _=>rfl) rfl) ?_
 have h1:a.eval x=.pointer (some ⟨b,o,none⟩):=by have h1:=h.ev x;rw[hx]at h1;exact h1
 have hu:=hy E a w h
 obtain⟨My,vs,T',q1,q2,q3⟩:=h.jj.2.2 b hO
 have hlen:us.length=0∨o+us.length≤vs.length:=by
  by_cases h0:us.length=0
  ·exact .inl h0
  ·obtain⟨v,e⟩:=hsz (us.length-1) (by omega)
   simp only[World.cell?,q1]at e
   simp only[Option.isSome_none,Bool.false_eq_true,if_false,List.getElem?_toArray]at e
   have:=(List.getElem?_eq_some_iff.1 e).1
   omega
 have hr:(execOp a.eval ⟨none,.store T x y,ty,pos,aft,gd⟩).run P w=.ok .skip (dz w b (iY vs o us) T'):=by
  rcases hlen with h0|h0
  ·have:us=[]:=List.length_eq_zero_iff.1 h0
   subst this
   simp only[execOp,h1,Instr.storeAt,Instr.sureAddr,storeVar,hu]
   simp only[Sem.run_bind,Sem.run_pure,Result.andThen_ok,hs]
   simp[storeCells,iY,w9 q2]
  ·have hst:=gE (P:=P) us 0 o w vs hone q2 (by omega)
   simp only[execOp,h1,Instr.storeAt,Instr.sureAddr,storeVar,hu]
   simp only[Sem.run_bind,Sem.run_pure,Result.andThen_ok,hs]
   simp only[List.size_toArray,ne_eq,not_true_eq_false,if_false]
   simp only[Nat.add_zero]at hst
   simp only[Result.andThen_ok,hst]
 exact bH (C:=o5 D M0) (by intro c h;cases h) hr (hL _ _ _ rfl ⟨E,h.afz hO q2 (h.jj.2.put hle q2 hne)⟩)
end
section
variable {P:Program}
structure SpV (D:MA) {α:Type} (e:α→List SV) (l:List α) (v:Value):Prop where
 n:D.n=l.length
 v:∃a c,v=.slice a l.length c∧(l≠[]→a=some ⟨D.b0,D.o0,none⟩)∧l.length≤9223372036854775807
 row:∀(i:Nat) (x:α),l[i]? =some x→(e x).length=D.sz∧∀(k:Nat) (s:SV),(e x)[k]? =some s→∃y,D.Mx D.b0 (D.o0+i*D.sz+k)=some y∧y.oneCell'=true∧s.h D.Mx y
theorem Ep{f:FuncId}{fn:Func}{code:Code}{sz:Nat}{α:Type}{e:Nat→α→List SV}{l:List α}(hf:P.funcs[f]? =some fn)(hb:fn.body=some code)(hn:1≤fn.ntmps)(hres:fn.results.toList=[])(hel:∀N x,(e N x).length=sz)
  (h:∀(N:Nat) (D:MA) (M0:Mem) (v:Value),D.sz=sz→SpV D (e N) l v→Ok P (o5 D M0) code (AS.init fn.ntmps [.v v]) (fun ex S=>ex=.normal∨ex=.ret)):Gi P f (fun N=>slc sz (l.map (e N))):=by
 intro M w v N1 N2 hM hv
 obtain⟨hs,hmk⟩:=hv
 have Zg:((M.to N2).fr N1).bV w:=fun b o x q=>hM b o x (Mem.Qd _ _ _ _ _ (Mem.GY _ _ _ _ _ q))
 obtain⟨D,hDW,hDM,afB,hV⟩:∃D:MA,D.W=w∧D.Mx=(M.to N2).fr N1∧D.sz=sz∧SpV D (e N1) l v:=by
  rcases hs with⟨a,h1,h2⟩|⟨b,o,c,h1,h2,h3,h4⟩
  ·have hl:l=[]:=List.map_eq_nil_iff.1 h2
   subst hl
   exact⟨⟨w,(M.to N2).fr N1,0,0,0,sz,Zg,fun h=>by omega,fun i k h=>by omega⟩,rfl,rfl,rfl,⟨rfl,⟨a,0,h1,fun h=>(h rfl).elim,by simp⟩,fun i x h=>by simp at h⟩⟩
  ·rw[List.length_map]at h1 h2 h3
   have hcell:∀(i:Nat) (x:α),l[i]? =some x→(e N1 x).length=sz∧∀(k:Nat) (s:SV),(e N1 x)[k]? =some s→∃y,((M.to N2).fr N1) b (o+i*sz+k)=some y∧y.oneCell'=true∧s.h ((M.to N2).fr N1) y:=fun i x hx=>h4 i (e N1 x) (by rw[List.getElem?_map,hx];rfl)
   refine⟨⟨w,(M.to N2).fr N1,b,o,l.length,sz,Zg,fun _=>hmk b (by rw[h1];rfl),fun i k hi hk=>?_⟩,rfl,rfl,rfl,⟨rfl,⟨_,c,h1,fun _=>rfl,h3⟩,hcell⟩⟩
   obtain⟨q1,q2⟩:=hcell i _ (List.getElem?_eq_getElem hi)
   obtain⟨y,q3,q4,_⟩:=q2 k _ (List.getElem?_eq_getElem (by omega))
   exact⟨y,q3,q4⟩
 subst hDW
 have hOw:∀k,Ow D k↔Own M N1 N2 k:=fun k=>by unfold Ow Own;rw[hDM]
 have hMc:(M.ct N1 N2).bV D.W:=fun b o x q=>hM b o x (Mem.LJ _ _ _ _ _ _ q)
 have hno:∀b,Ow D b→∀o,(M.ct N1 N2) b o=none:=fun b hb o=>by
  obtain⟨q1,q2,_⟩:=LL ((hOw b).1 hb)
  unfold Mem.ct;rw[if_pos ⟨q1,q2⟩]
 have hv1:SV.dw (M.ct N1 N2) [.v v] [v]:=⟨rfl,trivial⟩
 have VI:=iy hMc hv1 hn
 have JK:au (o5 D (M.ct N1 N2)) (AS.init fn.ntmps [.v v]) ⟨fun _=>0,fun _=>.nilIface,Ow D,M.ct N1 N2⟩ {tmps:=⟨[v]⟩++Array.replicate (fn.ntmps-(⟨[v]⟩:Array Value).size) undef,defers:=[]} D.W:=
  {wf:=VI.wf
   marks:=⟨[],rfl,List.nodup_nil,by simp⟩
   size:=VI.size
   os:=rfl
   tape:=rfl
   output:=rfl
   grown:=Nat.le_refl _
   frame:=fun _ _ _=>rfl
   m0:=Mem.le_refl _
   cX:=fun _ _ _ q=>.inl q
   bV:=hMc
   tm:=fun s=>AV.bO (E:=⟨fun _=>0,fun _=>.nilIface,fun _=>False,M.ct N1 N2⟩) (E':=⟨fun _=>0,fun _=>.nilIface,Ow D,M.ct N1 N2⟩) (Mem.le_refl _) (fun _ _=>rfl) (fun _ _=>rfl) (VI.tm s)
   bx:=fun i B q=>by cases q
   inj:=fun i j B B' q=>by cases q
   rx:=fun i R q=>by cases q
   dB:=fun i j R R' q=>by cases q
   fK:=fun i b q=>by cases q
   cI:=fun i v q=>by cases q
   iT:=fun b hb=>by
    obtain⟨o,q⟩:=hb
    have hlt:=(D.hin _ _ _ q).lt
    exact⟨hlt,hno b ⟨o,q⟩,.inl ⟨o,q⟩⟩
   jj:=⟨fun _ hb=>hb,Tl D⟩}
 refine(callsIn_wide (n:=0)).1 (callsIn_of_wp_marks (F:=Fence.wide) hf hb trivial ?_)
 refine wpIn_mono (h N1 D (M.ct N1 N2) v afB hV _ D.W ⟨_,JK⟩) ?_
 rintro ex a' w' ⟨S',he,E,hh⟩
 have key:LeavesInM Fence.wide 0 P fn a'.tmps (fun e w'=>∃u,e=.returned u∧w'.os=D.W.os∧w'.tape=D.W.tape∧w'.output=D.W.output∧D.W.heap.size≤w'.heap.size∧∀k,k<D.W.heap.size→¬Own M N1 N2 k→w'.heap[k]? =D.W.heap[k]?) a'.defers .returning w':=by
  obtain⟨ds,h1,h2,h3⟩:=hh.marks
  rw[h1]
  refine iM ds w' h2 (fun r hr=>(h3 r hr).2.2) (fun w2 g1 g2 g3 g4 g5=>?_)
  have qk:=hh.qT h3 g1 g2 g3 g4 g5
  obtain⟨u,hu,-⟩:=uL (ss:=[]) qk (by rw[hres];trivial)
  exact⟨u,hu,u,rfl,qk.os,qk.tape,qk.output,qk.grown,fun k hk ho=>qk.frame k hk (fun q=>ho ((hOw k).1 q))⟩
 rcases he with rfl|rfl
 ·exact key
 ·exact key
theorem Er{N:Nat}{ws:List Nat}{M:Mem}{y:Value}(h:(nw N (slc 1 (ws.map ah))).h M y):∃a c,y=.slice a ws.length c∧ws.length≤9223372036854775807∧(ws≠[]→∃b o,a=some ⟨b,o,none⟩∧(∃o,M b o=some (.agg #[]))∧∀j,j<ws.length→∃x,M b (o+j)=some (.int .u32 x)):=by
 obtain⟨h1,h2⟩:=h
 rcases h1 with⟨a,e,e2⟩|⟨b,o,c,e,_,e3,e2⟩
 ·have:ws=[]:=List.map_eq_nil_iff.1 e2
  subst this
  exact⟨a,0,e,by simp,fun h=>(h rfl).elim⟩
 ·rw[List.length_map]at e e3
  refine⟨_,c,e,e3,fun _=>⟨b,o,rfl,?_,fun j hj=>?_⟩⟩
  ·obtain⟨o',q⟩:=h2 b (by rw[e];rfl)
   exact⟨o',Mem.GY _ _ _ _ _ q⟩
  ·obtain⟨_,q⟩:=e2 j (ah ws[j]) (by rw[List.getElem?_map,List.getElem?_eq_getElem hj];rfl)
   obtain⟨y,q1,_,q2⟩:=q 0 _ rfl
   have q2:y=.int .u32 ((ws[j]:Nat):Int):=q2
   subst q2
   have q1:=Mem.GY _ _ _ _ _ q1
   rw[show o+j*1+0=o+j by omega]at q1
   exact⟨_,q1⟩
theorem I1{M:Mem}:∀{us:List Value} {v:Value},(SV.agg (us.map SV.v)).h M v→v.cells=⟨us⟩:=by
 rintro us v ⟨vs,rfl,h⟩
 have:vs=us:=by
  induction us generalizing vs with
  |nil=>cases vs with|nil=>rfl|cons _ _=>exact h.elim
  |cons u us ih=>
   cases vs with
   |nil=>exact h.elim
   |cons x xs=>
    have h1:x=u:=h.1
    rw[h1,ih xs h.2]
 subst this;rfl
end
end Go.Fw
namespace Go.Fw
open Go.RowKit
section steps
variable {P:Program}{C:Ctx}{ops:Array Oper}{S:AS}{nd:Bool}{K:List Ac→AS→Prop}{rest:List Oper}{acc:List Ac}
variable {gd:Option (Nat×Bool)}{rg:List Nat}{d:Nat}{ty:TypeId}{pos:String}{aft:Array Edge}{x y z:Operand}{T U E0:TypeId}
theorem RT.cH(hg:Gd ops S gd rg){cs:List SV}(hx:S.ev x=.sv (ref cs))(hd:d<S.n)
  (next:RunT P C ops nd K rest (⟨rg++ak x,[],[],⟨some (d,.sv (ref cs)),[],[]⟩⟩::acc) (S.set d (.sv (ref cs)))):RunT P C ops nd K (⟨some d,.nilCheck x,ty,pos,aft,gd⟩::rest) acc S:=
 RT.value hg (ak x) [] [] (.sv (ref cs)) hd (by intro c h;cases h) (fun S' ht _ _ E a w h=>by
  have h1:=h.ev x
  rw[aA (fun _ h=>h) ht,hx]at h1
  have h1:(ref cs).h E.M (a.eval x):=h1
  obtain⟨b,o,e,h2⟩:=h1
  exact⟨a.eval x,by simp[execOp,e],⟨b,o,e,h2⟩,dN⟩) next
theorem RT.Tn(hg:Gd ops S gd rg)[tT:vk P T]{cs:List SV}(hx:S.ev x=.sv (ref cs))(hy:S.ev y=.sv (.v (.pointer none)))(hd:d<S.n)
  (next:RunT P C ops nd K rest (⟨rg++(ak x++ak y),[],[],⟨some (d,.sv (.v (.bool false))),[],[]⟩⟩::acc) (S.set d (.sv (.v (.bool false))))):RunT P C ops nd K (⟨some d,.binOp .eql T x y U,ty,pos,aft,gd⟩::rest) acc S:=
 RT.value hg (ak x++ak y) [] [] (.sv (.v (.bool false))) hd (by intro c h;cases h) (fun S' ht _ _ E a w h=>by
  have h1:=h.ev x
  rw[aA (fun _ h=>List.mem_append_left _ h) ht,hx]at h1
  have h2:=h.ev y
  rw[aA (fun _ h=>List.mem_append_right _ h) ht,hy]at h2
  have h1:(ref cs).h E.M (a.eval x):=h1
  obtain⟨b,o,h1,_⟩:=h1
  have h2:a.eval y=.pointer none:=h2
  have e:=run_eql_pointer_nil (P:=P) w T (some ⟨b,o,none⟩) tT.u
  refine⟨.bool false,?_,rfl,dN⟩
  simp[execOp,h1,h2,eqGuard,e]) next
theorem RT.NR(hg:Gd ops S gd rg){f:FuncId}[cz P f]{g:Operand}{at_:Array TypeId}{X:Nat→SV}(hp:Gi P f X)(hf:S.ev g=.sv (.v (.func (.func f) #[] #[]))){N1:Nat}{s:SV}(hx:S.ev x=.sv s)(hs:SV.imp s (nw N1 (X N1)))
  (hC:∀b o v,C.M0 b o=some v→b<C.w0.heap.size) (hJ:∀g go O M w,C.J g go O M w) (Fo:∀i,C.cI i=none) (hN:C.w0.heap.size≤N1)
  {n:Nat} {ts:List (Nat×AV)} {bs:List (Nat×lP)} {g':Nat} {go:Bool} (hn:S.n=n) (hwf:((ts.all fun p=>p.2.jO bs [])&&(bs.all fun p=>p.2.cells.all fun x=>x.jO bs []))=true) (ht:∀N2,Us N1 N2 S ts) (hb:∀N2,Ut N1 N2 S bs) (hd:(ts.all fun p=>!(Nat.beq d p.1))=true) (hdn:d<n)
  (next:RunT P C ops true K rest [] (AS.bL n ts bs [] g' go)):RunT P C ops true K (⟨some d,.call ⟨.value g,#[x],at_⟩,ty,pos,aft,gd⟩::rest) acc S:=by
 refine .inr ⟨rfl,fun S'=>S'=AS.bL n ts bs [] g' go,?_,fun S' h2=>by subst h2;exact next⟩
 rintro i a w L Q ho ⟨E,h⟩ hL
 refine bG (C:=C) ho (hg.wanted h (fun s _=>rfl) rfl) ?_
 have uJ:a.eval g=.func (.func f) #[] #[]:=by
  have h1:=h.ev g;rw[hf]at h1;exact h1
 have hle:E.M.le (E.M.to w.heap.size):=fun b o v e=>by
  have:=iU h.bV e
  unfold Mem.to;rw[if_pos (by omega)];exact e
 have hxv:(nw N1 (X N1)).h (E.M.to w.heap.size) (a.eval x):=by
  have h1:=h.ev x;rw[hx]at h1;exact(nw N1 (X N1)).mono hle (hs _ _ h1)
 have hr:(execOp a.eval ⟨some d,.call ⟨.value g,#[x],at_⟩,ty,pos,aft,gd⟩).run P w=.ok (.enter f ⟨[a.eval x]⟩) w:=by
  have e1:=cz.run (P:=P) (f:=f) (#[a.eval x]) w
  simp[execOp,resolve,uJ,Deferred.ofValue,invoke,e1]
 refine bH (C:=C) (by intro c h;cases h) hr ?_
 refine⟨fun h=>by simp at h,fS ((hp E.M w _ N1 w.heap.size h.bV hxv).mono ?_)⟩
 rintro e w' ⟨u,rfl,hos,lq,hout,hsize,hsame⟩
 have hh:=h.afy (w':=w') hC hJ Fo hN (n:=n) (g:=g') (go:=go) hn hwf (ht w.heap.size) (hb w.heap.size) hos lq hout hsize (fun k hk Es=>hsame k hk (fun ho=>by
  obtain⟨q1,q2,o,q3⟩:=LL ho
  rcases Es with q|q|q
  ·omega
  ·omega
  ·rw[q o]at q3;cases q3))
 have hlk:(AS.bL n ts bs [] g' go).set d (.sv .any)=AS.bL n ts bs [] g' go:=by
  refine AS.ext' rfl (fun t=>?_) (fun _=>rfl) (fun _=>rfl) rfl rfl
  by_cases e:t=d
  ·subst e
   rw[AS.gS]
   show _=Dz ts t
   rcases r9 (ts:=ts) (s:=t)with q|⟨p,hp,q1,q2⟩
   ·rw[q]
   ·have:=List.all_eq_true.1 hd p hp
    rw[q1]at this
    simp at this
  ·exact AS.eW _ _ _ _ e
 refine hL _ _ _ rfl ?_
 rw[←hlk]
 exact⟨_,hh.put (x:=.sv .any) trivial hdn dN⟩
end steps
end Go.Fw
namespace Go.Proofs.YtmiflmkdaeianaaGreat
open Go.Fw
noncomputable def lI(x0:Int):Option (Unit):=bM (fun(ue:Bool)=>(bif ue then some ()else none)) fun K3=>(some (decide ((x0:Int)<1))).bind fun x5=>(bif x5 then some true else(some (decide ((64:Int)<x0))).bind fun x8=>some x8).bind fun zL=>K3 zL
noncomputable def eF(x0:Bk):Option (Bool):=match x0 with|⟨aD,aB⟩=>bM (fun(KP:Bool)=>some KP) fun K3=>(bif false then none else(some (decide ((aD:Int)=0))).bind fun eG=>some eG).bind fun D8=>K3 D8
noncomputable def dy(x0:Bk):Option (List En):=match x0 with|⟨aD,aB⟩=>(eF ⟨aD,aB⟩).bind fun x7=>(bif x7 then some []else(some (aB.length:Int)).bind fun dA=>(Is 56 dA (⟨0,0,0,⟨false,[]⟩⟩:En)).bind fun fE=>(some (aB.length:Int)).bind fun dQ=>(bC (fun(s8:Int×(List En))=>match s8 with|⟨qC,oU⟩=>(show Option ((Int×(List En))⊕((List En)))from(some (decide ((qC:Int)<dQ))).bind fun gQ=>(bif gQ then(bQ aB qC).bind fun⟨nW,nX,qB,⟨sX,zY⟩⟩=>(cM ⟨sX,zY⟩ ⟨false,[]⟩).bind fun⟨nO,mQ⟩=>(qX oU qC).bind fun iu=>(stM oU iu ⟨nW,nX,qB,⟨nO,mQ⟩⟩).bind fun E7=>(some (IntKind.i64.wrap (qC+1))).bind fun iZ=>some (.inl (iZ,E7))else some (.inr oU)))) (0,fE)).bind fun jd=>some jd)
noncomputable def jJ(x0:Bk):Option (List Zr):=match x0 with|⟨aD,aB⟩=>(eF ⟨aD,aB⟩).bind fun x7=>(bif x7 then some []else(Is 32 aD (⟨false,[]⟩:Zr)).bind fun dA=>(some (aB.length:Int)).bind fun dI=>(bC (fun(oG:Int×(List Zr))=>match oG with|⟨vn,nm⟩=>(show Option ((Int×(List Zr))⊕((List Zr)))from(some (decide ((vn:Int)<dI))).bind fun jL=>(bif jL then(bQ aB vn).bind fun⟨ei,kH,vo,⟨qD,Bu⟩⟩=>(qX nm ei).bind fun jR=>(nm[jR]?).bind fun⟨xp,xq⟩=>(cM ⟨xp,xq⟩ ⟨qD,Bu⟩).bind fun⟨mR,mh⟩=>(qX nm ei).bind fun iZ=>(stM nm iZ ⟨mR,mh⟩).bind fun E8=>(qX E8 0).bind fun oH=>(E8[oH]?).bind fun⟨rC,rD⟩=>(iA ⟨rC,rD⟩ ⟨qD,Bu⟩).bind fun⟨mm,mq⟩=>(qX E8 0).bind fun vV=>(stM E8 vV ⟨mm,mq⟩).bind fun SP=>(some (IntKind.i64.wrap (vn+1))).bind fun oc=>some (.inl (oc,SP))else some (.inr nm)))) (0,dA)).bind fun nn=>some nn)
noncomputable def gD(x0:Bk)(x1:Int):Option (Zr×Int):=match x0 with|⟨aD,aB⟩=>(eF ⟨aD,aB⟩).bind fun x7=>(bif x7 then some (⟨false,[]⟩,2)else bM (fun(LM:Bool)=>(bif LM then some (⟨false,[]⟩,1)else(jJ ⟨aD,aB⟩).bind fun ij=>(bQ ij x1).bind fun⟨nj,nk⟩=>some (⟨nj,nk⟩,0))) fun K3=>(some (decide ((x1:Int)<0))).bind fun eG=>(bif eG then some true else(some (decide ((aD:Int)≤x1))).bind fun dI=>some dI).bind fun Qg=>K3 Qg)
noncomputable def nA(x0:Bk)(x1:Nat):Option (Zr):=match x0 with|⟨aD,aB⟩=>(eF ⟨aD,aB⟩).bind fun eG=>(bif eG then some ⟨false,[]⟩else(some (aB.length:Int)).bind fun ek=>(bC (fun(s8:Int×Bool×(List Nat))=>match s8 with|⟨rO,ga,gb⟩=>(show Option ((Int×Bool×(List Nat))⊕(Bool×(List Nat)))from(some (decide ((rO:Int)<ek))).bind fun dQ=>(bif dQ then(bQ aB rO).bind fun⟨nT,nU,Ls,⟨Hg,Hh⟩⟩=>(some (decide ((nU:Nat)=x1))).bind fun dR=>bM (fun(wJ:Bool×(List Nat))=>match wJ with|⟨nq,nu⟩=>(some (IntKind.i64.wrap (rO+1))).bind fun gx=>some (.inl (gx,nq,nu))) fun KT=>(bif dR then(cM ⟨ga,gb⟩ ⟨Hg,Hh⟩).bind fun⟨zM,zN⟩=>KT (zM,zN)else KT (ga,gb))else some (.inr (ga,gb))))) (0,false,[])).bind fun e8=>match e8 with|⟨rP,rQ⟩=>some ⟨rP,rQ⟩)
noncomputable def lJ(x0:Int):Option (Int×(List En)):=bM (fun(ue:Bool)=>(bif ue then none else some (x0,[]))) fun K3=>(some (decide ((x0:Int)<1))).bind fun x5=>(bif x5 then some true else(some (decide ((64:Int)<x0))).bind fun x8=>some x8).bind fun zL=>K3 zL
noncomputable def ko(x0:Int):Option (Unit):=bM (fun(ue:Bool)=>(bif ue then some ()else none)) fun K3=>(some (decide ((x0:Int)<1))).bind fun x5=>(bif x5 then some true else(some (decide ((64:Int)<x0))).bind fun x8=>some x8).bind fun zL=>K3 zL
noncomputable def fy(o0:Int)(o1:List En)(x1:Int)(x2:Nat)(x3:Int)(x4:Qr):Option (Int×(List En)):=match x4 with|⟨⟨ou,ow⟩,⟨D9,Ea⟩⟩=>bM (fun(zm:Bool)=>(bif zm then some (1,o1)else bM (fun(LN:Bool)=>(bif LN then some (12,o1)else bM (fun(LO:Bool)=>(bif LO then some (1,o1)else(some (o1.length:Int)).bind fun qG=>(some (decide ((1024:Int)≤qG))).bind fun oa=>(bif oa then some (5,o1)else(jl ⟨⟨ou,ow⟩,⟨D9,Ea⟩⟩).bind fun⟨mS,mU⟩=>(uC 56 o1 [⟨x1,x2,x3,⟨mS,mU⟩⟩]).bind fun E6=>some (0,E6)))) fun K9=>(some (decide ((x3:Int)<(-1)))).bind fun jR=>(bif jR then some true else(some (decide ((7:Int)<x3))).bind fun lU=>some lU).bind fun LP=>K9 LP)) fun K6=>(some (decide ((x2:Nat)<1))).bind fun gR=>(bif gR then some true else(some (decide ((4:Nat)<x2))).bind fun nH=>some nH).bind fun LQ=>K6 LQ)) fun K3=>(some (decide ((x1:Int)<1))).bind fun dA=>(bif dA then some true else(some (decide ((o0:Int)≤x1))).bind fun jL=>some jL).bind fun LR=>K3 LR
noncomputable def kp(x0:Bk)(x1:Int):Option (Zr):=match x0 with|⟨aD,aB⟩=>(bC (fun(oG:Int×Bool×(List Nat))=>match oG with|⟨wL,wN,wO⟩=>(show Option ((Int×Bool×(List Nat))⊕(Bool×(List Nat)))from(some (aB.length:Int)).bind fun fE=>(some (decide ((wL:Int)<fE))).bind fun gp=>(bif gp then(bQ aB wL).bind fun⟨nW,nX,qB,⟨sX,zY⟩⟩=>(some (decide ((nW:Int)=x1))).bind fun gu=>bM (fun(Uv:Bool×(List Nat))=>match Uv with|⟨yn,yo⟩=>(some (decide ((x1:Int)=0))).bind fun oa=>bM (fun(Pd:Bool×(List Nat))=>match Pd with|⟨CW,CX⟩=>(some (IntKind.i64.wrap (wL+1))).bind fun ek=>some (.inl (ek,CW,CX))) fun Vs=>(bif oa then(bQ aB wL).bind fun⟨Ht,Hu,Hv,⟨El,Qh⟩⟩=>(lC ⟨yn,yo⟩ ⟨El,Qh⟩).bind fun⟨mS,mU⟩=>Vs (mS,mU)else Vs (yn,yo))) fun K12=>(bif gu then(bQ aB wL).bind fun⟨nY,nZ,LS,⟨Et,Eu⟩⟩=>(fm ⟨wN,wO⟩ ⟨Et,Eu⟩).bind fun⟨jS,jb⟩=>K12 (jS,jb)else K12 (wN,wO))else some (.inr (wN,wO))))) (0,false,[])).bind fun DV=>match DV with|⟨LU,LV⟩=>some ⟨LU,LV⟩
noncomputable def lK(x0:Bk)(x1:Nat):Option (Zr):=match x0 with|⟨aD,aB⟩=>(bC (fun(s8:Int×Bool×(List Nat))=>match s8 with|⟨tD,ga,gb⟩=>(show Option ((Int×Bool×(List Nat))⊕(Bool×(List Nat)))from(some (aB.length:Int)).bind fun fE=>(some (decide ((tD:Int)<fE))).bind fun gp=>(bif gp then(bQ aB tD).bind fun⟨nW,nX,qB,⟨sX,zY⟩⟩=>(some (decide ((nX:Nat)=x1))).bind fun gu=>bM (fun(wJ:Bool×(List Nat))=>match wJ with|⟨nq,nu⟩=>(some (IntKind.i64.wrap (tD+1))).bind fun ek=>some (.inl (ek,nq,nu))) fun KT=>(bif gu then(bQ aB tD).bind fun⟨nY,nZ,LS,⟨Et,Eu⟩⟩=>(fm ⟨ga,gb⟩ ⟨Et,Eu⟩).bind fun⟨jS,jb⟩=>KT (jS,jb)else KT (ga,gb))else some (.inr (ga,gb))))) (0,false,[])).bind fun e8=>match e8 with|⟨rP,rQ⟩=>some ⟨rP,rQ⟩
noncomputable def gN(x0:Bk)(x1:Bk):Option (Bool):=match x0 with|⟨aD,aB⟩=>match x1 with|⟨bt,bn⟩=>(dy ⟨aD,aB⟩).bind fun fV=>(kj fV).bind fun dA=>(kg dA bn).bind fun dI=>(some (!dI)).bind fun dQ=>(bif dQ then some false else(jJ ⟨aD,aB⟩).bind fun gQ=>(some (gQ.length:Int)).bind fun gR=>(some (decide ((gR:Int)≠bt))).bind fun jr=>(bif jr then some false else(bC (fun(oV:Int)=>(show Option ((Int)⊕((Unit)⊕(Bool)))from(some (decide ((oV:Int)<bt))).bind fun iZ=>(bif iZ then(gD ⟨aD,aB⟩ oV).bind fun⟨⟨Gj,Gk⟩,To⟩=>bM (fun(Gl:Bool)=>(bif Gl then some (.inr (.inr false))else(some (IntKind.i64.wrap (oV+1))).bind fun pH=>some (.inl pH))) fun Uq=>(some (decide ((To:Int)≠0))).bind fun xN=>(bif xN then some true else(kp ⟨bt,bn⟩ oV).bind fun⟨mS,mU⟩=>(dm ⟨Gj,Gk⟩ ⟨mS,mU⟩).bind fun Vn=>(some (!Vn)).bind fun tB=>some tB).bind fun LW=>(bif LW then some true else(bQ gQ oV).bind fun⟨HH,Ev⟩=>(dm ⟨HH,Ev⟩ ⟨Gj,Gk⟩).bind fun Nc=>(some (!Nc)).bind fun J4=>some J4).bind fun Tp=>Uq Tp else some (.inr (.inl ()))))) 0).bind fun Ll=>match Ll with|.inr eO=>some eO|.inl _=>(bC (fun(Ew:Int)=>(show Option ((Int)⊕((Unit)⊕(Bool)))from(some (decide ((Ew:Int)<7))).bind fun x62=>(bif x62 then(some ((Ew%256).toNat)).bind fun O7=>(nA ⟨aD,aB⟩ O7).bind fun⟨Qi,Qj⟩=>(some ((Ew%256).toNat)).bind fun Wj=>(lK ⟨bt,bn⟩ Wj).bind fun⟨Ex,HI⟩=>(dm ⟨Qi,Qj⟩ ⟨Ex,HI⟩).bind fun Wk=>(some (!Wk)).bind fun Nd=>(bif Nd then some (.inr (.inr false))else(some (IntKind.i64.wrap (Ew+1))).bind fun Tg=>some (.inl Tg))else some (.inr (.inl ()))))) 0).bind fun e32=>match e32 with|.inr v32=>some v32|.inl _=>some true))
end Go.Proofs.YtmiflmkdaeianaaGreat
namespace Go.Proofs.YtmiflmkdaeianaaGreat
open Go.Fw Go.Fw.Z Go.RowKit
theorem CY{x0:Int}{r:Unit}(h:lI x0=some r):Pure Tryz.prog 6 [.v (.int .i64 x0)] (.w6 [.v (.pointer none),.v (.int .i64 1)]):=by
 refine aq Tryz.func6 rfl (Nat.le_of_ble_eq_true rfl) (fun c9 M vs hvs=>?_)
 unfold lI at h
 refine sr<|ag rfl<|ag rfl<|dn<|qq<|qq ?_
 refine aC h (fun j3=>AS.bL 13 [(0,.sv (.v (.int .i64 x0))),(9,.sv (.v (.bool j3)))] [] []) (fun h=>?_) (fun ue h=>?_)
 refine af<|mv rfl<|lE h fun x5 h5 h=>ls _ rfl rfl h5<|mv rfl<|bE h fun zL kG h=>?_
 cases x5
 refine gm rfl<|lE (F kG) fun x8 h8 kG=>gg _ rfl rfl h8 ?_
 obtain rfl:=O kG
 exact pF rfl<|dn<|⟨x8,h,wR []⟩
 obtain rfl:=O (V kG)
 exact ww<|ww<|pT rfl<|dn<|⟨true,h,wR []⟩
 try dsimp only
 refine ae.n ?_
 cases ue
 refine fs<|sr<|mv rfl<|bI (cs:=[_,_]) (cs':=[.v (.int .i64 x0),slc 5 (List.map dH [])]) (.one rfl (.nil)) ⟨SV.aa _,imp_nil,trivial⟩<|bx rfl<|an (s:=.ptr _ _) rfl<|ag rfl<|dn<|aj ?_
 replace h:=F h
 cases h
 refine cT<|sr<|ag rfl<|ag rfl<|dn<|aj<|ae.r ?_
 obtain rfl:=O (V h)
 exact R2 rfl rfl
theorem iG{x0:Bk}{r:Bool}(h:eF x0=some r):Pure Tryz.prog 20 [ref (Iv x0)] (.v (.bool r)):=by
 obtain⟨aD,aB⟩:=x0
 refine aq Tryz.func20 rfl (Nat.le_of_ble_eq_true rfl) (fun c9 M vs hvs=>?_)
 unfold eF at h
 refine sr<|ag rfl<|dn<|qq ?_
 refine aC h (fun j3=>AS.bL 12 [(2,.sv (.v (.bool j3)))] [] []) (fun h=>?_) (fun KP h=>?_)
 refine af<|mv rfl<|RT.Tn .none rfl rfl T<|mv rfl<|bE h fun D8 kG h=>gm rfl<|RT.cH (.some rfl rfl) rfl T<|RT.aH (.some rfl rfl) rfl T rfl<|gr rfl rfl<|lE (F kG) fun eG gG kG=>DO _ rfl rfl (oN (p:=aD) (q:=0) gG) ?_
 obtain rfl:=O kG
 exact pF rfl<|ag rfl<|dn<|⟨eG,h,wR []⟩
 try dsimp only
 refine ae.n<|aj ?_
 obtain rfl:=O h
 exact R1 rfl
theorem wP{x0:Bk}{r:List En}(h:dy x0=some r):Pure Tryz.prog 12 [ref (Iv x0)] (slc 5 (List.map dH r)):=by
 obtain⟨aD,aB⟩:=x0
 refine aq Tryz.func12 rfl (Nat.le_of_ble_eq_true rfl) (fun c9 M vs hvs=>?_)
 unfold dy at h
 refine sr<|aI rfl (imp_nil (n:=5) (e:=dH))<|dn<|qq<|sr<|mv rfl<|bE h fun x7 h7 h=>cl (iG h7) ⟨rfl,trivial⟩<|dn ?_
 cases x7
 refine fs<|sr<|mv rfl<|RT.cH .none rfl T<|RT.aH .none rfl T rfl<|lr rfl rfl<|lE (F h) fun dA gX h=>ln rfl gX<|bE h fun fE jy h=>RT.uU (n:=5) (e:=dH) .none rfl rfl T rfl T (by rfl) (by decide) (by exact⟨SV.aa _,SV.aa _,SV.aa _,SV.aa _,imp_nil,trivial⟩) jy<|an (s:=.row _) rfl<|dn<|qq<|sr<|mv rfl<|RT.cH .none rfl T<|RT.aH .none rfl T rfl<|lr rfl rfl ?_
 refine lE h fun dQ iN h=>ln rfl iN<|mv rfl<|dn<|bE h fun e8 Cp tN=>?_
 refine aP (fun(jd:(List En))=>AS.bL 35 [(3,.row 13)] [] [(13,TR 61 5 dH jd)]) (fun jd=>jd=e8) ?_ (fun jd Cq=>?_)
 refine ax ?_
 refine aQ Cp (fun s8=>AS.bL 35 [(3,.row 13),(17,.sv (slc 5 (List.map dH aB))),(18,.sv (.v (.int .i64 dQ))),(19,.sv (.v (.int .i64 s8.1)))] [] [(13,TR 61 5 dH s8.2)]) (wR []) (fun s8 y8 G8 h Cr Cs=>?_)
 obtain⟨qC,oU⟩:=s8
 try dsimp only
 refine sr<|lE h fun gQ kE h=>ls _ rfl rfl kE<|dn<|qq ?_
 cases gQ
 refine cF<|aW<|ae.x<|ae.x<|aG.x<|ae.n ?_
 obtain rfl:=O (F h)
 exact⟨oU,Cs _ rfl,wR []⟩
 refine cT<|aE<|ae.n<|qq<|ax<|sr<|mv rfl ?_
 obtain⟨⟨nW,nX,qB,⟨sX,zY⟩⟩,lj,h⟩:=bS (V h)
 refine ix rfl rfl lj<|RT.kF (cs:=[_,_,_,_,_]) .none rfl T rfl rfl<|al (cs:=[.v (.int .i64 0),.v (.int .u8 ((0:Nat):Int)),.v (.int .i64 0),.v (.bool false),slc 1 (List.map ah [])]) (by exact⟨SV.aa _,SV.aa _,SV.aa _,SV.aa _,imp_nil,trivial⟩) rfl<|ag rfl<|so rfl rfl rfl<|dn<|sr<|fa rfl rfl<|ld rfl rfl (.cons rfl (.cons rfl (.nil)))<|bI (cs:=[_,_]) (cs':=[.v (.bool false),slc 1 (List.map ah [])]) (.nil) ⟨SV.aa _,imp_nil,trivial⟩ ?_
 obtain⟨⟨nO,mQ⟩,nI,h⟩:=bS h
 refine cl (fg nI) ⟨rfl,rfl,trivial⟩<|fa rfl rfl<|RT.B3 (cells:=[_,_,_,_,_]) .none rfl rfl rfl rfl T rfl<|dn<|af<|mo (s:=.row _) rfl<|mv rfl<|ld rfl rfl (.cons rfl (.cons rfl (.cons rfl (.cons rfl (.cons rfl (.nil))))))<|bE h fun iu lY h=>iR rfl rfl rfl lY<|bE h fun E7 zy h=>sA ⟨nW,nX,qB,⟨nO,mQ⟩⟩ rfl rfl rfl zy<|RT.done<|aG.n<|ae.n<|af<|lE h fun iZ mu h=>ad _ rfl rfl mu<|mv rfl ?_
 refine RT.done ?_
 obtain rfl:=O h
 exact ae.n ⟨(iZ,E7),Cr _ rfl,wR []⟩
 subst Cq
 try dsimp only
 refine ae.n<|sr<|mo (s:=.row _) rfl<|an (s:=.row _) rfl<|dn<|bq (b8 (i:=13) (E1:=61) (n:=5) (e:=dH) (l:=jd) rfl)<|aj ?_
 obtain rfl:=O tN
 exact R1 rfl
 refine cT<|sr<|aI rfl (imp_nil (n:=5) (e:=dH))<|dn<|aj<|ae.r ?_
 obtain rfl:=O (V h)
 exact R1 rfl
theorem vC{x0:Bk}{r:List Zr}(h:jJ x0=some r):Pure Tryz.prog 16 [ref (Iv x0)] (slc 2 (List.map eZ r)):=by
 obtain⟨aD,aB⟩:=x0
 refine aq Tryz.func16 rfl (Nat.le_of_ble_eq_true rfl) (fun c9 M vs hvs=>?_)
 unfold jJ at h
 refine sr<|aI rfl (imp_nil (n:=2) (e:=eZ))<|dn<|qq<|sr<|mv rfl<|bE h fun x7 h7 h=>cl (iG h7) ⟨rfl,trivial⟩<|dn ?_
 cases x7
 refine fs<|sr<|mv rfl<|RT.cH .none rfl T<|RT.aH .none rfl T rfl<|lr rfl rfl<|bE (F h) fun dA gX h=>RT.uU (n:=2) (e:=eZ) .none rfl rfl T rfl T (by rfl) (by decide) (by exact⟨SV.aa _,imp_nil,trivial⟩) gX<|an (s:=.row _) rfl<|dn<|qq<|sr<|mv rfl<|RT.cH .none rfl T<|RT.aH .none rfl T rfl<|lr rfl rfl<|lE h fun dI iW h=>ln rfl iW<|mv rfl<|RT.done ?_
 refine ae.n<|bE h fun DV tJ oh=>?_
 refine aP (fun(nn:(List Zr))=>AS.bL 44 [(3,.row 12)] [] [(12,TR 35 2 eZ nn)]) (fun nn=>nn=DV) ?_ (fun nn tK=>?_)
 refine ax ?_
 refine aQ tJ (fun oG=>AS.bL 44 [(3,.row 12),(16,.sv (slc 5 (List.map dH aB))),(17,.sv (.v (.int .i64 dI))),(18,.sv (.v (.int .i64 oG.1)))] [] [(12,TR 35 2 eZ oG.2)]) (wR []) (fun oG RN RO h tL sH=>?_)
 obtain⟨vn,nm⟩:=oG
 try dsimp only
 refine sr<|lE h fun jL mW h=>ls _ rfl rfl mW<|dn<|qq ?_
 cases jL
 refine cF<|aW<|ae.x<|ae.x<|aG.x<|ae.n ?_
 obtain rfl:=O (F h)
 exact⟨nm,sH _ rfl,wR []⟩
 refine cT<|aE<|ae.n<|qq<|ax<|sr ?_
 obtain⟨⟨ei,kH,vo,⟨qD,Bu⟩⟩,kE,h⟩:=bS (V h)
 refine ix rfl rfl kE<|RT.kF (cs:=[_,_,_,_,_]) .none rfl T rfl rfl<|al (cs:=[.v (.int .i64 0),.v (.int .u8 ((0:Nat):Int)),.v (.int .i64 0),.v (.bool false),slc 1 (List.map ah [])]) (by exact⟨SV.aa _,SV.aa _,SV.aa _,SV.aa _,imp_nil,trivial⟩) rfl<|so rfl rfl rfl<|dn<|qq<|ai mixed<|mo (s:=.row _) rfl<|fa rfl rfl<|lV rfl rfl rfl<|mo (s:=.row _) rfl<|fa rfl rfl<|lV rfl rfl rfl ?_
 refine bE h fun jR ru h=>iR rfl rfl rfl ru ?_
 obtain⟨⟨xp,xq⟩,kW,h⟩:=bS h
 refine lA rfl rfl kW<|fa rfl rfl<|ld rfl rfl (.cons rfl (.cons rfl (.nil))) ?_
 obtain⟨⟨mR,mh⟩,lY,h⟩:=bS h
 refine cl (fg lY) ⟨rfl,rfl,trivial⟩<|bE h fun iZ mu h=>iR rfl rfl rfl mu<|bE h fun E8 KU h=>sA ⟨mR,mh⟩ rfl rfl rfl KU ?_
 refine RT.done ⟨by kernel_rfl,?_⟩
 refine ae.n<|ai mixed<|mo (s:=.row _) rfl<|mo (s:=.row _) rfl<|bE h fun oH qI h=>iR rfl rfl rfl qI ?_
 obtain⟨⟨rC,rD⟩,xR,h⟩:=bS h
 refine lA rfl rfl xR<|fa rfl rfl<|ld rfl rfl (.cons rfl (.cons rfl (.nil))) ?_
 obtain⟨⟨mm,mq⟩,sx,h⟩:=bS h
 refine cl (pU sx) ⟨rfl,rfl,trivial⟩<|bE h fun vV Cm h=>iR rfl rfl rfl Cm<|bE h fun SP KV h=>sA ⟨mm,mq⟩ rfl rfl rfl KV ?_
 refine RT.done ⟨by kernel_rfl,?_⟩
 refine aG.n<|ae.n<|af<|lE h fun oc zx h=>ad _ rfl rfl zx<|mv rfl<|RT.done ?_
 obtain rfl:=O h
 exact ae.n ⟨(oc,SP),tL _ rfl,wR []⟩
 subst tK
 try dsimp only
 refine ae.n<|sr<|mo (s:=.row _) rfl<|an (s:=.row _) rfl<|dn<|bq (b8 (i:=12) (E1:=35) (n:=2) (e:=eZ) (l:=nn) rfl)<|aj ?_
 obtain rfl:=O oh
 exact R1 rfl
 refine cT<|sr<|aI rfl (imp_nil (n:=2) (e:=eZ))<|dn<|aj<|ae.r ?_
 obtain rfl:=O (V h)
 exact R1 rfl
theorem vD{x0:Bk}{x1:Int}{r:Zr×Int}(h:gD x0 x1=some r):Pure Tryz.prog 13 [ref (Iv x0),.v (.int .i64 x1)] (.w6 [.agg (eZ r.1),.v (.int .i64 r.2)]):=by
 obtain⟨aD,aB⟩:=x0
 refine aq Tryz.func13 rfl (Nat.le_of_ble_eq_true rfl) (fun c9 M vs hvs=>?_)
 unfold gD at h
 refine sr<|al (cs:=[.v (.bool false),slc 1 (List.map ah [])]) (by exact⟨SV.aa _,imp_nil,trivial⟩) rfl<|ag rfl<|dn<|qq<|sr<|mv rfl<|bE h fun x7 h7 h=>cl (iG h7) ⟨rfl,trivial⟩<|dn ?_
 cases x7
 refine fs<|qq<|qq ?_
 refine aC (F h) (fun j3=>AS.bL 25 [(0,.sv (ref [.v (.int .i64 aD),slc 5 (List.map dH aB)])),(1,.sv (.v (.int .i64 x1))),(4,.ptr 4 0),(18,.sv (.v (.bool j3)))] [(4,⟨35,[.sv (.v (.bool false)),.sv (slc 1 (List.map ah []))]⟩)] []) (fun h=>?_) (fun LM h=>?_)
 refine af<|mv rfl<|lE h fun eG gG h=>ls _ rfl rfl gG<|mv rfl<|bE h fun Qg kG h=>?_
 cases eG
 refine gm rfl<|gm rfl<|RT.cH (.some rfl rfl) rfl T<|RT.aH (.some rfl rfl) rfl T rfl<|gr rfl rfl<|lE (F kG) fun dI iW kG=>RT.geq (.some rfl rfl) _ rfl rfl T iW ?_
 obtain rfl:=O kG
 exact pF rfl<|dn<|⟨dI,h,wR []⟩
 obtain rfl:=O (V kG)
 exact ww<|ww<|ww<|ww<|ww<|ww<|pT rfl<|dn<|⟨true,h,wR []⟩
 try dsimp only
 refine ae.n ?_
 cases LM
 refine fs<|sr<|mv rfl<|bE (F h) fun ij mX h=>cl (vC mX) ⟨rfl,trivial⟩<|mv rfl ?_
 obtain⟨⟨nj,nk⟩,mB,h⟩:=bS h
 refine ix rfl rfl mB<|RT.kF (cs:=[_,_]) .none rfl T rfl rfl<|so rfl rfl rfl<|ag rfl<|dn<|aj ?_
 obtain rfl:=O h
 exact RZ (.agg rfl rfl (.cons rfl (.cons rfl (.nil))) rfl (.tmp rfl (.nil)))
 refine cT<|sr<|bI (cs:=[_,_]) (cs':=[.v (.bool false),slc 1 (List.map ah [])]) (.nil) ⟨SV.aa _,imp_nil,trivial⟩<|so rfl rfl rfl<|ag rfl<|dn<|aj<|ae.r ?_
 obtain rfl:=O (V h)
 exact RZ (.agg rfl rfl (.cons rfl (.cons rfl (.nil))) rfl (.tmp rfl (.nil)))
 refine cT<|sr<|bI (cs:=[_,_]) (cs':=[.v (.bool false),slc 1 (List.map ah [])]) (.nil) ⟨SV.aa _,imp_nil,trivial⟩<|so rfl rfl rfl<|ag rfl<|dn<|aj<|ae.r ?_
 obtain rfl:=O (V h)
 exact RZ (.agg rfl rfl (.cons rfl (.cons rfl (.nil))) rfl (.tmp rfl (.nil)))
theorem Ey{x0:Bk}{x1:Nat}{r:Zr}(h:nA x0 x1=some r):Pure Tryz.prog 19 [ref (Iv x0),.v (.int .u8 ((x1:Nat):Int))] (.agg (eZ r)):=by
 obtain⟨aD,aB⟩:=x0
 refine aq Tryz.func19 rfl (Nat.le_of_ble_eq_true rfl) (fun c9 M vs hvs=>?_)
 unfold nA at h
 refine sr<|al (cs:=[.v (.bool false),slc 1 (List.map ah [])]) (by exact⟨SV.aa _,imp_nil,trivial⟩) rfl<|dn<|sr<|bI (cs:=[_,_]) (cs':=[.v (.bool false),slc 1 (List.map ah [])]) (.nil) ⟨SV.aa _,imp_nil,trivial⟩<|al (cs:=[.v (.bool false),slc 1 (List.map ah [])]) (by exact⟨SV.aa _,imp_nil,trivial⟩) rfl<|so rfl rfl rfl<|dn<|qq<|sr<|mv rfl<|bE h fun eG gG h=>cl (iG gG) ⟨rfl,trivial⟩ ?_
 refine dn ?_
 cases eG
 refine fs<|qq<|sr<|mv rfl<|RT.cH .none rfl T<|RT.aH .none rfl T rfl<|lr rfl rfl<|lE (F h) fun ek jz h=>ln rfl jz<|mv rfl<|dn<|bE h fun e8 Cp tN=>?_
 refine aP (fun(oR:Bool×(List Nat))=>AS.bL 31 [(4,.ptr 4 0),(5,.ptr 5 0)] [(5,⟨35,[.sv (.v (.bool oR.1)),.sv (slc 1 (List.map ah oR.2))]⟩),(4,⟨35,[.sv (.v (.bool false)),.sv (slc 1 (List.map ah []))]⟩)] []) (fun oR=>oR=e8) ?_ (fun oR Cq=>?_)
 refine ax ?_
 refine aQ Cp (fun s8=>AS.bL 31 [(1,.sv (.v (.int .u8 ((x1:Nat):Int)))),(4,.ptr 4 0),(5,.ptr 5 0),(15,.sv (slc 5 (List.map dH aB))),(16,.sv (.v (.int .i64 ek))),(17,.sv (.v (.int .i64 s8.1)))] [(5,⟨35,[.sv (.v (.bool s8.2.1)),.sv (slc 1 (List.map ah s8.2.2))]⟩),(4,⟨35,[.sv (.v (.bool false)),.sv (slc 1 (List.map ah []))]⟩)] []) (wR []) (fun s8 y8 G8 h Cr Cs=>?_)
 obtain⟨rO,ga,gb⟩:=s8
 try dsimp only
 refine sr<|lE h fun dQ iN h=>ls _ rfl rfl iN<|dn<|qq ?_
 cases dQ
 refine cF<|aW<|ae.x<|ae.x<|aG.x<|ae.n ?_
 obtain rfl:=O (F h)
 exact⟨(ga,gb),Cs _ rfl,wR []⟩
 refine cT<|aE<|ae.n<|qq<|ax<|sr ?_
 obtain⟨⟨nT,nU,Ls,⟨Hg,Hh⟩⟩,mW,h⟩:=bS (V h)
 refine ix rfl rfl mW<|RT.kF (cs:=[_,_,_,_,_]) .none rfl T rfl rfl<|al (cs:=[.v (.int .i64 0),.v (.int .u8 ((0:Nat):Int)),.v (.int .i64 0),.v (.bool false),slc 1 (List.map ah [])]) (by exact⟨SV.aa _,SV.aa _,SV.aa _,SV.aa _,imp_nil,trivial⟩) rfl<|so rfl rfl rfl<|dn<|sr<|fa rfl rfl<|lV rfl rfl rfl<|mv rfl<|lE h fun dR lQ h=>eq _ rfl rfl (MW (p:=nU) (q:=x1) lQ)<|dn ?_
 refine aC h (fun wJ=>AS.bL 31 [(1,.sv (.v (.int .u8 ((x1:Nat):Int)))),(4,.ptr 4 0),(5,.ptr 5 0),(15,.sv (slc 5 (List.map dH aB))),(16,.sv (.v (.int .i64 ek))),(17,.sv (.v (.int .i64 rO)))] [(5,⟨35,[.sv (.v (.bool wJ.1)),.sv (slc 1 (List.map ah wJ.2))]⟩),(4,⟨35,[.sv (.v (.bool false)),.sv (slc 1 (List.map ah []))]⟩)] []) (fun h=>?_) (fun wJ h=>?_)
 cases dR
 exact fs<|⟨(ga,gb),(F h),wR []⟩
 refine cT<|af<|ld rfl rfl (.cons rfl (.cons rfl (.nil)))<|fa rfl rfl<|ld rfl rfl (.cons rfl (.cons rfl (.nil))) ?_
 obtain⟨⟨zM,zN⟩,ru,h⟩:=bS (V h)
 exact cl (fg ru) ⟨rfl,rfl,trivial⟩<|so rfl rfl rfl<|dn<|⟨(zM,zN),h,wR []⟩
 obtain⟨nq,nu⟩:=wJ
 try dsimp only
 refine aG.n<|ae.n<|af<|lE h fun gx kW h=>ad _ rfl rfl kW<|mv rfl<|RT.done ?_
 obtain rfl:=O h
 exact ae.n ⟨(gx,nq,nu),Cr _ rfl,wR []⟩
 subst Cq
 obtain⟨rP,rQ⟩:=oR
 try dsimp only
 refine ae.n<|sr<|ld rfl rfl (.cons rfl (.cons rfl (.nil)))<|so rfl rfl rfl<|dn<|aj ?_
 obtain rfl:=O tN
 exact RZ (.agg rfl rfl (.cons rfl (.cons rfl (.nil))) rfl (.nil))
 refine cT<|sr<|ld rfl rfl (.cons rfl (.cons rfl (.nil)))<|so rfl rfl rfl<|dn<|aj<|ae.r ?_
 obtain rfl:=O (V h)
 exact RZ (.agg rfl rfl (.cons rfl (.cons rfl (.nil))) rfl (.nil))
theorem CZ{x0:Int}{r:Int×(List En)}(h:lJ x0=some r):Ny Tryz.prog 7 [.v (.int .i64 x0)] true [.v (.int .i64 0)] 59 [.s (.v (.int .i64 r.1)),.r (TR 64 5 dH r.2)]:=by
 refine xo (t1:=2) (t2:=3) Tryz.func7 rfl (Nat.le_of_ble_eq_true rfl) rfl (fun c9 M vs hvs=>?_)
 unfold lJ at h
 refine sr<|ag rfl<|ag rfl<|dn<|qq<|qq ?_
 refine aC h (fun j3=>AS.bL 13 [(0,.sv (.v (.int .i64 x0))),(9,.sv (.v (.bool j3)))] [] []) (fun h=>?_) (fun ue h=>?_)
 refine af<|mv rfl<|lE h fun x5 h5 h=>ls _ rfl rfl h5<|mv rfl<|bE h fun zL kG h=>?_
 cases x5
 refine gm rfl<|lE (F kG) fun x8 h8 kG=>gg _ rfl rfl h8 ?_
 obtain rfl:=O kG
 exact pF rfl<|dn<|⟨x8,h,wR []⟩
 obtain rfl:=O (V kG)
 exact ww<|ww<|pT rfl<|dn<|⟨true,h,wR []⟩
 try dsimp only
 refine ae.n ?_
 cases ue
 refine fs<|sr<|mv rfl<|bI (cs:=[_,_]) (cs':=[.v (.int .i64 x0),.v (.slice none 0 0)]) (.one rfl (.nil)) ⟨SV.aa _,SV.aa _,trivial⟩<|bx rfl<|an (s:=.ptr _ _) rfl<|ag rfl<|dn<|bq (Bg 12 1 302 64 5 rfl rfl rfl T)<|aj ?_
 obtain rfl:=O (F h)
 exact⟨.inr rfl,12,[302],rfl,rfl,rfl,⟨rfl,trivial⟩,by decide⟩
 refine cT<|sr<|ag rfl<|ag rfl<|dn<|aj<|ae.r ?_
 replace h:=V h
 cases h
theorem AY{x0:Int}{r:Unit}(h:ko x0=some r):Pure Tryz.prog 7 [.v (.int .i64 x0)] (.w6 [.v (.pointer none),.v (.int .i64 1)]):=by
 refine aq Tryz.func7 rfl (Nat.le_of_ble_eq_true rfl) (fun c9 M vs hvs=>?_)
 unfold ko at h
 refine sr<|ag rfl<|ag rfl<|dn<|qq<|qq ?_
 refine aC h (fun j3=>AS.bL 13 [(0,.sv (.v (.int .i64 x0))),(9,.sv (.v (.bool j3)))] [] []) (fun h=>?_) (fun ue h=>?_)
 refine af<|mv rfl<|lE h fun x5 h5 h=>ls _ rfl rfl h5<|mv rfl<|bE h fun zL kG h=>?_
 cases x5
 refine gm rfl<|lE (F kG) fun x8 h8 kG=>gg _ rfl rfl h8 ?_
 obtain rfl:=O kG
 exact pF rfl<|dn<|⟨x8,h,wR []⟩
 obtain rfl:=O (V kG)
 exact ww<|ww<|pT rfl<|dn<|⟨true,h,wR []⟩
 try dsimp only
 refine ae.n ?_
 cases ue
 refine fs<|sr<|mv rfl<|bI (cs:=[_,_]) (cs':=[.v (.int .i64 x0),slc 5 (List.map dH [])]) (.one rfl (.nil)) ⟨SV.aa _,imp_nil,trivial⟩<|bx rfl<|an (s:=.ptr _ _) rfl<|ag rfl<|dn<|aj ?_
 replace h:=F h
 cases h
 refine cT<|sr<|ag rfl<|ag rfl<|dn<|aj<|ae.r ?_
 obtain rfl:=O (V h)
 exact R2 rfl rfl
theorem um{o0:Int}{o1:List En}{x1:Int}{x2:Nat}{x3:Int}{x4:Qr}{r:Int×(List En)}(h:fy o0 o1 x1 x2 x3 x4=some r):Nu Tryz.prog 9 [.ptr 1000 0,.sv (.v (.int .i64 x1)),.sv (.v (.int .u8 ((x2:Nat):Int))),.sv (.v (.int .i64 x3)),.sv (.agg (eQ x4))] 59 [.s (.v (.int .i64 o0)),.r (TR 64 5 dH o1)] (.v (.int .i64 r.1)) [.s (.v (.int .i64 o0)),.r (TR 64 5 dH r.2)]:=by
 obtain⟨⟨ou,ow⟩,⟨D9,Ea⟩⟩:=x4
 refine zH [1001] Tryz.func9 rfl (Nat.le_of_ble_eq_true rfl) rfl (by decide) rfl (fun c9 M β us=>?_)
 unfold fy at h
 refine sr<|bx rfl<|ag rfl<|dn<|qq<|qq ?_
 refine aC h (fun j3=>AS.bL 54 [(0,.ptr 1000 0),(1,.sv (.v (.int .i64 x1))),(2,.sv (.v (.int .u8 ((x2:Nat):Int)))),(3,.sv (.v (.int .i64 x3))),(9,.ptr 9 0),(20,.sv (.v (.bool j3)))] [(1000,⟨59,[.sv (.v (.int .i64 o0)),.row 1001]⟩),(9,⟨37,[.sv (.v (.bool ou)),.sv (slc 1 (List.map ah ow)),.sv (.v (.bool D9)),.sv (slc 1 (List.map ah Ea))]⟩)] [(1001,TR 64 5 dH o1)]) (fun h=>?_) (fun zm h=>?_)
 refine af<|mv rfl<|lE h fun dA gX h=>ls _ rfl rfl gX<|mv rfl<|bE h fun LR NS h=>?_
 cases dA
 refine gm rfl<|RT.move (.some rfl rfl) (s:=.ptr _ _) rfl T<|RT.dY (.some rfl rfl) rfl T<|RT.fieldAddr (.some rfl rfl) rfl T rfl<|RT.OW (.some rfl rfl) rfl rfl rfl T<|lE (F NS) fun jL mW NS=>RT.geq (.some rfl rfl) _ rfl rfl T mW ?_
 obtain rfl:=O NS
 exact pF rfl<|dn<|⟨jL,h,wR []⟩
 obtain rfl:=O (V NS)
 exact ww<|ww<|ww<|ww<|ww<|ww<|pT rfl<|dn<|⟨true,h,wR []⟩
 try dsimp only
 refine ae.n ?_
 cases zm
 refine fs<|qq<|qq ?_
 refine aC (F h) (fun j6=>AS.bL 54 [(0,.ptr 1000 0),(1,.sv (.v (.int .i64 x1))),(2,.sv (.v (.int .u8 ((x2:Nat):Int)))),(3,.sv (.v (.int .i64 x3))),(9,.ptr 9 0),(26,.sv (.v (.bool j6)))] [(1000,⟨59,[.sv (.v (.int .i64 o0)),.row 1001]⟩),(9,⟨37,[.sv (.v (.bool ou)),.sv (slc 1 (List.map ah ow)),.sv (.v (.bool D9)),.sv (slc 1 (List.map ah Ea))]⟩)] [(1001,TR 64 5 dH o1)]) (fun h=>?_) (fun LN h=>?_)
 refine af<|mv rfl<|lE h fun gR lj h=>ls _ rfl rfl (O1 (p:=x2) (q:=1) lj)<|mv rfl<|bE h fun LQ NT h=>?_
 cases gR
 refine gm rfl<|lE (F NT) fun nH om NT=>gg _ rfl rfl (O1 (p:=4) (q:=x2) om) ?_
 obtain rfl:=O NT
 exact pF rfl<|dn<|⟨nH,h,wR []⟩
 obtain rfl:=O (V NT)
 exact ww<|ww<|pT rfl<|dn<|⟨true,h,wR []⟩
 try dsimp only
 refine ae.n ?_
 cases LN
 refine fs<|qq<|qq ?_
 refine aC (F h) (fun j9=>AS.bL 54 [(0,.ptr 1000 0),(1,.sv (.v (.int .i64 x1))),(2,.sv (.v (.int .u8 ((x2:Nat):Int)))),(3,.sv (.v (.int .i64 x3))),(9,.ptr 9 0),(32,.sv (.v (.bool j9)))] [(1000,⟨59,[.sv (.v (.int .i64 o0)),.row 1001]⟩),(9,⟨37,[.sv (.v (.bool ou)),.sv (slc 1 (List.map ah ow)),.sv (.v (.bool D9)),.sv (slc 1 (List.map ah Ea))]⟩)] [(1001,TR 64 5 dH o1)]) (fun h=>?_) (fun LO h=>?_)
 refine af<|mv rfl<|lE h fun jR ru h=>ls _ rfl rfl ru<|mv rfl<|bE h fun LP oZ h=>?_
 cases jR
 refine gm rfl<|lE (F oZ) fun lU sV oZ=>gg _ rfl rfl sV ?_
 obtain rfl:=O oZ
 exact pF rfl<|dn<|⟨lU,h,wR []⟩
 obtain rfl:=O (V oZ)
 exact ww<|ww<|pT rfl<|dn<|⟨true,h,wR []⟩
 try dsimp only
 refine ae.n ?_
 cases LO
 refine fs<|qq<|sr<|mo (s:=.ptr _ _) rfl<|RT.dY .none rfl T<|fa rfl rfl<|RT.iw .none (s:=.row _) rfl rfl rfl T<|lE (F h) fun qG xR h=>lL rfl rfl xR<|lE h fun oa zw h=>ge _ rfl rfl zw<|dn ?_
 cases oa
 refine fs<|qq<|ai mixed<|mo (s:=.ptr _ _) rfl<|mo (s:=.ptr _ _) rfl<|RT.dY .none rfl T<|fa rfl rfl<|RT.iw .none (s:=.row _) rfl rfl rfl T<|mv rfl<|mv rfl<|mv rfl<|ld rfl rfl (.cons rfl (.cons rfl (.cons rfl (.cons rfl (.nil))))) ?_
 obtain⟨⟨mS,mU⟩,h48,h⟩:=bS (F h)
 refine cl (zW h48) ⟨rfl,trivial⟩ ?_
 refine bI (cs:=[_,_,_,_,_]) (cs':=[.v (.int .i64 x1),.v (.int .u8 ((x2:Nat):Int)),.v (.int .i64 x3),.v (.bool mS),slc 1 (List.map ah mU)]) (.one rfl (.one rfl (.one rfl (.agg rfl (.nil))))) ⟨SV.aa _,SV.aa _,SV.aa _,SV.aa _,SV.aa _,trivial⟩<|bl (l:=[⟨x1,x2,x3,⟨mS,mU⟩⟩]) (e:=dH) (.agg rfl (.nil)) rfl rfl rfl rfl rfl rfl<|bE h fun E6 IE h=>aR (k:=[⟨x1,x2,x3,⟨mS,mU⟩⟩]) (e:=dH) rfl rfl rfl IE<|RT.dY .none rfl T<|fa rfl rfl ?_
 refine RT.n7 (cells:=[_,_]) .none rfl rfl rfl rfl T rfl ?_
 refine RT.done ⟨by kernel_rfl,?_⟩
 refine ae.n<|sr<|ag rfl<|dn<|aj ?_
 obtain rfl:=O h
 exact⟨.inr rfl,cg (.tmp rfl (.nil)) (SV.aa _),[51],rfl,⟨rfl,trivial⟩,by decide⟩
 refine cT<|sr<|ag rfl<|dn<|aj<|ae.r ?_
 obtain rfl:=O (V h)
 exact⟨.inr rfl,cg (.tmp rfl (.nil)) (SV.aa _),[1001],rfl,⟨rfl,trivial⟩,by decide⟩
 refine cT<|sr<|ag rfl<|dn<|aj<|ae.r ?_
 obtain rfl:=O (V h)
 exact⟨.inr rfl,cg (.tmp rfl (.nil)) (SV.aa _),[1001],rfl,⟨rfl,trivial⟩,by decide⟩
 refine cT<|sr<|ag rfl<|dn<|aj<|ae.r ?_
 obtain rfl:=O (V h)
 exact⟨.inr rfl,cg (.tmp rfl (.nil)) (SV.aa _),[1001],rfl,⟨rfl,trivial⟩,by decide⟩
 refine cT<|sr<|ag rfl<|dn<|aj<|ae.r ?_
 obtain rfl:=O (V h)
 exact⟨.inr rfl,cg (.tmp rfl (.nil)) (SV.aa _),[1001],rfl,⟨rfl,trivial⟩,by decide⟩
theorem AZ{x0:Bk}{x1:Int}{r:Zr}(h:kp x0 x1=some r):Pure Tryz.prog 27 [ref (Iv x0),.v (.int .i64 x1)] (.agg (eZ r)):=by
 obtain⟨aD,aB⟩:=x0
 refine aq Tryz.func27 rfl (Nat.le_of_ble_eq_true rfl) (fun c9 M vs hvs=>?_)
 unfold kp at h
 refine sr<|al (cs:=[.v (.bool false),slc 1 (List.map ah [])]) (by exact⟨SV.aa _,imp_nil,trivial⟩) rfl<|dn<|sr<|bI (cs:=[_,_]) (cs':=[.v (.bool false),slc 1 (List.map ah [])]) (.nil) ⟨SV.aa _,imp_nil,trivial⟩<|al (cs:=[.v (.bool false),slc 1 (List.map ah [])]) (by exact⟨SV.aa _,imp_nil,trivial⟩) rfl<|so rfl rfl rfl<|dn<|qq<|sr<|ag rfl<|dn<|bE h fun DV tJ oh=>?_
 refine aP (fun(I2:Bool×(List Nat))=>AS.bL 50 [(4,.ptr 4 0),(5,.ptr 5 0)] [(5,⟨35,[.sv (.v (.bool I2.1)),.sv (slc 1 (List.map ah I2.2))]⟩),(4,⟨35,[.sv (.v (.bool false)),.sv (slc 1 (List.map ah []))]⟩)] []) (fun I2=>I2=DV) ?_ (fun I2 tK=>?_)
 refine ax ?_
 refine aQ tJ (fun oG=>AS.bL 50 [(0,.sv (ref [.v (.int .i64 aD),slc 5 (List.map dH aB)])),(1,.sv (.v (.int .i64 x1))),(4,.ptr 4 0),(5,.ptr 5 0),(6,.sv (.v (.int .i64 oG.1)))] [(5,⟨35,[.sv (.v (.bool oG.2.1)),.sv (slc 1 (List.map ah oG.2.2))]⟩),(4,⟨35,[.sv (.v (.bool false)),.sv (slc 1 (List.map ah []))]⟩)] []) (wR []) (fun oG RN RO h tL sH=>?_)
 obtain⟨wL,wN,wO⟩:=oG
 try dsimp only
 refine qq<|sr<|mv rfl<|mv rfl<|RT.cH .none rfl T<|RT.aH .none rfl T rfl<|lr rfl rfl<|lE h fun fE jy h=>ln rfl jy<|lE h fun gp kU h=>ls _ rfl rfl kU<|dn ?_
 cases gp
 refine cF<|aW<|ae.x<|ae.x<|aG.x<|ae.n ?_
 obtain rfl:=O (F h)
 exact⟨(wN,wO),sH _ rfl,wR []⟩
 refine cT<|aE<|ae.n<|qq<|ax<|qq<|sr<|mv rfl<|RT.cH .none rfl T<|RT.aH .none rfl T rfl<|lr rfl rfl<|mv rfl ?_
 obtain⟨⟨nW,nX,qB,⟨sX,zY⟩⟩,lj,h⟩:=bS (V h)
 refine ix rfl rfl lj<|RT.aH .none rfl T rfl<|lr rfl rfl<|mv rfl<|lE h fun gu mD h=>eq _ rfl rfl (oN (p:=nW) (q:=x1) mD)<|dn ?_
 refine aC h (fun Uv=>AS.bL 50 [(0,.sv (ref [.v (.int .i64 aD),slc 5 (List.map dH aB)])),(1,.sv (.v (.int .i64 x1))),(4,.ptr 4 0),(5,.ptr 5 0),(6,.sv (.v (.int .i64 wL)))] [(5,⟨35,[.sv (.v (.bool Uv.1)),.sv (slc 1 (List.map ah Uv.2))]⟩),(4,⟨35,[.sv (.v (.bool false)),.sv (slc 1 (List.map ah []))]⟩)] []) (fun h=>?_) (fun Uv h=>?_)
 cases gu
 exact fs<|⟨(wN,wO),(F h),wR []⟩
 refine cT<|ai mixed<|ld rfl rfl (.cons rfl (.cons rfl (.nil)))<|mv rfl<|RT.cH .none rfl T<|RT.aH .none rfl T rfl<|lr rfl rfl<|mv rfl ?_
 obtain⟨⟨nY,nZ,LS,⟨Et,Eu⟩⟩,mu,h⟩:=bS (V h)
 refine ix rfl rfl mu<|RT.aH .none rfl T rfl<|RT.kF (cs:=[_,_]) .none rfl T rfl rfl ?_
 obtain⟨⟨jS,jb⟩,qI,h⟩:=bS h
 refine cl (ke qI) ⟨rfl,rfl,trivial⟩<|so rfl rfl rfl ?_
 refine RT.done ⟨by kernel_rfl,?_⟩
 exact ae.n<|⟨(jS,jb),h,wR []⟩
 obtain⟨yn,yo⟩:=Uv
 try dsimp only
 refine ae.n<|sr<|mv rfl<|lE h fun oa zw h=>eq _ rfl rfl (oN (p:=x1) (q:=0) zw)<|dn ?_
 refine aC h (fun Pd=>AS.bL 50 [(0,.sv (ref [.v (.int .i64 aD),slc 5 (List.map dH aB)])),(1,.sv (.v (.int .i64 x1))),(4,.ptr 4 0),(5,.ptr 5 0),(6,.sv (.v (.int .i64 wL)))] [(5,⟨35,[.sv (.v (.bool Pd.1)),.sv (slc 1 (List.map ah Pd.2))]⟩),(4,⟨35,[.sv (.v (.bool false)),.sv (slc 1 (List.map ah []))]⟩)] []) (fun h=>?_) (fun Pd h=>?_)
 cases oa
 exact fs<|⟨(yn,yo),(F h),wR []⟩
 refine cT<|ai mixed<|ld rfl rfl (.cons rfl (.cons rfl (.nil)))<|mv rfl<|RT.cH .none rfl T<|RT.aH .none rfl T rfl<|lr rfl rfl<|mv rfl ?_
 obtain⟨⟨Ht,Hu,Hv,⟨El,Qh⟩⟩,FK,h⟩:=bS (V h)
 refine ix rfl rfl FK<|RT.aH .none rfl T rfl<|RT.kF (cs:=[_,_]) .none rfl T rfl rfl ?_
 obtain⟨⟨mS,mU⟩,h48,h⟩:=bS h
 refine cl (CM h48) ⟨rfl,rfl,trivial⟩<|so rfl rfl rfl ?_
 refine RT.done ⟨by kernel_rfl,?_⟩
 exact ae.n<|⟨(mS,mU),h,wR []⟩
 obtain⟨CW,CX⟩:=Pd
 try dsimp only
 refine aG.n<|ae.n<|af<|mv rfl<|lE h fun ek jz h=>ad _ rfl rfl jz<|ag rfl<|RT.done ?_
 obtain rfl:=O h
 exact ae.n ⟨(ek,CW,CX),tL _ rfl,wR []⟩
 subst tK
 obtain⟨LU,LV⟩:=I2
 try dsimp only
 refine ae.n<|sr<|ld rfl rfl (.cons rfl (.cons rfl (.nil)))<|so rfl rfl rfl<|dn<|aj ?_
 obtain rfl:=O oh
 exact RZ (.agg rfl rfl (.cons rfl (.cons rfl (.nil))) rfl (.nil))
theorem C0{x0:Bk}{x1:Nat}{r:Zr}(h:lK x0 x1=some r):Pure Tryz.prog 28 [ref (Iv x0),.v (.int .u8 ((x1:Nat):Int))] (.agg (eZ r)):=by
 obtain⟨aD,aB⟩:=x0
 refine aq Tryz.func28 rfl (Nat.le_of_ble_eq_true rfl) (fun c9 M vs hvs=>?_)
 unfold lK at h
 refine sr<|al (cs:=[.v (.bool false),slc 1 (List.map ah [])]) (by exact⟨SV.aa _,imp_nil,trivial⟩) rfl<|dn<|sr<|bI (cs:=[_,_]) (cs':=[.v (.bool false),slc 1 (List.map ah [])]) (.nil) ⟨SV.aa _,imp_nil,trivial⟩<|al (cs:=[.v (.bool false),slc 1 (List.map ah [])]) (by exact⟨SV.aa _,imp_nil,trivial⟩) rfl<|so rfl rfl rfl<|dn<|qq<|sr<|ag rfl<|dn<|bE h fun e8 Cp tN=>?_
 refine aP (fun(oR:Bool×(List Nat))=>AS.bL 38 [(4,.ptr 4 0),(5,.ptr 5 0)] [(5,⟨35,[.sv (.v (.bool oR.1)),.sv (slc 1 (List.map ah oR.2))]⟩),(4,⟨35,[.sv (.v (.bool false)),.sv (slc 1 (List.map ah []))]⟩)] []) (fun oR=>oR=e8) ?_ (fun oR Cq=>?_)
 refine ax ?_
 refine aQ Cp (fun s8=>AS.bL 38 [(0,.sv (ref [.v (.int .i64 aD),slc 5 (List.map dH aB)])),(1,.sv (.v (.int .u8 ((x1:Nat):Int)))),(4,.ptr 4 0),(5,.ptr 5 0),(6,.sv (.v (.int .i64 s8.1)))] [(5,⟨35,[.sv (.v (.bool s8.2.1)),.sv (slc 1 (List.map ah s8.2.2))]⟩),(4,⟨35,[.sv (.v (.bool false)),.sv (slc 1 (List.map ah []))]⟩)] []) (wR []) (fun s8 y8 G8 h Cr Cs=>?_)
 obtain⟨tD,ga,gb⟩:=s8
 try dsimp only
 refine qq<|sr<|mv rfl<|mv rfl<|RT.cH .none rfl T<|RT.aH .none rfl T rfl<|lr rfl rfl<|lE h fun fE jy h=>ln rfl jy<|lE h fun gp kU h=>ls _ rfl rfl kU<|dn ?_
 cases gp
 refine cF<|aW<|ae.x<|ae.x<|aG.x<|ae.n ?_
 obtain rfl:=O (F h)
 exact⟨(ga,gb),Cs _ rfl,wR []⟩
 refine cT<|aE<|ae.n<|qq<|ax<|sr<|mv rfl<|RT.cH .none rfl T<|RT.aH .none rfl T rfl<|lr rfl rfl<|mv rfl ?_
 obtain⟨⟨nW,nX,qB,⟨sX,zY⟩⟩,lj,h⟩:=bS (V h)
 refine ix rfl rfl lj<|RT.aH .none rfl T rfl<|lr rfl rfl<|mv rfl<|lE h fun gu mD h=>eq _ rfl rfl (MW (p:=nX) (q:=x1) mD)<|dn ?_
 refine aC h (fun wJ=>AS.bL 38 [(0,.sv (ref [.v (.int .i64 aD),slc 5 (List.map dH aB)])),(1,.sv (.v (.int .u8 ((x1:Nat):Int)))),(4,.ptr 4 0),(5,.ptr 5 0),(6,.sv (.v (.int .i64 tD)))] [(5,⟨35,[.sv (.v (.bool wJ.1)),.sv (slc 1 (List.map ah wJ.2))]⟩),(4,⟨35,[.sv (.v (.bool false)),.sv (slc 1 (List.map ah []))]⟩)] []) (fun h=>?_) (fun wJ h=>?_)
 cases gu
 exact fs<|⟨(ga,gb),(F h),wR []⟩
 refine cT<|ai mixed<|ld rfl rfl (.cons rfl (.cons rfl (.nil)))<|mv rfl<|RT.cH .none rfl T<|RT.aH .none rfl T rfl<|lr rfl rfl<|mv rfl ?_
 obtain⟨⟨nY,nZ,LS,⟨Et,Eu⟩⟩,mu,h⟩:=bS (V h)
 refine ix rfl rfl mu<|RT.aH .none rfl T rfl<|RT.kF (cs:=[_,_]) .none rfl T rfl rfl ?_
 obtain⟨⟨jS,jb⟩,qI,h⟩:=bS h
 refine cl (ke qI) ⟨rfl,rfl,trivial⟩<|so rfl rfl rfl ?_
 refine RT.done ⟨by kernel_rfl,?_⟩
 exact ae.n<|⟨(jS,jb),h,wR []⟩
 obtain⟨nq,nu⟩:=wJ
 try dsimp only
 refine aG.n<|ae.n<|af<|mv rfl<|lE h fun ek jz h=>ad _ rfl rfl jz<|ag rfl<|RT.done ?_
 obtain rfl:=O h
 exact ae.n ⟨(ek,nq,nu),Cr _ rfl,wR []⟩
 subst Cq
 obtain⟨rP,rQ⟩:=oR
 try dsimp only
 refine ae.n<|sr<|ld rfl rfl (.cons rfl (.cons rfl (.nil)))<|so rfl rfl rfl<|dn<|aj ?_
 obtain rfl:=O tN
 exact RZ (.agg rfl rfl (.cons rfl (.cons rfl (.nil))) rfl (.nil))
theorem sZ{x0:Bk}{x1:Bk}{r:Bool}(h:gN x0 x1=some r):Pure Tryz.prog 10 [ref (Iv x0),ref (Iv x1)] (.v (.bool r)):=by
 obtain⟨aD,aB⟩:=x0
 obtain⟨bt,bn⟩:=x1
 refine aq Tryz.func10 rfl (Nat.le_of_ble_eq_true rfl) (fun c9 M vs hvs=>?_)
 unfold gN at h
 refine sr<|ag rfl<|dn<|qq<|qq<|ai mixed<|mv rfl<|bE h fun fV iV h=>cl (wP iV) ⟨rfl,trivial⟩<|bE h fun dA gX h=>cl (AX gX) ⟨rfl,trivial⟩<|mv rfl<|RT.cH .none rfl T<|RT.aH .none rfl T rfl<|lr rfl rfl<|bE h fun dI iW h=>cl (AU iW) ⟨rfl,rfl,trivial⟩<|lE h fun dQ iN h=>nt rfl _ iN ?_
 refine RT.done ⟨by kernel_rfl,?_⟩
 refine ae.n ?_
 cases dQ
 refine fs<|sr<|mv rfl<|bE (F h) fun gQ kE h=>cl (vC kE) ⟨rfl,trivial⟩<|ag rfl<|dn<|qq<|sr<|mv rfl<|lE h fun gR lj h=>ln rfl lj<|mv rfl<|RT.cH .none rfl T<|RT.aH .none rfl T rfl<|lr rfl rfl<|lE h fun jr nI h=>ne _ rfl rfl (It (p:=gR) (q:=bt) nI)<|dn ?_
 cases jr
 refine fs<|qq<|sr<|ag rfl<|dn<|bE (F h) fun Ll CI vr=>?_
 refine aP (fun(Gf:Unit)=>AS.bL 75 [(0,.sv (ref [.v (.int .i64 aD),slc 5 (List.map dH aB)])),(1,.sv (ref [.v (.int .i64 bt),slc 5 (List.map dH bn)]))] [] []) (fun Gf=>.inl Gf=Ll) ?_ (fun Gf zS=>?_)
 refine ax ?_
 refine aQ CI (fun zO=>AS.bL 75 [(0,.sv (ref [.v (.int .i64 aD),slc 5 (List.map dH aB)])),(1,.sv (ref [.v (.int .i64 bt),slc 5 (List.map dH bn)])),(5,.sv (slc 2 (List.map eZ gQ))),(6,.sv (.v (.int .i64 zO)))] [] []) (wR []) (fun oV y16 G16 h Gc AQ=>?_)
 try dsimp only
 refine qq<|sr<|mv rfl<|mv rfl<|RT.cH .none rfl T<|RT.aH .none rfl T rfl<|lr rfl rfl<|lE h fun iZ mu h=>ls _ rfl rfl mu<|dn ?_
 cases iZ
 refine cF<|aW<|ae.x<|ae.x<|aG.x<|ae.n ?_
 obtain rfl:=O (F h)
 exact⟨(),AQ _ rfl,wR []⟩
 refine cT<|aE<|ae.n<|qq<|ax<|sr<|mv rfl<|mv rfl ?_
 obtain⟨⟨⟨Gj,Gk⟩,To⟩,Ct,h⟩:=bS (V h)
 refine cl (vD Ct) ⟨rfl,rfl,trivial⟩<|mv rfl<|ex rfl rfl<|ex rfl rfl<|al (cs:=[.v (.bool false),slc 1 (List.map ah [])]) (by exact⟨SV.aa _,imp_nil,trivial⟩) rfl<|so rfl rfl rfl<|ag rfl<|dn<|qq ?_
 refine aC h (fun Wo=>AS.bL 75 [(0,.sv (ref [.v (.int .i64 aD),slc 5 (List.map dH aB)])),(1,.sv (ref [.v (.int .i64 bt),slc 5 (List.map dH bn)])),(5,.sv (slc 2 (List.map eZ gQ))),(6,.sv (.v (.int .i64 oV))),(60,.sv (.v (.bool Wo)))] [] []) (fun h=>?_) (fun Gl h=>?_)
 refine ai mixed<|mv rfl<|lE h fun xN GX h=>ne _ rfl rfl (It (p:=To) (q:=0) GX)<|mv rfl<|bE h fun LW uh h=>?_
 cases xN
 refine gl rfl rfl (.cons rfl (.cons rfl (.nil)))<|gm rfl<|gm rfl ?_
 obtain⟨⟨mS,mU⟩,h48,uh⟩:=bS (F uh)
 refine gc (AZ h48) ⟨rfl,rfl,trivial⟩<|bE uh fun Vn Nh uh=>gc (jg Nh) ⟨rfl,rfl,trivial⟩<|lE uh fun tB Co uh=>gt_ rfl _ Co ?_
 obtain rfl:=O uh
 refine pF rfl<|mv rfl<|bE h fun afF wM h=>?_
 cases tB
 refine gm rfl<|gm rfl ?_
 obtain⟨⟨HH,Ev⟩,R8,wM⟩:=bS (F wM)
 refine RT.Iy (.some rfl rfl) rfl rfl T R8<|RT.kF (cs:=[_,_]) (.some rfl rfl) rfl T rfl rfl<|gl rfl rfl (.cons rfl (.cons rfl (.nil)))<|bE wM fun Nc VN wM=>gc (jg VN) ⟨rfl,rfl,trivial⟩<|lE wM fun J4 VL wM=>gt_ rfl _ VL ?_
 obtain rfl:=O wM
 refine pF rfl ?_
 refine RT.done ⟨by kernel_rfl,?_⟩
 exact ae.n<|⟨J4,h,wR []⟩
 obtain rfl:=O (V wM)
 refine ww<|ww<|ww<|ww<|ww<|ww<|ww<|pT rfl ?_
 refine RT.done ⟨by kernel_rfl,?_⟩
 exact ae.n<|⟨true,h,wR []⟩
 obtain rfl:=O (V uh)
 refine ww<|ww<|ww<|ww<|ww<|ww<|pT rfl<|mv rfl<|bE h fun afG S0 h=>?_
 obtain rfl:=O (V S0)
 refine ww<|ww<|ww<|ww<|ww<|ww<|ww<|pT rfl ?_
 refine RT.done ⟨by kernel_rfl,?_⟩
 exact ae.n<|⟨true,h,wR []⟩
 try dsimp only
 refine ae.n ?_
 cases Gl
 refine cF<|aE<|aG.n<|ae.n<|af<|mv rfl<|lE (F h) fun pH AH h=>ad _ rfl rfl AH<|ag rfl<|RT.done ?_
 obtain rfl:=O h
 exact ae.n ⟨pH,Gc _ rfl,wR []⟩
 refine cT<|sr<|ag rfl<|dn<|aj<|aG.r<|ae.r ?_
 obtain rfl:=O (V h)
 have Lx:=AQ _ rfl
 subst Lx
 refine ae.r<|aG.r<|ae.r<|ae.r ?_
 obtain rfl:=O vr
 exact R1 rfl
 subst zS
 try dsimp only
 refine ae.n<|qq<|sr<|ag rfl<|dn<|bE vr fun e32 afH Zh=>?_
 refine aP (fun(Tq:Unit)=>AS.bL 75 [] [] []) (fun Tq=>.inl Tq=e32) ?_ (fun Tq afI=>?_)
 refine ax ?_
 refine aQ afH (fun s32=>AS.bL 75 [(0,.sv (ref [.v (.int .i64 aD),slc 5 (List.map dH aB)])),(1,.sv (ref [.v (.int .i64 bt),slc 5 (List.map dH bn)])),(9,.sv (.v (.int .i64 s32)))] [] []) (wR []) (fun Ew y32 G32 h afJ Zi=>?_)
 try dsimp only
 refine qq<|sr<|mv rfl<|lE h fun x62 VQ h=>ls _ rfl rfl VQ<|dn ?_
 cases x62
 refine cF<|aW<|ae.x<|ae.x<|aG.x<|ae.n ?_
 obtain rfl:=O (F h)
 exact⟨(),Zi _ rfl,wR []⟩
 refine cT<|aE<|ae.n<|qq<|ax<|sr<|mv rfl<|mv rfl<|lE (V h) fun O7 h67 h=>cv _ rfl (UK.conv h67) ?_
 obtain⟨⟨Qi,Qj⟩,Ni,h⟩:=bS h
 refine cl (Ey Ni) ⟨rfl,rfl,trivial⟩<|mv rfl<|mv rfl<|lE h fun Wj h71 h=>cv _ rfl (UK.conv h71) ?_
 obtain⟨⟨Ex,HI⟩,Sa,h⟩:=bS h
 refine cl (C0 Sa) ⟨rfl,rfl,trivial⟩<|bE h fun Wk h73 h=>cl (jg h73) ⟨rfl,rfl,trivial⟩<|lE h fun Nd VR h=>nt rfl _ VR<|dn ?_
 cases Nd
 refine cF<|aE<|aG.n<|ae.n<|af<|mv rfl<|lE (F h) fun Tg h64 h=>ad _ rfl rfl h64<|ag rfl<|RT.done ?_
 obtain rfl:=O h
 exact ae.n ⟨Tg,afJ _ rfl,wR []⟩
 refine cT<|sr<|ag rfl<|dn<|aj<|aG.r<|ae.r ?_
 obtain rfl:=O (V h)
 have afK:=Zi _ rfl
 subst afK
 refine ae.r<|aG.r<|ae.r<|ae.r ?_
 obtain rfl:=O Zh
 exact R1 rfl
 subst afI
 try dsimp only
 refine ae.n<|sr<|ag rfl<|dn<|aj ?_
 obtain rfl:=O Zh
 exact R1 rfl
 refine cT<|sr<|ag rfl<|dn<|aj<|ae.r ?_
 obtain rfl:=O (V h)
 exact R1 rfl
 refine cT<|sr<|ag rfl<|dn<|aj<|ae.r ?_
 obtain rfl:=O (V h)
 exact R1 rfl
end Go.Proofs.YtmiflmkdaeianaaGreat
namespace Go.Proofs.YtmiflmkdaeianaaGreat
open Go.Fw Go.Fw.Z Go.RowKit
theorem wQ{x0:Bk}(N:Nat){r:List En}(h:dy x0=some r):m7 Tryz.prog 12 N [ref (Iv x0)] (nw N (slc 5 (List.map (Kq N) r))):=by
 obtain⟨aD,aB⟩:=x0
 refine fj Tryz.func12 rfl (Nat.le_of_ble_eq_true rfl) (fun c9 M vs hN hvs=>?_)
 unfold dy at h
 refine sr<|aI rfl (eL (N:=N) (n:=5) (e:=(Kq N)))<|dn<|qq<|sr<|mv rfl<|bE h fun x7 h7 h=>cl (iG h7) ⟨rfl,trivial⟩<|dn ?_
 cases x7
 refine fs<|sr<|mv rfl<|RT.cH .none rfl T<|RT.aH .none rfl T rfl<|lr rfl rfl<|lE (F h) fun dA gX h=>ln rfl gX<|bE h fun fE jy h=>RT.uU (n:=5) (e:=(Kq N)) .none rfl rfl T rfl T (by rfl) (by decide) (by exact⟨SV.aa _,SV.aa _,SV.aa _,SV.aa _,eL,trivial⟩) jy<|an (s:=.row _) rfl<|dn<|qq<|sr<|mv rfl<|RT.cH .none rfl T<|RT.aH .none rfl T rfl<|lr rfl rfl ?_
 refine lE h fun dQ iN h=>ln rfl iN<|mv rfl<|dn<|bE h fun e8 Cp tN=>?_
 refine aP (fun(jd:(List En))=>AS.bL 35 [(3,.row 13)] [] [(13,TR 61 5 (Kq N) jd)]) (fun jd=>jd=e8) ?_ (fun jd Cq=>?_)
 refine ax ?_
 refine aQ Cp (fun s8=>AS.bL 35 [(3,.row 13),(17,.sv (slc 5 (List.map dH aB))),(18,.sv (.v (.int .i64 dQ))),(19,.sv (.v (.int .i64 s8.1)))] [] [(13,TR 61 5 (Kq N) s8.2)]) (wR []) (fun s8 y8 G8 h Cr Cs=>?_)
 obtain⟨qC,oU⟩:=s8
 try dsimp only
 refine sr<|lE h fun gQ kE h=>ls _ rfl rfl kE<|dn<|qq ?_
 cases gQ
 refine cF<|aW<|ae.x<|ae.x<|aG.x<|ae.n ?_
 obtain rfl:=O (F h)
 exact⟨oU,Cs _ rfl,wR []⟩
 refine cT<|aE<|ae.n<|qq<|ax<|sr<|mv rfl ?_
 obtain⟨⟨nW,nX,qB,⟨sX,zY⟩⟩,lj,h⟩:=bS (V h)
 refine ix rfl rfl lj<|RT.kF (cs:=[_,_,_,_,_]) .none rfl T rfl rfl<|al (cs:=[.v (.int .i64 0),.v (.int .u8 ((0:Nat):Int)),.v (.int .i64 0),.v (.bool false),nw N (slc 1 (List.map ah []))]) (by exact⟨SV.aa _,SV.aa _,SV.aa _,SV.aa _,eL,trivial⟩) rfl<|ag rfl<|so rfl rfl rfl<|dn<|sr<|fa rfl rfl<|ld rfl rfl (.cons rfl (.cons rfl (.nil)))<|bI (cs:=[_,_]) (cs':=[.v (.bool false),nw N (slc 1 (List.map ah []))]) (.nil) ⟨SV.aa _,eL,trivial⟩ ?_
 obtain⟨⟨nO,mQ⟩,nI,h⟩:=bS h
 refine RT.m8 .none ((Cx N nI).w (args':=[_,_]) ⟨(SV.aa _),(SV.MM (show cn [.v (.bool false),nw N (slc 1 (List.map ah []))] _ from⟨(SV.aa _),FM,trivial⟩)),trivial⟩) hN rfl ⟨rfl,rfl,trivial⟩ T<|fa rfl rfl<|RT.B3 (cells:=[_,_,_,_,_]) .none rfl rfl rfl rfl T rfl<|dn<|af<|mo (s:=.row _) rfl<|mv rfl<|ld rfl rfl (.cons rfl (.cons rfl (.cons rfl (.cons rfl (.cons rfl (.nil))))))<|bE h fun iu lY h=>iR rfl rfl rfl lY<|bE h fun E7 zy h=>?_
 refine sA ⟨nW,nX,qB,⟨nO,mQ⟩⟩ rfl rfl rfl zy<|RT.done<|aG.n<|ae.n<|af<|lE h fun iZ mu h=>ad _ rfl rfl mu<|mv rfl<|RT.done ?_
 obtain rfl:=O h
 exact ae.n ⟨(iZ,E7),Cr _ rfl,wR []⟩
 subst Cq
 try dsimp only
 refine ae.n<|sr<|mo (s:=.row _) rfl<|an (s:=.row _) rfl<|dn<|G0 (i:=13) (E1:=61) (n:=5) (e:=(Kq N)) (l:=jd) hN (fun _ h=>h) rfl<|aj ?_
 obtain rfl:=O tN
 exact R1 rfl
 refine cT<|sr<|aI rfl (eL (N:=N) (n:=5) (e:=(Kq N)))<|dn<|aj<|ae.r ?_
 obtain rfl:=O (V h)
 exact R1 rfl
theorem zZ(l:List En):Gi Tryz.prog 11 (fun N=>slc 5 (l.map (Kq N))):=by
 refine Ep (e:=Kq) Tryz.func11 rfl (Nat.le_of_ble_eq_true rfl) rfl (fun _ _=>rfl) (fun N D M0 v hsz hV=>?_)
 obtain⟨hn,⟨a,c,rfl,ha,aiS⟩,hrow⟩:=hV
 have NU:∀i k x,i<D.n→k<D.sz→D.Mx D.b0 (D.o0+i*D.sz+k)=some (.int .u32 x)→False:=by
  intro i k x hi hk e
  obtain⟨-,q⟩:=hrow i _ (List.getElem?_eq_getElem (by omega))
  have hk4:k=0∨k=1∨k=2∨k=3∨k=4:=by omega
  rcases hk4 with rfl|rfl|rfl|rfl|rfl
  ·obtain⟨y,q1,_,q2⟩:=q 0 _ rfl
   have q2:y=_:=q2
   rw[e]at q1;cases q1;cases q2
  ·obtain⟨y,q1,_,q2⟩:=q 1 _ rfl
   have q2:y=_:=q2
   rw[e]at q1;cases q1;cases q2
  ·obtain⟨y,q1,_,q2⟩:=q 2 _ rfl
   have q2:y=_:=q2
   rw[e]at q1;cases q1;cases q2
  ·obtain⟨y,q1,_,q2⟩:=q 3 _ rfl
   have q2:y=_:=q2
   rw[e]at q1;cases q1;cases q2
  ·obtain⟨y,q1,_,q2⟩:=q 4 _ rfl
   obtain⟨_,_,q2,_⟩:=Er q2
   rw[e]at q1;cases q1;cases q2
 refine bA<|af<|RT.B7 .none rfl (tl rfl)<|RT.done<|ae.n<|ax ?_
 refine xZ (ι:={i:Nat//i≤l.length}) (fun i=>AS.bL 33 [(0,.sv (.v (.slice a l.length c))),(2,.sv (.v (.int .i64 (i.1:Int))))] [] [] i.1) (fun i=>l.length-i.1) ⟨0,Nat.zero_le _⟩ (wR []) ?_
 rintro⟨i,hi⟩
 dsimp only
 by_cases hlt:i<l.length
 ·have hne:l≠[]:=by rintro rfl;simp at hlt
  obtain rfl:=ha hne
  obtain⟨hq,hc⟩:=hrow i _ (List.getElem?_eq_getElem hlt)
  obtain⟨y4,m4,_,z4⟩:=hc 4 _ rfl
  obtain⟨a4,c4,rfl,l4,w4⟩:=Er z4
  refine bA<|bA<|af<|RT.mv .none rfl (tl rfl)<|RT.mv .none rfl (tl rfl)<|RT.NQ .none rfl (tl rfl)<|RT.lss .none true rfl rfl (tl rfl) (decide_eq_true (by omega))<|RT.done<|ae.n<|fT rfl<|aE<|ae.n ?_
  refine bA<|ax<|bA<|bA<|af<|RT.B7 .none rfl (tl rfl)<|RT.done<|ae.n<|ax ?_
  refine xZ (ι:={k:Nat//k≤l[i].cW.w.length}) (fun k=>AS.bL 33 [(0,.sv (.v (.slice (some ⟨D.b0,D.o0,none⟩) l.length c))),(2,.sv (.v (.int .i64 (i:Int)))),(3,.sv (.v (.int .i64 (k.1:Int))))] [] [] i) (fun k=>l[i].cW.w.length-k.1) ⟨0,Nat.zero_le _⟩ (wR []) ?_
  rintro⟨k,hk⟩
  dsimp only
  by_cases xh:k<l[i].cW.w.length
  ·obtain⟨b1,o1,rfl,hm1,hw1⟩:=w4 (by intro e;rw[e]at xh;simp at xh)
   obtain⟨x1,hx1⟩:=hw1 k xh
   refine bA<|bA<|af<|RT.mv .none rfl (tl rfl)<|RT.mv .none rfl (tl rfl)<|RT.mv .none rfl (tl rfl)<|RT.Ze .none rfl rfl (tl rfl) hlt<|RT.Uu .none rfl (tl rfl)<|RT.Uu .none rfl (tl rfl)<|RT.Tm (i:=i) (k:=4) .none rfl (tl rfl) (by rw[hsz]) (Nat.le_refl _) (by omega) (by omega) m4<|RT.NQ .none rfl (tl rfl)<|RT.lss .none true rfl rfl (tl rfl) (decide_eq_true (by omega))<|RT.done<|ae.n<|fT rfl<|aE<|ae.n ?_
   refine bA<|ax<|af<|RT.mv .none rfl (tl rfl)<|RT.mv .none rfl (tl rfl)<|RT.Ze .none rfl rfl (tl rfl) hlt<|RT.Uu .none rfl (tl rfl)<|RT.Uu .none rfl (tl rfl)<|RT.Tm (i:=i) (k:=4) .none rfl (tl rfl) (by rw[hsz]) (Nat.le_refl _) (by omega) (by omega) m4<|RT.mv .none rfl (tl rfl)<|RT.Ze .none rfl rfl (tl rfl) xh<|RT.Zf .none [.int .u32 77] i rfl (fun _ _ _ _=>rfl) (by simp[Value.oneCell']) (fun w=>cK.size w) hm1 (fun j hj=>?_) (Nat.le_refl _) (fun i2 k2 h1 h2 h3 h4=>?_)<|RT.done<|aG.n<|ae.n ?_
   ·obtain rfl:j=0:=by simpa using hj
    exact⟨_,by have q:=(D.hin _ _ _ hx1).cell rfl;simpa using q⟩
   ·by_cases hq:D.o0+i2*D.sz+k2=o1+k
    ·exact(NU i2 k2 x1 h2 h3 (by rw[hq,←h4];exact hx1)).elim
    ·simp only[List.length_cons,List.length_nil];omega
   ·exact af<|RT.mv .none rfl (tl rfl)<|RT.add .none _ rfl rfl (tl rfl) (n9 (by omega))<|RT.B7 .none rfl (tl rfl)<|RT.done<|ae.n ⟨⟨k+1,xh⟩,by dsimp only;omega,wR []⟩
  ·refine bA<|bA<|af<|RT.mv .none rfl (tl rfl)<|RT.mv .none rfl (tl rfl)<|RT.mv .none rfl (tl rfl)<|RT.Ze .none rfl rfl (tl rfl) hlt<|RT.Uu .none rfl (tl rfl)<|RT.Uu .none rfl (tl rfl)<|RT.Tm (i:=i) (k:=4) .none rfl (tl rfl) (by rw[hsz]) (Nat.le_refl _) (by omega) (by omega) m4<|RT.NQ .none rfl (tl rfl)<|RT.lss .none false rfl rfl (tl rfl) (decide_eq_false (by omega))<|RT.done<|ae.n<|ja rfl<|aW<|ae.x<|ae.x<|aG.x<|ae.n ?_
   refine af<|RT.mv .none rfl (tl rfl)<|RT.mv .none rfl (tl rfl)<|RT.build .none .nil rfl (tl rfl)<|RT.Ze .none rfl rfl (tl rfl) hlt<|RT.Zf .none [.int .i64 0,.int .u8 0,.int .i64 0,.bool false,.slice none 0 0] (i+1) rfl (fun E a w h=>I1 (us:=[.int .i64 0,.int .u8 0,.int .i64 0,.bool false,.slice none 0 0]) (h.ev (.tmp 31))) (by simp[Value.oneCell']) (fun w=>gU.size w) (D.hb (by omega)) (fun j hj=>?_) (Nat.le_succ _) (fun i2 k2 h1 h2 h3 h4=>?_)<|RT.done<|aG.n<|ae.n ?_
   ·obtain⟨y,e,ho⟩:=D.cell i j (by omega) (by rw[hsz];exact hj)
    rw[hsz]at e
    exact⟨y,(D.hin _ _ _ e).cell ho⟩
   ·rw[hsz];simp only[List.length_cons,List.length_nil];omega
   ·exact af<|RT.mv .none rfl (tl rfl)<|RT.add .none _ rfl rfl (tl rfl) (n9 (by omega))<|RT.B7 .none rfl (tl rfl)<|RT.done<|ae.n ⟨⟨i+1,hlt⟩,by dsimp only;omega,wR []⟩
 ·exact bA<|bA<|af<|RT.mv .none rfl (tl rfl)<|RT.mv .none rfl (tl rfl)<|RT.NQ .none rfl (tl rfl)<|RT.lss .none false rfl rfl (tl rfl) (decide_eq_false (by omega))<|RT.done<|ae.n<|ja rfl<|aW<|ae.x<|ae.x<|aG.x (.inl rfl)
end Go.Proofs.YtmiflmkdaeianaaGreat
namespace Go.Proofs.YtmiflmkdaeianaaGreat
open Go.Fw
noncomputable def fz(x0:Int)(x1:List Mv)(x2:Int):Option (Bool):=(iQ x1).bind fun ek=>(bif ek then(eE).bind fun dI=>some dI else(kR x0).bind fun⟨ei,kH⟩=>(lJ x0).bind fun⟨gW,nP⟩=>bM (fun(z6:Bool)=>(bif z6 then some false else(bC (fun(Tr:Int×(List En)×(List En))=>match Tr with|⟨rU,C1,C2⟩=>(show Option ((Int×(List En)×(List En))⊕(((List En)×(List En))⊕(Bool)))from(some (x1.length:Int)).bind fun xN=>(some (decide ((rU:Int)<xN))).bind fun AG=>(bif AG then(bQ x1 rU).bind fun⟨Em,Hw,Hx,⟨⟨Hy,Zj⟩,⟨Zk,Zl⟩⟩⟩=>(bQ x1 rU).bind fun⟨HH,Ev,Zm,⟨⟨Zn,Zo⟩,⟨Zp,Zq⟩⟩⟩=>(bQ x1 rU).bind fun⟨Zs,Zt,Qk,⟨⟨Zu,Zv⟩,⟨Zw,Zx⟩⟩⟩=>(bQ x1 rU).bind fun⟨Zy,Zz,ZA,⟨⟨Ql,Qm⟩,⟨Qn,Qo⟩⟩⟩=>(bF ei C2 Em Ev Qk ⟨⟨Ql,Qm⟩,⟨Qn,Qo⟩⟩).bind fun⟨GR,l16⟩=>(bQ x1 rU).bind fun⟨Ex,HI,ZB,⟨⟨ZC,ZD⟩,⟨ZE,ZF⟩⟩⟩=>(bQ x1 rU).bind fun⟨ZG,Qp,ZH,⟨⟨ZI,ZJ⟩,⟨ZK,ZL⟩⟩⟩=>(bQ x1 rU).bind fun⟨ZM,ZN,Qq,⟨⟨ZO,ZP⟩,⟨ZQ,ZR⟩⟩⟩=>(bQ x1 rU).bind fun⟨ZS,ZT,ZU,⟨⟨Qs,Qt⟩,⟨Qu,Qv⟩⟩⟩=>(fy gW C1 Ex Qp Qq ⟨⟨Qs,Qt⟩,⟨Qu,Qv⟩⟩).bind fun⟨Nf,l17⟩=>(some (decide ((GR:Int)≠Nf))).bind fun Kc=>(bif Kc then some (.inr (.inr false))else(some (IntKind.i64.wrap (rU+1))).bind fun rm=>some (.inl (rm,l17,l16)))else some (.inr (.inl (C1,C2)))))) (0,nP,kH)).bind fun e13=>match e13 with|.inr v13=>some v13|.inl ⟨kq,gO⟩=>(gN ⟨ei,gO⟩ ⟨gW,kq⟩).bind fun Wm=>(some (!Wm)).bind fun SY=>(bif SY then some false else(dy ⟨ei,gO⟩).bind fun Vv=>(gD ⟨ei,gO⟩ x2).bind fun⟨⟨NV,NW⟩,Ez⟩=>bM (fun(C3:Bool)=>bM (fun(Gm:Int)=>bM (fun(Qw:Bool)=>some Qw) fun K28=>(gN ⟨ei,gO⟩ ⟨gW,kq⟩).bind fun wA=>(bif wA then(some (decide ((Ez:Int)=Gm))).bind fun Ee=>some Ee else some false).bind fun HJ=>(bif HJ then(eE).bind fun Ts=>some Ts else some false).bind fun NX=>K28 NX) fun Uq=>(bif C3 then Uq 1 else Uq 0)) fun K20=>(some (decide ((x2:Int)<0))).bind fun FD=>(bif FD then some true else(some (decide ((x0:Int)≤x2))).bind fun Gg=>some Gg).bind fun HK=>K20 HK))) fun K3=>(bif false then none else(some (!(false==false))).bind fun oH=>some oH).bind fun LX=>K3 LX)
noncomputable def fB(x0:Int)(x1:List Mv)(x2:Int):Option (Bool):=(iQ x1).bind fun ek=>(bif ek then(eE).bind fun dI=>some dI else(lI x0).bind fun _=>(ko x0).bind fun _=>bM (fun(z6:Bool)=>(bif z6 then some false else(eE).bind fun mO=>some mO)) fun K3=>(bif false then none else(some (!(true==true))).bind fun oH=>some oH).bind fun Qx=>K3 Qx)
noncomputable def fO(x0:Int)(x1:List Mv)(x2:Int):Option (Bool):=if 1≤x0∧x0≤64 then fz x0 x1 x2 else fB x0 x1 x2
end Go.Proofs.YtmiflmkdaeianaaGreat
namespace Go.Proofs.YtmiflmkdaeianaaGreat
open Go.Fw Go.Fw.Z Go.RowKit
set_option maxHeartbeats 4000000 in
theorem qK{x0:Int}{x1:List Mv}{x2:Int}{r:Bool}(h:fz x0 x1 x2=some r):Pure Tryz.prog 3 [.v (.int .i64 x0),slc 7 (List.map Iu x1),.v (.int .i64 x2)] (.v (.bool r)):=by
 refine xC Tryz.func3 rfl (Nat.le_of_ble_eq_true rfl) (fun c9 M vs hM hvs=>?_)
 unfold fz at h
 refine sr<|ag rfl<|dn<|qq<|sr<|mv rfl<|bE h fun ek jz h=>cl (sY jz) ⟨rfl,trivial⟩<|dn ?_
 cases ek
 refine fs<|sr<|mv rfl ?_
 obtain⟨⟨ei,kH⟩,kE,h⟩:=bS (F h)
 refine RT.CC .none (xu kE) [302] (by decide) rfl ⟨⟨rfl,T⟩,trivial⟩ rfl ⟨rfl,trivial⟩ T rfl rfl<|mo (s:=.cmp _ _) rfl<|RT.oT .none rfl rfl T<|RT.oT .none rfl rfl T<|an (s:=.ptr _ _) rfl<|ag rfl<|dn<|sr<|mv rfl ?_
 obtain⟨⟨gW,nP⟩,om,h⟩:=bS h
 refine RT.CC .none (CZ om) [304] (by decide) rfl ⟨⟨rfl,T⟩,trivial⟩ rfl ⟨rfl,trivial⟩ T rfl rfl<|mo (s:=.cmp _ _) rfl<|RT.oT .none rfl rfl T<|RT.oT .none rfl rfl T<|an (s:=.ptr _ _) rfl<|ag rfl<|dn<|qq<|qq ?_
 refine aC h (fun j3=>AS.bL 123 [(0,.sv (.v (.int .i64 x0))),(1,.sv (slc 7 (List.map Iu x1))),(2,.sv (.v (.int .i64 x2))),(7,.ptr 20 0),(8,.sv (.v (.int .i64 0))),(9,.ptr 25 0),(37,.sv (.v (.bool j3)))] [(25,⟨59,[.sv (.v (.int .i64 gW)),.row 304]⟩),(20,⟨56,[.sv (.v (.int .i64 ei)),.row 302]⟩)] [(304,TR 64 5 dH nP),(302,TR 61 5 dH kH)]) (fun h=>?_) (fun z6 h=>?_)
 refine af<|mv rfl<|mv rfl<|ne false rfl rfl (by decide)<|mv rfl<|bE h fun LX KG h=>RT.move (.some rfl rfl) (s:=.ptr _ _) rfl T<|RT.KI (.some rfl rfl) rfl rfl T<|gm rfl<|gq false rfl rfl (by decide)<|lE (F KG) fun oH qI KG=>RT.Dv (.some rfl rfl) _ rfl rfl T qI ?_
 obtain rfl:=O KG
 exact pF rfl<|dn<|⟨oH,h,wR []⟩
 try dsimp only
 refine ae.n ?_
 cases z6
 refine fs<|qq<|sr<|mv rfl<|ne false rfl rfl (by decide)<|dn<|fs<|qq<|sr<|ag rfl<|dn<|bE (F h) fun e13 afO gP=>?_
 refine aP (fun(I3:(List En)×(List En))=>AS.bL 123 [(0,.sv (.v (.int .i64 x0))),(2,.sv (.v (.int .i64 x2))),(7,.ptr 20 0),(9,.ptr 25 0)] [(25,⟨59,[.sv (.v (.int .i64 gW)),.row 309]⟩),(20,⟨56,[.sv (.v (.int .i64 ei)),.row 310]⟩)] [(309,TR 64 5 dH I3.1),(310,TR 61 5 dH I3.2)]) (fun I3=>.inl I3=e13) ?_ (fun I3 afP=>?_)
 refine ax ?_
 refine aQ afO (fun Tr=>AS.bL 123 [(0,.sv (.v (.int .i64 x0))),(1,.sv (slc 7 (List.map Iu x1))),(2,.sv (.v (.int .i64 x2))),(7,.ptr 20 0),(9,.ptr 25 0),(11,.sv (.v (.int .i64 Tr.1)))] [(25,⟨59,[.sv (.v (.int .i64 gW)),.row 309]⟩),(20,⟨56,[.sv (.v (.int .i64 ei)),.row 310]⟩)] [(309,TR 64 5 dH Tr.2.1),(310,TR 61 5 dH Tr.2.2)]) (dx (fun i=>bif Nat.beq i 309 then 304 else bif Nat.beq i 310 then 302 else i) rfl rfl rfl rfl rfl ⟨.sv (SV.aa _),.sv (SV.aa _),.sv (SV.aa _),.ptr,.ptr,.sv (SV.aa _),trivial⟩ ⟨⟨_,rfl,⟨.sv (SV.aa _),.row rfl,trivial⟩⟩,⟨_,rfl,⟨.sv (SV.aa _),.row rfl,trivial⟩⟩,trivial⟩ ⟨⟨_,rfl,cn.refl _⟩,⟨_,rfl,cn.refl _⟩,trivial⟩ (fun i hi=>by rw[bD (show i≠309 by omega)];rw[bD (show i≠310 by omega)];rfl)) (fun Tr y13 G13 h afQ ZV=>?_)
 obtain⟨rU,C1,C2⟩:=Tr
 try dsimp only
 refine qq<|sr<|mv rfl<|mv rfl<|lE h fun xN GX h=>ln rfl GX<|lE h fun AG FL h=>ls _ rfl rfl FL<|dn ?_
 cases AG
 refine cF<|aW<|ae.x<|ae.x<|aG.x<|ae.n ?_
 obtain rfl:=O (F h)
 exact⟨(C1,C2),ZV _ rfl,wR []⟩
 refine cT<|aE<|ae.n<|qq<|ax<|qq<|ai mixed<|mo (s:=.ptr _ _) rfl<|mv rfl<|mv rfl ?_
 obtain⟨⟨Em,Hw,Hx,⟨⟨Hy,Zj⟩,⟨Zk,Zl⟩⟩⟩,Co,h⟩:=bS (V h)
 refine ix rfl rfl Co<|RT.aH .none rfl T rfl<|lr rfl rfl<|mv rfl<|mv rfl ?_
 obtain⟨⟨HH,Ev,Zm,⟨⟨Zn,Zo⟩,⟨Zp,Zq⟩⟩⟩,R8,h⟩:=bS h
 refine ix rfl rfl R8<|RT.aH .none rfl T rfl<|lr rfl rfl<|mv rfl<|mv rfl ?_
 obtain⟨⟨Zs,Zt,Qk,⟨⟨Zu,Zv⟩,⟨Zw,Zx⟩⟩⟩,IG,h⟩:=bS h
 refine ix rfl rfl IG<|RT.aH .none rfl T rfl<|lr rfl rfl<|mv rfl<|mv rfl ?_
 obtain⟨⟨Zy,Zz,ZA,⟨⟨Ql,Qm⟩,⟨Qn,Qo⟩⟩⟩,Pe,h⟩:=bS h
 refine ix rfl rfl Pe<|RT.aH .none rfl T rfl<|RT.kF (cs:=[_,_,_,_]) .none rfl T rfl rfl ?_
 obtain⟨⟨GR,l16⟩,Ni,h⟩:=bS h
 refine RT.xn .none (dj Ni) 20 [310] [317] rfl ⟨rfl,trivial⟩ (by decide) (by decide) rfl ⟨⟨rfl,T⟩,trivial⟩ rfl rfl (.cons rfl (.cons rfl (.cons rfl (.cons rfl (.cons rfl (.nil)))))) T<|mo (s:=.ptr _ _) rfl<|mv rfl<|mv rfl ?_
 obtain⟨⟨Ex,HI,ZB,⟨⟨ZC,ZD⟩,⟨ZE,ZF⟩⟩⟩,Sa,h⟩:=bS h
 refine ix rfl rfl Sa<|RT.aH .none rfl T rfl<|lr rfl rfl<|mv rfl<|mv rfl ?_
 obtain⟨⟨ZG,Qp,ZH,⟨⟨ZI,ZJ⟩,⟨ZK,ZL⟩⟩⟩,h77,h⟩:=bS h
 refine ix rfl rfl h77<|RT.aH .none rfl T rfl<|lr rfl rfl<|mv rfl<|mv rfl ?_
 obtain⟨⟨ZM,ZN,Qq,⟨⟨ZO,ZP⟩,⟨ZQ,ZR⟩⟩⟩,h82,h⟩:=bS h
 refine ix rfl rfl h82<|RT.aH .none rfl T rfl<|lr rfl rfl<|mv rfl<|mv rfl ?_
 obtain⟨⟨ZS,ZT,ZU,⟨⟨Qs,Qt⟩,⟨Qu,Qv⟩⟩⟩,VT,h⟩:=bS h
 refine ix rfl rfl VT<|RT.aH .none rfl T rfl<|RT.kF (cs:=[_,_,_,_]) .none rfl T rfl rfl ?_
 obtain⟨⟨Nf,l17⟩,VU,h⟩:=bS h
 refine RT.xn .none (um VU) 25 [309] [318] rfl ⟨rfl,trivial⟩ (by decide) (by decide) rfl ⟨⟨rfl,T⟩,trivial⟩ rfl rfl (.cons rfl (.cons rfl (.cons rfl (.cons rfl (.cons rfl (.nil)))))) T<|lE h fun Kc Sb h=>ne _ rfl rfl (It (p:=GR) (q:=Nf) Sb) ?_
 refine RT.done ⟨by kernel_rfl,?_⟩
 refine ae.n ?_
 cases Kc
 refine cF<|aE<|aG.n<|ae.n<|af<|mv rfl<|lE (F h) fun rm h46 h=>ad _ rfl rfl h46<|ag rfl<|RT.done ?_
 obtain rfl:=O h
 exact ae.n ⟨(rm,l17,l16),afQ _ rfl,dx (fun i=>bif Nat.beq i 309 then 318 else bif Nat.beq i 310 then 317 else i) rfl rfl rfl rfl rfl ⟨.sv (SV.aa _),.sv (SV.aa _),.sv (SV.aa _),.ptr,.ptr,.sv (SV.aa _),trivial⟩ ⟨⟨_,rfl,⟨.sv (SV.aa _),.row rfl,trivial⟩⟩,⟨_,rfl,⟨.sv (SV.aa _),.row rfl,trivial⟩⟩,trivial⟩ ⟨⟨_,rfl,cn.refl _⟩,⟨_,rfl,cn.refl _⟩,trivial⟩ (fun i hi=>by rw[bD (show i≠309 by omega)];rw[bD (show i≠310 by omega)];rfl)⟩
 refine cT<|sr<|ag rfl<|dn<|aj<|aG.r<|ae.r ?_
 obtain rfl:=O (V h)
 have afR:=ZV _ rfl
 subst afR
 refine ae.r<|aG.r<|ae.r<|ae.r ?_
 obtain rfl:=O gP
 exact R1 rfl
 subst afP
 obtain⟨kq,gO⟩:=I3
 try dsimp only
 refine ae.n<|qq<|qq<|bq (b8 (i:=310) (E1:=61) (n:=5) (e:=dH) (l:=gO) rfl) ?_
 refine bq (sg (i:=20) rfl [.v (.int .i64 ei),slc 5 (List.map dH gO)] (.cons rfl (.cons rfl (.nil))) .any 0 [(7,.sv (ref [.v (.int .i64 ei),slc 5 (List.map dH gO)]))] (fun _ _ _=>trivial) (vZ.h (l:=[.v (.int .i64 ei),slc 5 (List.map dH gO)])) ⟨@FT.ptr _ _ _ _ _ 7 0 rfl,trivial⟩)<|bq (b8 (i:=309) (E1:=64) (n:=5) (e:=dH) (l:=kq) rfl) ?_
 refine bq (sg (i:=25) rfl [.v (.int .i64 gW),slc 5 (List.map dH kq)] (.cons rfl (.cons rfl (.nil))) .any 0 [(9,.sv (ref [.v (.int .i64 gW),slc 5 (List.map dH kq)]))] (fun _ _ _=>trivial) (vZ.h (l:=[.v (.int .i64 gW),slc 5 (List.map dH kq)])) ⟨@FT.ptr _ _ _ _ _ 9 0 rfl,trivial⟩)<|af<|mv rfl<|mv rfl<|bE gP fun Wm h94 gP=>cl (sZ h94) ⟨rfl,rfl,trivial⟩<|lE gP fun SY h95 gP=>nt rfl _ h95<|dn ?_
 cases SY
 refine fs<|sr<|mv rfl<|bE (F gP) fun Vv VW gP=>?_
 refine RT.Tk .none (fun N=>(wQ N VW)) rfl (fun _=>⟨rfl,trivial⟩) T (fun N2 hN2=>?_)
 refine RT.NR .none (zZ Vv) rfl rfl (SV.aa _) (fun _ _ _ e=>iU hM e) (fun _ _ _ _ _=>trivial) (fun _=>rfl) hN2 (n:=123) (ts:=[(0,.sv (.v (.int .i64 x0))),(2,.sv (.v (.int .i64 x2))),(7,.sv (od N2 (ref [.v (.int .i64 ei),slc 5 (List.map dH gO)]))),(9,.sv (od N2 (ref [.v (.int .i64 gW),slc 5 (List.map dH kq)]))),(96,.sv (od N2 (ref [.v (.int .i64 ei),slc 5 (List.map dH gO)])))]) (bs:=[]) (g':=0) (go:=true) rfl rfl (fun _=>⟨.sv (Zd (fun _ _ q_=>q_)),.sv (Zd (fun _ _ q_=>q_)),.sv (LK (fun _ _ q_=>q_)),.sv (LK (fun _ _ q_=>q_)),.sv (LK (fun _ _ q_=>q_)),trivial⟩) (fun _=>trivial) rfl T ?_
 refine dn ?_
 refine bq (S':=AS.bL 123 [(0,.sv (.v (.int .i64 x0))),(2,.sv (.v (.int .i64 x2))),(7,.sv (od N2 (ref [.v (.int .i64 ei),slc 5 (List.map dH gO)]))),(9,.sv (od N2 (ref [.v (.int .i64 gW),slc 5 (List.map dH kq)]))),(96,.sv (od N2 (ref [.v (.int .i64 ei),slc 5 (List.map dH gO)])))] [] []) (dx id rfl rfl rfl rfl rfl ⟨.sv (fun _ _ q_=>q_),.sv (fun _ _ q_=>q_),.sv (SV.aa _),.sv (SV.aa _),.sv (SV.aa _),trivial⟩ trivial trivial (fun _ _=>rfl))<|sr<|mv rfl<|mv rfl ?_
 obtain⟨⟨⟨NV,NW⟩,Ez⟩,Kn,gP⟩:=bS gP
 refine cl ((vD Kn).w (args':=[_,_]) ⟨(fun _ _ q_=>(Gh _ _ q_)),(SV.aa _),trivial⟩) ⟨rfl,rfl,trivial⟩<|mv rfl<|ex rfl rfl<|ex rfl rfl<|al (cs:=[.v (.bool false),slc 1 (List.map ah [])]) (by exact⟨SV.aa _,imp_nil,trivial⟩) rfl<|so rfl rfl rfl<|ag rfl<|dn<|sr<|ag rfl<|dn<|qq<|qq ?_
 refine aC gP (fun j20=>AS.bL 123 [(7,.sv (od N2 (ref [.v (.int .i64 ei),slc 5 (List.map dH gO)]))),(9,.sv (od N2 (ref [.v (.int .i64 gW),slc 5 (List.map dH kq)]))),(13,.sv (.v (.int .i64 Ez))),(14,.sv (.v (.int .i64 0))),(111,.sv (.v (.bool j20)))] [] []) (fun gP=>?_) (fun C3 gP=>?_)
 refine af<|mv rfl<|lE gP fun FD Sf gP=>ls _ rfl rfl Sf<|mv rfl<|bE gP fun HK IP gP=>?_
 cases FD
 refine gm rfl<|gm rfl<|lE (F IP) fun Gg Ti IP=>RT.geq (.some rfl rfl) _ rfl rfl T Ti ?_
 obtain rfl:=O IP
 exact pF rfl<|dn<|⟨Gg,gP,wR []⟩
 obtain rfl:=O (V IP)
 exact ww<|ww<|ww<|pT rfl<|dn<|⟨true,gP,wR []⟩
 try dsimp only
 refine ae.n ?_
 refine aC gP (fun Wo=>AS.bL 123 [(7,.sv (od N2 (ref [.v (.int .i64 ei),slc 5 (List.map dH gO)]))),(9,.sv (od N2 (ref [.v (.int .i64 gW),slc 5 (List.map dH kq)]))),(13,.sv (.v (.int .i64 Ez))),(14,.sv (.v (.int .i64 Wo)))] [] []) (fun gP=>?_) (fun Gm gP=>?_)
 cases C3
 exact fs<|⟨0,(F gP),wR []⟩
 exact cT<|af<|ag rfl<|dn<|⟨1,(V gP),wR []⟩
 try dsimp only
 refine ae.n<|qq ?_
 refine aC gP (fun j28=>AS.bL 123 [(6,.sv (.v (.bool j28)))] [] []) (fun gP=>?_) (fun Qw gP=>?_)
 refine af<|mv rfl<|mv rfl<|bE gP fun wA Kp gP=>cl ((sZ Kp).w (args':=[_,_]) ⟨(fun _ _ q_=>(Gh _ _ q_)),(fun _ _ q_=>(Gh _ _ q_)),trivial⟩) ⟨rfl,rfl,trivial⟩<|mv rfl<|bE gP fun HJ Cz gP=>?_
 cases wA
 obtain rfl:=O (F Cz)
 refine ww<|ww<|ww<|pF rfl<|mv rfl<|bE gP fun ab2 IN gP=>?_
 obtain rfl:=O (F IN)
 exact ww<|pF rfl<|ag rfl<|dn<|⟨false,gP,wR []⟩
 refine gm rfl<|gm rfl<|lE (V Cz) fun Ee S8 Cz=>DO _ rfl rfl (oN (p:=Ez) (q:=Gm) S8) ?_
 obtain rfl:=O Cz
 refine pT rfl<|mv rfl<|bE gP fun ab3 CA gP=>?_
 cases Ee
 obtain rfl:=O (F CA)
 exact ww<|pF rfl<|ag rfl<|dn<|⟨false,gP,wR []⟩
 refine bE (V CA) fun Ts afS CA=>gc (kn afS) trivial ?_
 obtain rfl:=O CA
 exact pT rfl<|ag rfl<|dn<|⟨Ts,gP,wR []⟩
 try dsimp only
 refine ae.n<|aj ?_
 obtain rfl:=O gP
 exact R1 rfl
 refine cT<|sr<|ag rfl<|dn<|aj<|ae.r ?_
 obtain rfl:=O (V gP)
 exact R1 rfl
 refine cT<|sr<|ag rfl<|dn<|aj<|ae.r ?_
 obtain rfl:=O (V h)
 exact R1 rfl
 refine cT<|sr<|bE (V h) fun dI iW h=>cl (kn iW) trivial<|ag rfl<|dn<|aj<|ae.r ?_
 obtain rfl:=O h
 exact R1 rfl
end Go.Proofs.YtmiflmkdaeianaaGreat
namespace Go.Proofs.YtmiflmkdaeianaaGreat
open Go.Fw Go.Fw.Z Go.RowKit
theorem qL{x0:Int}{x1:List Mv}{x2:Int}{r:Bool}(h:fB x0 x1 x2=some r):Pure Tryz.prog 3 [.v (.int .i64 x0),slc 7 (List.map Iu x1),.v (.int .i64 x2)] (.v (.bool r)):=by
 refine xC Tryz.func3 rfl (Nat.le_of_ble_eq_true rfl) (fun c9 M vs hM hvs=>?_)
 unfold fB at h
 refine sr<|ag rfl<|dn<|qq<|sr<|mv rfl<|bE h fun ek jz h=>cl (sY jz) ⟨rfl,trivial⟩<|dn ?_
 cases ek
 refine fs<|sr<|mv rfl<|bE (F h) fun _ kE h=>cl (CY kE) ⟨rfl,trivial⟩<|mv rfl<|ex rfl rfl<|ex rfl rfl<|ag rfl<|ag rfl<|dn<|sr<|mv rfl<|bE h fun _ om h=>cl (AY om) ⟨rfl,trivial⟩<|mv rfl<|ex rfl rfl<|ex rfl rfl<|ag rfl<|ag rfl<|dn<|qq<|qq ?_
 refine aC h (fun j3=>AS.bL 123 [(0,.sv (.v (.int .i64 x0))),(1,.sv (slc 7 (List.map Iu x1))),(2,.sv (.v (.int .i64 x2))),(7,.sv (.v (.pointer none))),(8,.sv (.v (.int .i64 1))),(9,.sv (.v (.pointer none))),(37,.sv (.v (.bool j3)))] [] []) (fun h=>?_) (fun z6 h=>?_)
 refine af<|mv rfl<|mv rfl<|ne false rfl rfl (by decide)<|mv rfl<|bE h fun Qx kG h=>gm rfl<|RT.SJ (.some rfl rfl) rfl rfl T<|gm rfl<|gq true rfl rfl (by decide)<|lE (F kG) fun oH qI kG=>RT.Dv (.some rfl rfl) _ rfl rfl T qI ?_
 obtain rfl:=O kG
 exact pF rfl<|dn<|⟨oH,h,wR []⟩
 try dsimp only
 refine ae.n ?_
 cases z6
 refine fs<|qq<|sr<|mv rfl<|ne true rfl rfl (by decide)<|dn<|cT<|sr<|bE (F h) fun mO sx h=>cl (kn sx) trivial<|ag rfl<|dn<|aj<|ae.r ?_
 obtain rfl:=O h
 exact R1 rfl
 refine cT<|sr<|ag rfl<|dn<|aj<|ae.r ?_
 obtain rfl:=O (V h)
 exact R1 rfl
 refine cT<|sr<|bE (V h) fun dI iW h=>cl (kn iW) trivial<|ag rfl<|dn<|aj<|ae.r ?_
 obtain rfl:=O h
 exact R1 rfl
end Go.Proofs.YtmiflmkdaeianaaGreat
namespace Go.Proofs.YtmiflmkdaeianaaGreat
open Go.Fw Go.Fw.Z Go.RowKit
theorem rV{x0:Int}{x1:List Mv}{x2:Int}{r:Bool}(h:fO x0 x1 x2=some r):Pure Tryz.prog 3 [.v (.int .i64 x0),slc 7 (List.map Iu x1),.v (.int .i64 x2)] (.v (.bool r)):=by
 unfold fO at h
 split at h
 ·exact qK h
 ·exact qL h
end Go.Proofs.YtmiflmkdaeianaaGreat
namespace Go.Fw
theorem eN{n:Nat}(h:n≤9223372036854775807):IntKind.i64.wrap (n:Int)=n:=n9 (by omega)
theorem b7{x:Int}(h: -9223372036854775808≤x)(h':x≤9223372036854775807):IntKind.i64.wrap x=x:=n9 ⟨h,h'⟩
theorem bh{n:Nat}(h:n<9223372036854775807):IntKind.i64.wrap ((n:Int)+1)=((n+1:Nat):Int):=by rw[n9 (by omega)];simp
theorem ku{n m:Nat}(h:n+m≤9223372036854775807):IntKind.i64.wrap ((n:Int)+(m:Int))=((n+m:Nat):Int):=by rw[n9 (by omega)];simp
theorem z8{n:Nat}(h:n≤9223372036854775807):IntKind.i64.wrap (((n+1:Nat):Int)-1)=(n:Int):=by rw[n9 (by omega)];omega
theorem aF{α:Type}{l:List α}{i:Nat}{a:α}(h:l[i]? =some a):bQ l (i:Int)=some a:=by simp[bQ,h]
theorem o6{α:Type}{l:List α}{a:α}(h:l[0]? =some a):bQ l 0=some a:=by simp[bQ,h]
theorem EA{α:Type}{l:List α}{a:α}(h:l[1]? =some a):bQ l 1=some a:=by simp[bQ,h]
theorem cU{α:Type}{l:List α}{i:Nat}(h:i<l.length):qX l (i:Int)=some i:=by simp[qX,h]
theorem iH{α:Type}{l:List α}{i:Nat}{y:α}(h:i<l.length):stM l i y=some (l.set i y):=by simp[stM,h]
theorem LY{α:Type}{b:Nat}{l k:List α}(h:(l.length+k.length)*b≤140737488355328)(h':l.length+k.length≤140737488355328):uC b l k=some (l++k):=by simp[uC,h,h']
theorem vE{α:Type}{b:Nat}{l:List α}{x:α}(hb:b≤100)(h:l.length≤1000000000000):uC b l [x]=some (l++[x]):=by
 apply LY
 ·have:(l.length+[x].length)*b≤1000000000001*100:=Nat.mul_le_mul (by simp;omega) hb
  omega
 ·simp;omega
theorem NY{α:Type}{b:Nat}{l k:List α}(hb:b≤100)(h:l.length+k.length≤1000000000000):uC b l k=some (l++k):=by
 apply LY
 ·have:(l.length+k.length)*b≤1000000000000*100:=Nat.mul_le_mul h hb
  omega
 ·omega
theorem Gn{α:Type}{b:Nat}{n:Nat}(hb:b≤100)(h:n≤1000000000000):MV (α:=α) b (n:Int)=some []:=by
 have:b*n≤100*1000000000000:=Nat.mul_le_mul hb h
 have h2:(b:Int)*(n:Int)=((b*n:Nat):Int):=by simp
 unfold MV
 rw[h2,if_pos ⟨by omega,by omega,by omega⟩]
theorem rW{α:Type}{b:Nat}{n:Nat}{z:α}(hb:b≤100)(h:n≤1000000000000):Is b (n:Int) z=some (List.replicate n z):=by
 have:b*n≤100*1000000000000:=Nat.mul_le_mul hb h
 have h2:(b:Int)*(n:Int)=((b*n:Nat):Int):=by simp
 unfold Is
 rw[h2,if_pos ⟨by omega,by omega,by omega⟩,Int.toNat_natCast]
theorem LZ{α:Type}{l:List α}{i j:Nat}(h:i≤j)(h':j≤l.length):Az l (i:Int) (j:Int)=some (cut l i j):=by
 unfold Az;rw[if_pos ⟨by omega,by omega,by omega⟩];simp
theorem wS{α:Type}{l:List α}{j:Nat}(h':j≤l.length):Az l 0 (j:Int)=some (l.take j):=by
 have:=LZ (l:=l) (i:=0) (j:=j) (by omega) h'
 simpa[cut]using this
theorem qe{M a b:Nat}(h:b≤a)(h':a<M):mN M a b=a-b:=by
 unfold mN;rw[show(a:Int)-(b:Int)=((a-b:Nat):Int) by omega,←Int.natCast_emod,Int.toNat_natCast,Nat.mod_eq_of_lt (by omega)]
theorem vF{M a b:Nat}(h:a<b)(h':b≤M):mN M a b=M+a-b:=by
 unfold mN
 have:((a:Int)-(b:Int))%(M:Int)=((M+a-b:Nat):Int):=by
  rw[←Int.add_emod_right (a:=(a:Int)-b),show(a:Int)-(b:Int)+(M:Int)=((M+a-b:Nat):Int) by omega,←Int.natCast_emod,Nat.mod_eq_of_lt (by omega)]
 rw[this,Int.toNat_natCast]
theorem yp{o n i:Nat}(h:i<n):Mu o n (i:Int)=some (o+i):=by simp[Mu,h]
theorem o7{α:Type}{l l':List α}(h:l'.length=l.length):sP l l'=some ():=by simp[sP,h]
theorem C4{M a b:Nat}(h:b≠0)(h':a<M):Ca M a b=some (a/b):=by
 unfold Ca;rw[if_neg h,Nat.mod_eq_of_lt (Nat.lt_of_le_of_lt (Nat.div_le_self _ _) h')]
theorem yq{a b:Nat}(h:b≠0):AB a b=some (a%b):=by unfold AB;rw[if_neg h]
theorem aL{α β:Type}{a:α}{f:α→Option β}:Option.bind (some a) f=f a:=by
 have h:∀o,o=some a→Option.bind o f=f a:=by intro o ho;rw[ho];rfl
 exact h _ rfl
theorem eR{α:Type}{x y:α}:(bif true then x else y)=x:=by
 have h:∀b,b=true→(bif b then x else y)=x:=by intro b hb;rw[hb];rfl
 exact h _ rfl
theorem fM{α:Type}{x y:α}:(bif false then x else y)=y:=by
 have h:∀b,b=false→(bif b then x else y)=y:=by intro b hb;rw[hb];rfl
 exact h _ rfl
theorem eX{S E R:Type}{body:S→Option (S⊕E)}{s:S}{f:E→Option R}{r:R}(I:S→Prop)(Post:E→Prop)(μ:S→Nat)
  (step:∀s,I s→(∃s',body s=some (.inl s')∧I s'∧μ s'<μ s)∨(∃e,body s=some (.inr e)∧Post e)) (h:I s) (hf:∀e,Post e→f e=some r):(bC body s).bind f=some r:=by
 obtain⟨e,h1,h2⟩:=wh I Post μ step h
 rw[h1];exact hf e h2
theorem kx{S E R:Type}{body:S→Option (S⊕E)}{s:S}{f:E→Option R}{Q:R→Prop}(I:S→Prop)(Post:E→Prop)(μ:S→Nat)
  (step:∀s,I s→(∃s',body s=some (.inl s')∧I s'∧μ s'<μ s)∨(∃e,body s=some (.inr e)∧Post e)) (h:I s) (hf:∀e,Post e→∃r,f e=some r∧Q r):∃r,(bC body s).bind f=some r∧Q r:=by
 obtain⟨e,h1,h2⟩:=wh I Post μ step h
 rw[h1];exact hf e h2
theorem aU{S E R:Type}{body:S→Option (S⊕E)}{s:S}{f:E→Option R}{r:R}(st:Nat→S)(n:Nat)(e:E)(h0:s=st 0)(hs:∀k,k<n→body (st k)=some (.inl (st (k+1))))(he:body (st n)=some (.inr e))(hf:f e=some r):(bC body s).bind f=some r:=by
 rw[h0,JS st n hs he];exact hf
theorem z9{S R:Type}{body:Nat→S→Option S}{s:S}{f:S→Option R}{r:R}(st:Nat→S){n:Nat}(h0:s=st 0)(hs:∀k,k<n→body k (st k)=some (st (k+1)))(hf:f (st n)=some r):(rf body n s).bind f=some r:=by
 rw[h0,Be st n hs];exact hf
theorem bind_eq{α β:Type}{x:Option α}{a:α}{f:α→Option β}{r:Option β}(h:x=some a)(hf:f a=r):x.bind f=r:=by rw[h];exact hf
theorem bw{α:Type}{b:Bool}{x y r:α}(hb:b=true)(h:x=r):(bif b then x else y)=r:=by rw[hb];exact h
theorem aO{α:Type}{b:Bool}{x y r:α}(hb:b=false)(h:y=r):(bif b then x else y)=r:=by rw[hb];exact h
end Go.Fw
namespace Go.Fw
def val(B:Nat):List Nat→Nat
 |[]=>0
 |x::l=>x+B*val B l
def dr(B:Nat):Nat→Nat→List Nat
 |0,_=>[]
 |n+1,v=>v%B::dr B n (v/B)
def iI(ws:List Nat):List Nat:=(ws.reverse.dropWhile (· ==0)).reverse
def can(B v:Nat):List Nat:=iI (dr B v v)
theorem aJ(B:Nat):∀n v,(dr B n v).length=n
 |0,_=>rfl
 |n+1,v=>by simp[dr,aJ B n]
theorem kz(B:Nat):∀n v,val B (dr B n v)=v%B^n
 |0,v=>by simp[dr,val,Nat.mod_one]
 |n+1,v=>by
  rw[dr,val,kz B n,Nat.pow_succ,Nat.mul_comm (B^n) B,Nat.mod_mul]
theorem lZ{B:Nat}(hB:0<B):∀(n v x:Nat),x∈dr B n v→x<B
 |n+1,v,x,h=>by
  rcases List.mem_cons.1 h with rfl|h
  ·exact Nat.mod_lt _ hB
  ·exact lZ hB n _ x h
theorem ew{B:Nat}:∀(l:List Nat),(∀x∈l,x<B)→val B l<B^l.length
 |[],_=>by simp[val]
 |x::l,h=>by
  have h1:=ew l (fun y hy=>h y (List.mem_cons_of_mem _ hy))
  have h2:=h x (by simp)
  rw[val,List.length_cons,Nat.pow_succ]
  calc x+B*val B l<B+B*val B l:=by omega
   _=B*(val B l+1):=by rw[Nat.mul_add];omega
   _≤B*B^l.length:=Nat.mul_le_mul_left _ h1
   _=B^l.length*B:=Nat.mul_comm _ _
theorem yt{B:Nat}:∀(l:List Nat),(∀x∈l,x<B)→dr B l.length (val B l)=l
 |[],_=>rfl
 |x::l,h=>by
  have h2:=h x (by simp)
  have hB:0<B:=by omega
  rw[List.length_cons,dr,val,Nat.add_mul_mod_self_left,Nat.mod_eq_of_lt h2,Nat.add_mul_div_left _ _ hB,Nat.div_eq_of_lt h2,Nat.zero_add,yt l (fun y hy=>h y (List.mem_cons_of_mem _ hy))]
theorem vG{B:Nat}:∀(n v j:Nat),j<n→(dr B n v)[j]? =some (v/B^j%B)
 |n+1,v,0,_=>by simp[dr]
 |n+1,v,j+1,h=>by
  rw[dr,List.getElem?_cons_succ,vG n _ j (by omega),Nat.div_div_eq_div_mul,Nat.pow_succ,Nat.mul_comm B]
theorem C5{B:Nat}:∀(a b:List Nat),val B (a++b)=val B a+B^a.length*val B b
 |[],b=>by simp[val]
 |x::a,b=>by
  rw[List.cons_append,val,val,C5 a b,List.length_cons,Nat.pow_succ,Nat.mul_add,Nat.add_assoc,Nat.mul_comm (B^a.length) B,Nat.mul_assoc]
theorem gi{B:Nat}:∀(n v:Nat),dr B (n+1) v=dr B n v++[v/B^n%B]
 |0,v=>by simp[dr]
 |n+1,v=>by
  rw[dr,gi n,dr,List.cons_append,Nat.div_div_eq_div_mul,Nat.pow_succ,Nat.mul_comm B]
theorem o8(B:Nat):∀k,dr B k 0=List.replicate k 0
 |0=>rfl
 |k+1=>by rw[dr,Nat.zero_mod,Nat.zero_div,o8 B k];rfl
theorem Aa{B:Nat}(hB:0<B):∀(n k v:Nat),v<B^n→dr B (n+k) v=dr B n v++List.replicate k 0
 |0,k,v,h=>by
  have:v=0:=by simpa using h
  subst this;rw[Nat.zero_add,o8];rfl
 |n+1,k,v,h=>by
  rw[show n+1+k=n+k+1 by omega,dr,dr,List.cons_append,Aa hB n k (v/B) (by rw[Nat.div_lt_iff_lt_mul hB];rwa[Nat.pow_succ]at h)]
theorem qf{B:Nat}(hB:2≤B):∀v,v<B^v
 |0=>by simp
 |v+1=>by
  have:=qf hB v
  rw[Nat.pow_succ]
  have h2:B^v*2≤B^v*B:=Nat.mul_le_mul_left _ hB
  omega
theorem nB(l:List Nat):iI (l++[0])=iI l:=by simp[iI]
theorem rX(l:List Nat):∀k,iI (l++List.replicate k 0)=iI l
 |0=>by simp
 |k+1=>by rw[List.replicate_succ',←List.append_assoc,nB,rX l k]
theorem qg(l:List Nat){x:Nat}(h:x≠0):iI (l++[x])=l++[x]:=by simp[iI,h]
theorem uo(xs:List Nat):xs=[]∨(∃ys,xs=ys++[0])∨(∃ys y,y≠0∧xs=ys++[y]):=by
 rcases List.eq_nil_or_concat xs with rfl|⟨ys,y,rfl⟩
 ·exact .inl rfl
 ·by_cases hy:y=0
  ·subst hy;exact .inr (.inl ⟨ys,by simp⟩)
  ·exact .inr (.inr ⟨ys,y,hy,by simp⟩)
theorem wU:∀(n:Nat) (l:List Nat),l.length=n→∃k,l=iI l++List.replicate k 0:=by
 intro n
 induction n with
 |zero=>intro l h;obtain rfl:=List.length_eq_zero_iff.1 h;exact⟨0,rfl⟩
 |succ n ih=>
  intro l h
  rcases uo l with rfl|⟨ys,rfl⟩|⟨ys,y,hy,rfl⟩
  ·simp at h
  ·obtain⟨k,hk⟩:=ih ys (by simpa using h)
   refine⟨k+1,?_⟩
   rw[nB,List.replicate_succ',←List.append_assoc,←hk]
  ·exact⟨0,by rw[qg _ hy];simp⟩
theorem I4{l:List Nat}{x:Nat}(h:x∈iI l):x∈l:=by
 obtain⟨k,hk⟩:=wU _ l rfl
 rw[hk];exact List.mem_append_left _ h
theorem BF(l:List Nat):(iI l).length≤l.length:=by
 obtain⟨k,hk⟩:=wU _ l rfl
 have:=congrArg List.length hk
 rw[List.length_append]at this;omega
theorem BG(B:Nat):∀k,val B (List.replicate k 0)=0
 |0=>rfl
 |k+1=>by rw[List.replicate_succ,val,BG B k];simp
theorem L0(B:Nat)(l:List Nat):val B (iI l)=val B l:=by
 obtain⟨k,hk⟩:=wU _ l rfl
 conv=>rhs;rw[hk,C5,BG]
 simp
theorem lM{B:Nat}(hB:2≤B){n v:Nat}(h:v<B^n):iI (dr B n v)=can B v:=by
 have hv:=qf hB v
 rcases Nat.le_total n v with hn|hn
 ·obtain⟨k,rfl⟩:=Nat.exists_eq_add_of_le hn
  rw[can,Aa (by omega) n k _ h,rX]
 ·obtain⟨k,rfl⟩:=Nat.exists_eq_add_of_le hn
  rw[can,Aa (by omega) v k _ hv,rX]
theorem iJ{B:Nat}(hB:2≤B){l:List Nat}(h:∀x∈l,x<B):iI l=can B (val B l):=by
 conv=>lhs;rw[←yt l h]
 exact lM hB (ew l h)
theorem iS{B:Nat}(hB:2≤B)(v:Nat):val B (can B v)=v:=by
 rw[can,L0,kz,Nat.mod_eq_of_lt (qf hB v)]
theorem ec{B:Nat}(hB:2≤B){v x:Nat}(h:x∈can B v):x<B:=lZ (by omega) v v x (I4 h)
theorem nC(B:Nat):can B 0=[]:=rfl
theorem vH{B:Nat}(hB:2≤B){v:Nat}(h:can B v=[]):v=0:=by have:=iS hB v;rw[h]at this;exact this.symm
theorem NZ{B:Nat}(hB:2≤B){v n:Nat}(h:v<B^n):(can B v).length≤n:=by
 rw[←lM hB h]
 have:=BF (dr B n v)
 rwa[aJ]at this
theorem N0{B:Nat}(hB:2≤B)(v:Nat):iI (can B v)=can B v:=by
 rw[iJ hB (fun x hx=>ec hB hx),iS hB]
theorem HL{B:Nat}(hB:2≤B)(v:Nat):can B v=dr B (can B v).length v:=by
 have:=yt (can B v) (fun x hx=>ec hB hx)
 rw[iS hB]at this;exact this.symm
theorem bp{B:Nat}(hB:2≤B)(v:Nat):v<B^(can B v).length:=by
 have:=ew (can B v) (fun x hx=>ec hB hx)
 rwa[iS hB]at this
theorem sy{B:Nat}(hB:2≤B){v j:Nat}(h:j<(can B v).length):(can B v)[j]? =some (v/B^j%B):=by
 rw[HL hB v]at h⊢
 rw[aJ]at h
 exact vG _ _ _ h
theorem Ab{B:Nat}(hB:2≤B){v j:Nat}(h:(can B v).length≤j):v/B^j=0:=by
 refine Nat.div_eq_of_lt (Nat.lt_of_lt_of_le (bp hB v) ?_)
 exact Nat.pow_le_pow_right (by omega) h
theorem EB{B:Nat}(hB:2≤B){v:Nat}(h:v≠0):∃l x,x≠0∧can B v=l++[x]:=by
 rcases uo (can B v)with e|⟨ys,e⟩|⟨ys,y,hy,e⟩
 ·exact absurd (vH hB e) h
 ·exfalso
  have h1:=N0 hB v
  rw[e,nB]at h1
  have h2:=BF ys
  rw[h1]at h2;simp at h2;omega
 ·exact⟨ys,y,hy,e⟩
theorem oD{B:Nat}(hB:2≤B){v n:Nat}(h:n<(can B v).length):B^n≤v:=by
 by_cases h0:v=0
 ·subst h0;simp[nC]at h
 obtain⟨l,x,hx,e⟩:=EB hB h0
 have h1:=iS hB v
 rw[e,C5]at h1
 have hl:n≤l.length:=by rw[e]at h;simp at h;omega
 have h2:B^n≤B^l.length:=Nat.pow_le_pow_right (by omega) hl
 have h3:B^l.length≤B^l.length*val B [x]:=Nat.le_mul_of_pos_right _ (by simp[val];omega)
 omega
theorem aT{B:Nat}(hB:2≤B){v n:Nat}:(can B v).length≤n↔v<B^n:=by
 refine⟨fun h=>?_,NZ hB⟩
 exact Nat.lt_of_lt_of_le (bp hB v) (Nat.pow_le_pow_right (by omega) h)
theorem L1{B:Nat}(hB:2≤B){l:List Nat}{x:Nat}(hx:x≠0)(h:∀y∈l++[x],y<B):l++[x]=can B (val B (l++[x])):=by
 rw[←iJ hB h,qg _ hx]
theorem o9{B:Nat}:∀(l:List Nat),(∀x∈l,x<B)→∀k,l.getD k 0=val B l/B^k%B
 |[],_,k=>by simp[val]
 |x::l,h,0=>by
  have h2:=h x (by simp)
  simp[val,Nat.add_mul_mod_self_left,Nat.mod_eq_of_lt h2]
 |x::l,h,k+1=>by
  have h2:=h x (by simp)
  have hB:0<B:=by omega
  rw[List.getD_cons_succ,o9 l (fun y hy=>h y (List.mem_cons_of_mem _ hy)) k,val,Nat.pow_succ,Nat.mul_comm (B^k) B,←Nat.div_div_eq_div_mul,Nat.add_mul_div_left _ _ hB,Nat.div_eq_of_lt h2,Nat.zero_add]
theorem fC(B V k:Nat):V%B^(k+1)=V%B^k+B^k*(V/B^k%B):=by
 rw[Nat.pow_succ,Nat.mod_mul]
def yu(B V W k:Nat):Nat:=(V%B^k+W%B^k)/B^k
theorem Ad{B:Nat}(hB:0<B)(V W k:Nat):yu B V W k≤1:=by
 have hP:0<B^k:=Nat.pow_pos hB
 have h1:=Nat.mod_lt V hP
 have h2:=Nat.mod_lt W hP
 have:yu B V W k<2:=by rw[yu,Nat.div_lt_iff_lt_mul hP];omega
 omega
theorem Ae{B:Nat}(hB:0<B)(V W k:Nat):(V/B^k%B+W/B^k%B+yu B V W k)/B=yu B V W (k+1):=by
 have hP:0<B^k:=Nat.pow_pos hB
 rw[yu,yu,fC,fC,Nat.pow_succ,←Nat.div_div_eq_div_mul]
 congr 1
 rw[show V%B^k+B^k*(V/B^k%B)+(W%B^k+B^k*(W/B^k%B))=(V%B^k+W%B^k)+B^k*(V/B^k%B+W/B^k%B) by rw[Nat.mul_add];omega,Nat.add_mul_div_left _ _ hP]
 omega
theorem yw{B:Nat}(hB:0<B)(V W k:Nat):(V/B^k%B+W/B^k%B+yu B V W k)%B=(V+W)/B^k%B:=by
 have hP:0<B^k:=Nat.pow_pos hB
 have h:(V+W)/B^k=V/B^k+W/B^k+yu B V W k:=by
  have e1:=Nat.div_add_mod V (B^k)
  have e2:=Nat.div_add_mod W (B^k)
  rw[yu]
  conv=>lhs;rw[←e1,←e2]
  rw[show B^k*(V/B^k)+V%B^k+(B^k*(W/B^k)+W%B^k)=(V%B^k+W%B^k)+B^k*(V/B^k+W/B^k) by rw[Nat.mul_add];omega,Nat.add_mul_div_left _ _ hP]
  omega
 rw[h]
 simp[Nat.add_mod]
theorem C6{B:Nat}{V W k:Nat}(hV:V<B^k)(hW:W<B^k):yu B V W k=(V+W)/B^k:=by
 rw[yu,Nat.mod_eq_of_lt hV,Nat.mod_eq_of_lt hW]
theorem Af(B V W:Nat):yu B V W 0=0:=by simp[yu,Nat.mod_one]
def wV(B V W k:Nat):Nat:=(V%B^k+B^k-W%B^k)/B^k
theorem Ag(B V W:Nat):wV B V W 0=1:=by simp[wV,Nat.mod_one]
theorem Gp{B:Nat}(hB:0<B)(V W k:Nat):wV B V W k≤1:=by
 have hP:0<B^k:=Nat.pow_pos hB
 have h1:=Nat.mod_lt V hP
 have:wV B V W k<2:=by
  rw[wV,Nat.div_lt_iff_lt_mul hP]
  generalize W%B^k=y at*
  generalize V%B^k=x at*
  omega
 omega
theorem HM{B:Nat}(hB:0<B)(V W k:Nat):V%B^(k+1)+B^(k+1)-W%B^(k+1)=(V%B^k+B^k-W%B^k)+B^k*(V/B^k%B+(B-1-W/B^k%B)):=by
 have hP:0<B^k:=Nat.pow_pos hB
 have h1:=Nat.mod_lt V hP
 have h2:=Nat.mod_lt W hP
 have h3:=Nat.mod_lt (W/B^k) hB
 rw[fC,fC,Nat.pow_succ]
 generalize B^k=p at*
 generalize V/p%B=x at*
 generalize W/p%B=y at*
 obtain⟨z,rfl⟩:∃z,B=y+1+z:=⟨B-y-1,by omega⟩
 have e1:y+1+z-1-y=z:=by omega
 rw[e1,Nat.mul_add p x z,Nat.mul_add p (y+1) z,Nat.mul_add p y 1]
 omega
theorem Ah{B:Nat}(hB:0<B)(V W k:Nat):(V/B^k%B+(B-1-W/B^k%B)+wV B V W k)/B=wV B V W (k+1):=by
 have hP:0<B^k:=Nat.pow_pos hB
 rw[wV,wV,HM hB,Nat.pow_succ,←Nat.div_div_eq_div_mul,Nat.add_mul_div_left _ _ hP]
 congr 1
 omega
theorem Gq{Q V W:Nat}(hQ:0<Q)(h:W≤V):(V%Q+Q-W%Q)%Q=(V-W)%Q:=by
 have e1:=Nat.div_add_mod V Q
 have e2:=Nat.div_add_mod W Q
 have h1:=Nat.mod_lt V hQ
 have h2:=Nat.mod_lt W hQ
 have hq:W/Q≤V/Q:=Nat.div_le_div_right h
 generalize V%Q=r at*
 generalize W%Q=s at*
 generalize V/Q=a at*
 generalize W/Q=b at*
 obtain⟨c,rfl⟩:=Nat.exists_eq_add_of_le hq
 rw[Nat.mul_add]at e1
 rcases Nat.lt_or_ge r s with SL|SL
 ·cases c with
  |zero=>simp at e1;omega
  |succ c=>
   rw[Nat.mul_add,Nat.mul_one]at e1
   rw[show V-W=Q*c+(r+Q-s) by omega,Nat.mul_add_mod]
 ·rw[show V-W=Q*c+(r-s) by omega,Nat.mul_add_mod,show r+Q-s=r-s+Q by omega,Nat.add_mod_right]
theorem C7{B:Nat}(hB:0<B){V W:Nat}(h:W≤V)(k:Nat):(V/B^k%B+(B-1-W/B^k%B)+wV B V W k)%B=(V-W)/B^k%B:=by
 have hP:0<B^k:=Nat.pow_pos hB
 have hQ:0<B^(k+1):=Nat.pow_pos hB
 have e:=Gq hQ h
 have e2:V/B^k%B+(B-1-W/B^k%B)+wV B V W k=(V%B^(k+1)+B^(k+1)-W%B^(k+1))/B^k:=by
  rw[HM hB,Nat.add_mul_div_left _ _ hP,wV];omega
 rw[e2,←Nat.mod_mul_right_div_self,←Nat.mod_mul_right_div_self,←Nat.pow_succ,e]
end Go.Fw
namespace Go.Fw
theorem HN{B:Nat}(hB:0<B):∀(j N lo p d hi:Nat),lo<B^j→p<B→d<B→j<N→(dr B N (lo+B^j*(p+B*hi))).set j d=dr B N (lo+B^j*(d+B*hi))
 |0,N+1,lo,p,d,hi,hlo,hp,hd,_=>by
  have:lo=0:=by simpa using hlo
  subst this
  simp only[Nat.pow_zero,Nat.zero_add,Nat.one_mul,dr,List.set_cons_zero,Nat.add_mul_mod_self_left,Nat.mod_eq_of_lt hd]
  rw[Nat.add_mul_div_left _ _ hB,Nat.add_mul_div_left _ _ hB,Nat.div_eq_of_lt hp,Nat.div_eq_of_lt hd]
 |j+1,N+1,lo,p,d,hi,hlo,hp,hd,hN=>by
  have e:∀q,(lo+B^(j+1)*(q+B*hi))%B=lo%B:=fun q=>by
   rw[Nat.pow_succ,Nat.mul_comm (B^j) B,Nat.mul_assoc,Nat.add_mul_mod_self_left]
  have e2:∀q,(lo+B^(j+1)*(q+B*hi))/B=lo/B+B^j*(q+B*hi):=fun q=>by
   rw[Nat.pow_succ,Nat.mul_comm (B^j) B,Nat.mul_assoc,Nat.add_mul_div_left _ _ hB]
  have afT:lo/B<B^j:=by rw[Nat.div_lt_iff_lt_mul hB];rwa[Nat.pow_succ]at hlo
  rw[dr,dr,List.set_cons_succ,e,e,e2,e2,HN hB j N (lo/B) p d hi afT hp hd (by omega)]
theorem sB{B:Nat}(hB:0<B){N j u u' d:Nat}(hj:j<N)(hd:d<B)(hlo:u'%B^j=u%B^j)(Gr:u'/B^j%B=d)(hhi:u'/B^(j+1)=u/B^(j+1)):(dr B N u).set j d=dr B N u':=by
 have hP:0<B^j:=Nat.pow_pos hB
 have f:∀u,u=u%B^j+B^j*(u/B^j%B+B*(u/B^(j+1))):=fun u=>by
  have e1:=Nat.mod_add_div u (B^j)
  have e2:=I5 B u j
  rw[Nat.add_comm]at e2
  rw[←e2,e1]
 rw[f u,HN hB j N _ _ d _ (Nat.mod_lt _ hP) (Nat.mod_lt _ hB) hd hj]
 conv=>rhs;rw[f u',hlo,Gr,hhi]
where
 I5 (B v m:Nat):v/B^m=B*(v/B^(m+1))+v/B^m%B:=by
  rw[Nat.pow_succ,←Nat.div_div_eq_div_mul,Nat.div_add_mod]
def mT(B V W i k:Nat):Nat:=((V%B^i)*W)%B^(i+k)+B^i*(V/B^i%B)*(W%B^k)
def mC(B V W i k:Nat):Nat:=mT B V W i k/B^(i+k)
def mV(B V W i k:Nat):Nat:=mT B V W i k%B^(i+k)+B^(i+k)*(((V%B^i)*W)/B^(i+k))
theorem Qy{B:Nat}(hB:0<B)(V W i k:Nat):mT B V W i k<B^(i+k)*B:=by
 have h1:((V%B^i)*W)%B^(i+k)<B^(i+k):=Nat.mod_lt _ (Nat.pow_pos hB)
 have h2:V/B^i%B<B:=Nat.mod_lt _ hB
 have h3:W%B^k<B^k:=Nat.mod_lt _ (Nat.pow_pos hB)
 have h4:B^i*(V/B^i%B)*(W%B^k)≤B^i*(B-1)*B^k:=Nat.mul_le_mul (Nat.mul_le_mul_left _ (by omega)) (Nat.le_of_lt h3)
 have h5:B^i*(B-1)*B^k=B^(i+k)*(B-1):=by rw[Nat.pow_add,Nat.mul_assoc,Nat.mul_assoc,Nat.mul_comm (B-1)]
 have h6:B^(i+k)*B=B^(i+k)*(B-1)+B^(i+k):=by
  obtain⟨b,rfl⟩:∃b,B=b+1:=⟨B-1,by omega⟩
  rw[Nat.add_sub_cancel,Nat.mul_add,Nat.mul_one]
 unfold mT
 omega
theorem Qz{B:Nat}(hB:0<B)(V W i k:Nat):mC B V W i k<B:=by
 rw[mC,Nat.div_lt_iff_lt_mul (Nat.pow_pos hB),Nat.mul_comm];exact Qy hB V W i k
theorem C8{B:Nat}(V W i k:Nat):mT B V W i (k+1)=mT B V W i k+B^(i+k)*(((V%B^i)*W)/B^(i+k)%B+(V/B^i%B)*(W/B^k%B)):=by
 have e1:((V%B^i)*W)%B^(i+(k+1))=((V%B^i)*W)%B^(i+k)+B^(i+k)*(((V%B^i)*W)/B^(i+k)%B):=by rw[←Nat.add_assoc,fC]
 have e2:W%B^(k+1)=W%B^k+B^k*(W/B^k%B):=fC B W k
 unfold mT
 rw[e1,e2,Nat.mul_add,Nat.mul_add (B^(i+k))]
 have e3:B^i*(V/B^i%B)*(B^k*(W/B^k%B))=B^(i+k)*((V/B^i%B)*(W/B^k%B)):=by
  rw[Nat.pow_add,Nat.mul_assoc,Nat.mul_assoc,Nat.mul_left_comm (V/B^i%B)]
 omega
theorem N3{B:Nat}(hB:0<B)(V W i k:Nat):(((V%B^i)*W)/B^(i+k)%B+(V/B^i%B)*(W/B^k%B)+mC B V W i k)/B=mC B V W i (k+1):=by
 have hP:0<B^(i+k):=Nat.pow_pos hB
 rw[mC,mC,C8,←Nat.add_assoc,Nat.pow_succ,←Nat.div_div_eq_div_mul,Nat.add_mul_div_left _ _ hP]
 congr 1;omega
theorem QA{B:Nat}(V W i k:Nat):mV B V W i k%B^(i+k)=mT B V W i k%B^(i+k):=by
 rw[mV,Nat.add_mul_mod_self_left,Nat.mod_mod]
theorem HO{B:Nat}(hB:0<B)(V W i k:Nat):mV B V W i k/B^(i+k)=((V%B^i)*W)/B^(i+k):=by
 have hP:0<B^(i+k):=Nat.pow_pos hB
 rw[mV,Nat.add_mul_div_left _ _ hP,Nat.div_eq_of_lt (Nat.mod_lt _ hP),Nat.zero_add]
theorem Tt{B:Nat}(hB:0<B){V W i k N:Nat}(h:i+k<N):(dr B N (mV B V W i k))[i+k]? =some (((V%B^i)*W)/B^(i+k)%B):=by
 rw[vG _ _ _ h,HO hB]
theorem N4{B:Nat}(hB:0<B){V W i k N:Nat}(h:i+k<N):
  (dr B N (mV B V W i k)).set (i+k) ((((V%B^i)*W)/B^(i+k)%B+(V/B^i%B)*(W/B^k%B)+mC B V W i k)%B)=dr B N (mV B V W i (k+1)):=by
 have hP:0<B^(i+k):=Nat.pow_pos hB
 have hPB:B^(i+(k+1))=B^(i+k)*B:=by rw[←Nat.add_assoc,Nat.pow_succ]
 have hs:mT B V W i (k+1)/B^(i+k)=((V%B^i)*W)/B^(i+k)%B+(V/B^i%B)*(W/B^k%B)+mC B V W i k:=by
  rw[C8,Nat.add_mul_div_left _ _ hP,mC];omega
 have ht:mT B V W i (k+1)%B^(i+k)=mT B V W i k%B^(i+k):=by rw[C8,Nat.add_mul_mod_self_left]
 refine sB hB h (Nat.mod_lt _ hB) ?_ ?_ ?_
 ·rw[QA,←ht,mV,hPB,Nat.mul_assoc,Nat.add_mul_mod_self_left,Nat.mod_mul_right_mod]
 ·rw[mV,hPB,Nat.mul_assoc,Nat.add_mul_div_left _ _ hP,Nat.add_mul_mod_self_left,Nat.mod_mul_right_div_self,Nat.mod_mod,hs]
 ·rw[show i+k+1=i+(k+1) by omega,HO hB,show i+(k+1)=i+k+1 by omega,Nat.pow_succ,←Nat.div_div_eq_div_mul,←Nat.div_div_eq_div_mul,HO hB]
theorem N5{B:Nat}(V W i:Nat):mV B V W i 0=(V%B^i)*W:=by
 rw[mV,mT,Nat.pow_zero,Nat.mod_one,Nat.mul_zero,Nat.add_zero,Nat.add_zero,Nat.mod_mod,Nat.mod_add_div]
theorem N6{B:Nat}(hB:0<B)(V W i:Nat):mC B V W i 0=0:=by
 rw[mC,mT,Nat.pow_zero,Nat.mod_one,Nat.mul_zero,Nat.add_zero,Nat.add_zero]
 exact Nat.div_eq_of_lt (Nat.mod_lt _ (Nat.pow_pos hB))
theorem Tu{B:Nat}(hB:0<B){V W i n N:Nat}(hW:W<B^n)(h:i+n<N):(dr B N (mV B V W i n)).set (i+n) ((0+mC B V W i n)%B)=dr B N ((V%B^(i+1))*W):=by
 have hP:0<B^(i+n):=Nat.pow_pos hB
 have hp:(V%B^i)*W<B^(i+n):=by
  have h1:V%B^i<B^i:=Nat.mod_lt _ (Nat.pow_pos hB)
  rw[Nat.pow_add]
  by_cases h0:W=0
  ·subst h0;rw[Nat.mul_zero];exact Nat.mul_pos (Nat.pow_pos hB) (Nat.pow_pos hB)
  ·calc (V%B^i)*W<B^i*W:=Nat.mul_lt_mul_of_pos_right h1 (by omega)
    _≤B^i*B^n:=Nat.mul_le_mul_left _ (Nat.le_of_lt hW)
 have hT:mT B V W i n=(V%B^(i+1))*W:=by
  rw[mT,Nat.mod_eq_of_lt hp,Nat.mod_eq_of_lt hW,fC,Nat.add_mul]
 have hlt:=Qy hB V W i n
 rw[hT]at hlt
 refine sB hB h (Nat.mod_lt _ hB) ?_ ?_ ?_
 ·rw[QA,hT]
 ·rw[Nat.zero_add,mC,hT]
 ·rw[Nat.pow_succ B (i+n),Nat.div_eq_of_lt hlt,←Nat.div_div_eq_div_mul,HO hB,Nat.div_eq_of_lt hp,Nat.zero_div]
def sT(B V f e i:Nat):Nat:=V%B^i*f+e
def sC(B V f e i:Nat):Nat:=sT B V f e i/B^i
theorem C9(B V f e:Nat):sC B V f e 0=e:=by simp[sC,sT,Nat.mod_one]
theorem HP(B V f e i:Nat):sT B V f e (i+1)=sT B V f e i+B^i*(V/B^i%B*f):=by
 unfold sT
 rw[fC,Nat.add_mul,Nat.mul_assoc];omega
theorem Da{B:Nat}(hB:0<B)(V f e i:Nat):(V/B^i%B*f+sC B V f e i)/B=sC B V f e (i+1):=by
 have hP:0<B^i:=Nat.pow_pos hB
 rw[sC,sC,HP,Nat.pow_succ,←Nat.div_div_eq_div_mul,Nat.add_mul_div_left _ _ hP]
 congr 1;omega
theorem Gs{B:Nat}(hB:0<B)(V f e i:Nat):(V/B^i%B*f+sC B V f e i)%B=(V*f+e)/B^i%B:=by
 have hP:0<B^i:=Nat.pow_pos hB
 have h1:V*f+e=sT B V f e (i+1)+B^i*(B*(V/B^(i+1)*f)):=by
  have e1:=Nat.mod_add_div V (B^(i+1))
  unfold sT
  conv=>lhs;rw[←e1,Nat.add_mul]
  rw[Nat.pow_succ,Nat.mul_assoc,Nat.mul_assoc];omega
 rw[h1,Nat.add_mul_div_left _ _ hP,Nat.add_mul_mod_self_left,HP,Nat.add_mul_div_left _ _ hP,sC,Nat.add_comm]
theorem L2{B:Nat}(hB:0<B){V f e:Nat}(hf:f<B)(he:e<B)(i:Nat):sC B V f e i<B:=by
 have hP:0<B^i:=Nat.pow_pos hB
 rw[sC,Nat.div_lt_iff_lt_mul hP]
 have h1:V%B^i≤B^i-1:=by have:=Nat.mod_lt V hP;omega
 have h2:V%B^i*f≤(B^i-1)*(B-1):=Nat.mul_le_mul h1 (by omega)
 obtain⟨p,hp⟩:∃p,B^i=p+1:=⟨B^i-1,by omega⟩
 obtain⟨b,rfl⟩:∃b,B=b+1:=⟨B-1,by omega⟩
 unfold sT
 rw[hp]at h2⊢
 rw[Nat.add_sub_cancel,Nat.add_sub_cancel]at h2
 have h3:(b+1)*(p+1)=p*b+b+p+1:=by rw[Nat.add_mul,Nat.mul_add,Nat.mul_comm b p];omega
 omega
theorem Gt{B V f e i:Nat}(h:V<B^i):sC B V f e i=(V*f+e)/B^i:=by rw[sC,sT,Nat.mod_eq_of_lt h]
def sU(B V f e i:Nat):Nat:=sT B V f e i%B^i+B^i*(V/B^i)
def qU(B V d n:Nat):Nat:=V%B^n+B^n*(V/B^n/d)
theorem N7(B V d:Nat):qU B V d 0=V/d:=by simp[qU,Nat.mod_one]
theorem Tv{B V d n:Nat}(h:V<B^n):qU B V d n=V:=by simp[qU,Nat.mod_eq_of_lt h,Nat.div_eq_of_lt h]
theorem N8(B V m:Nat):V/B^m=B*(V/B^(m+1))+V/B^m%B:=by rw[Nat.pow_succ,←Nat.div_div_eq_div_mul,Nat.div_add_mod]
theorem QB{B d:Nat}(V m:Nat):V/B^m=(V/B^(m+1)%d*B+V/B^m%B)+d*(B*(V/B^(m+1)/d)):=by
 have h1:=N8 B V m
 have h2:=Nat.mod_add_div (V/B^(m+1)) d
 generalize V/B^(m+1)=q at*
 generalize V/B^m%B=y at*
 rw[h1]
 conv=>lhs;rw[←h2]
 rw[Nat.mul_add,Nat.mul_left_comm B d,Nat.mul_comm B (q%d)];omega
theorem QC{B d:Nat}(hd:0<d)(V m:Nat):V/B^m/d=B*(V/B^(m+1)/d)+(V/B^(m+1)%d*B+V/B^m%B)/d:=by
 conv=>lhs;rw[QB (B:=B) (d:=d) V m]
 rw[Nat.add_mul_div_left _ _ hd,Nat.add_comm]
theorem L3{B d:Nat}(V m:Nat):V/B^m%d=(V/B^(m+1)%d*B+V/B^m%B)%d:=by
 conv=>lhs;rw[QB (B:=B) (d:=d) V m]
 rw[Nat.add_mul_mod_self_left]
theorem N9{B d:Nat}(hB:0<B)(hd:0<d)(V m:Nat):V/B^(m+1)%d*B+V/B^m%B<d*B:=by
 have h1:=Nat.mod_lt (V/B^(m+1)) hd
 have h2:=Nat.mod_lt (V/B^m) hB
 have h3:(V/B^(m+1)%d+1)*B≤d*B:=Nat.mul_le_mul_right _ h1
 rw[Nat.add_mul]at h3;omega
theorem L4{B:Nat}(hB:0<B)(V d n:Nat):qU B V d n/B^n=V/B^n/d:=by
 have hP:0<B^n:=Nat.pow_pos hB
 rw[qU,Nat.add_mul_div_left _ _ hP,Nat.div_eq_of_lt (Nat.mod_lt _ hP),Nat.zero_add]
theorem ZW(B V d n:Nat):qU B V d n%B^n=V%B^n:=by rw[qU,Nat.add_mul_mod_self_left,Nat.mod_mod]
theorem Oa{B:Nat}(V d m:Nat):qU B V d (m+1)%B^m=V%B^m:=by
 rw[qU,Nat.pow_succ,Nat.mul_assoc,Nat.add_mul_mod_self_left,Nat.mod_mul_right_mod]
theorem Tw{B:Nat}(hB:0<B){V d m N:Nat}(h:m<N):(dr B N (qU B V d (m+1)))[m]? =some (V/B^m%B):=by
 have hP:0<B^m:=Nat.pow_pos hB
 rw[vG _ _ _ h,qU,Nat.pow_succ,Nat.mul_assoc,Nat.add_mul_div_left _ _ hP,Nat.add_mul_mod_self_left,Nat.mod_mul_right_div_self,Nat.mod_mod]
theorem Ob{B:Nat}(hB:0<B){V d m N:Nat}(hd:0<d)(h:m<N):(dr B N (qU B V d (m+1))).set m ((V/B^(m+1)%d*B+V/B^m%B)/d)=dr B N (qU B V d m):=by
 have hx:(V/B^(m+1)%d*B+V/B^m%B)/d<B:=by rw[Nat.div_lt_iff_lt_mul hd,Nat.mul_comm B d];exact N9 hB hd V m
 have hq:=QC (B:=B) hd V m
 refine sB hB h hx ?_ ?_ ?_
 ·rw[ZW,Oa]
 ·rw[L4 hB,hq,Nat.mul_add_mod,Nat.mod_eq_of_lt hx]
 ·rw[L4 hB,Nat.pow_succ,←Nat.div_div_eq_div_mul,L4 hB,hq,Nat.mul_add_div hB,Nat.div_eq_of_lt hx,←Nat.pow_succ];rfl
end Go.Fw
namespace Go.Fw
theorem Od{B v:Nat}(hB:2≤B)(h0:v≠0)(h:v<B):can B v=[v]:=by
 have:=L1 hB (l:=[]) h0 (by simpa using h)
 simpa[val]using this.symm
theorem Oe{B v:Nat}(hB:2≤B)(h0:v/B≠0)(h:v<B*B):can B v=[v%B,v/B]:=by
 have h1:v/B<B:=by rw[Nat.div_lt_iff_lt_mul (by omega)];exact h
 have h2:v%B<B:=Nat.mod_lt _ (by omega)
 have:=L1 hB (l:=[v%B]) h0 (by simp;exact⟨h2,h1⟩)
 simp only[List.cons_append,List.nil_append,val,Nat.mul_zero,Nat.add_zero]at this
 rw[Nat.mod_add_div]at this
 exact this.symm
theorem ju{B:Nat}{l:List Nat}(h:∀x∈l,x<B){i:Nat}(hi:i<l.length):l[i]? =some (val B l/B^i%B):=by
 rw[←o9 l h i];simp[List.getD,hi]
def ur(v w:Nat):Int:=if v<w then-1 else if v=w then 0 else 1
theorem n6{v w:Nat}(h:v<w):ur v w=-1:=by simp[ur,h]
theorem sD(v:Nat):ur v v=0:=by simp[ur]
theorem qh{v w:Nat}(h:w<v):ur v w=1:=by
 have h1:¬v<w:=by omega
 have h2:¬v=w:=by omega
 simp[ur,h1,h2]
theorem uu{B v w:Nat}(hB:2≤B)(h:(can B v).length<(can B w).length):v<w:=
 Nat.lt_of_lt_of_le (bp hB v) (oD hB h)
theorem vI(B v m:Nat):v/B^m=B*(v/B^(m+1))+v/B^m%B:=by
 rw[Nat.pow_succ,←Nat.div_div_eq_div_mul,Nat.div_add_mod]
theorem BH{B v w m:Nat}(h:v/B^m<w/B^m):v<w:=by
 rcases Nat.lt_or_ge v w with h1|h1
 ·exact h1
 ·have:=Nat.div_le_div_right (c:=B^m) h1;omega
theorem BI{B v w m:Nat}(h:v/B^(m+1)=w/B^(m+1)):(v/B^m%B=w/B^m%B∧v/B^m=w/B^m)∨(v/B^m%B<w/B^m%B∧v<w)∨(w/B^m%B<v/B^m%B∧w<v):=by
 have h1:=vI B v m
 have h2:=vI B w m
 rw[←h]at h2
 rcases Nat.lt_trichotomy (v/B^m%B) (w/B^m%B)with h3|h3|h3
 ·exact .inr (.inl ⟨h3,BH (B:=B) (m:=m) (by omega)⟩)
 ·exact .inl ⟨h3,by omega⟩
 ·exact .inr (.inr ⟨h3,BH (B:=B) (m:=m) (by omega)⟩)
end Go.Fw
namespace Go.Proofs.YtmiflmkdaeianaaGreat
open Go.Fw
theorem yx(l:List Nat)(hl:l.length≤1000000000000):az l=some (iI l):=by
 unfold az
 refine eX (fun y=>y.length≤1000000000000∧iI y=iI l) (fun e=>e=iI l) (fun y=>y.length) ?_ ⟨hl,rfl⟩ (fun e he=>by rw[he])
 rintro y ⟨hy,ht⟩
 rcases uo y with rfl|⟨ys,rfl⟩|⟨ys,x,hx,rfl⟩
 ·right;exact⟨[],by simp[bM],ht⟩
 ·left
  have h1:((ys++[0]).length:Int)=((ys.length+1:Nat):Int):=by simp
  have h2:ys.length≤9223372036854775807:=by simp at hy;omega
  refine⟨ys,?_,⟨by simp at hy⊢;omega,by rw[←ht,nB]⟩,by simp⟩
  simp only[bM,Option.bind_some,h1,z8 h2]
  rw[aF (a:=0) (by simp),wS (by simp)]
  simp
 ·right
  have h1:((ys++[x]).length:Int)=((ys.length+1:Nat):Int):=by simp
  have h2:ys.length≤9223372036854775807:=by simp at hy;omega
  refine⟨ys++[x],?_,by rw[←ht,qg _ hx]⟩
  simp only[bM,Option.bind_some,h1,z8 h2]
  rw[aF (a:=x) (by simp)]
  simp[hx]
def zc(n:Bool)(v:Nat):Zr:=⟨n&&v != 0,can 4294967296 v⟩
theorem HQ(n:Bool):zc n 0=⟨false,[]⟩:=by simp[zc,nC]
theorem L5(n:Bool){v:Nat}(h:v≠0):zc n v=⟨n,can 4294967296 v⟩:=by simp[zc,h]
def Db(l:List Nat):Prop:=(∀x∈l,x<4294967296)∧l.length≤100000000000
abbrev vl(l:List Nat):Nat:=val 4294967296 l
theorem jm(n:Bool)(l:List Nat)(h:Db l):bj n l=some (zc n (vl l)):=by
 unfold bj
 rw[yx l (by have:=h.2;omega),iJ (by decide) h.1]
 show _=some (zc n (val 4294967296 l))
 by_cases hz:val 4294967296 l=0
 ·rw[hz,HQ];simp[nC]
 ·have:can 4294967296 (val 4294967296 l)≠[]:=fun e=>hz (vH (by decide) e)
  rw[L5 _ hz];simp[this]
theorem pg(n:Bool)(v:Nat)(h:v<18446744073709551616):cP n v=some (zc n v):=by
 unfold cP
 by_cases hz:v=0
 ·subst hz;simp[HQ]
 ·rw[L5 _ hz]
  by_cases h1:v/2^32=0
  ·rw[Od (by decide) hz (by omega)]
   simp only[Option.bind_some,hz,h1,decide_false,decide_true,cond_false,cond_true]
   rw[Nat.mod_eq_of_lt (by omega)]
  ·rw[Oe (by decide) (by omega) (by omega)]
   simp only[Option.bind_some,hz,h1,decide_false,cond_false]
   rw[Nat.mod_eq_of_lt (a:=v/2^32) (by omega)]
theorem L6{a b s:Nat}(h:a<2^s):a ||| b*2^s=a+b*2^s:=by
 rw[Nat.or_comm,Nat.mul_comm b,←Nat.two_pow_add_eq_or_of_lt h,Nat.add_comm]
theorem low_eq(l:List Nat)(h:∀x∈l,x<4294967296)(hl:l.length≤2):cL l=some (vl l):=by
 rcases l with _|⟨x,_|⟨y,_|⟨z,l⟩⟩⟩
 ·simp[cL,vl,val]
 ·have hx:=h x (by simp)
  simp only[cL,o6 (l:=[x]) (a:=x) rfl]
  simp[vl,val];omega
 ·have hx:=h x (by simp)
  have hy:=h y (by simp)
  simp only[cL,o6 (l:=[x,y]) (a:=x) rfl,EA (l:=[x,y]) (a:=y) rfl,Option.bind_some]
  rw[Nat.mod_eq_of_lt (a:=x) (by omega),Nat.mod_eq_of_lt (a:=y) (by omega),Nat.mod_eq_of_lt (a:=y*2^32) (by omega),L6 (by omega),Nat.mod_eq_of_lt (by omega)]
  simp[vl,val];omega
 ·simp at hl
theorem fI(x c:Nat)(h:x+c<18446744073709551616):aV x c=some ((x+c)%4294967296,(x+c)/4294967296):=by
 simp[aV,Nat.mod_eq_of_lt h]
theorem jv(v w:Nat)(hv:(can 4294967296 v).length≤100000000000)(hw:(can 4294967296 w).length≤100000000000):bX (can 4294967296 v) (can 4294967296 w)=some (ur v w):=by
 unfold bX
 rcases Nat.lt_trichotomy (can 4294967296 v).length (can 4294967296 w).length with hl|hl|hl
 ·rw[n6 (uu (by decide) hl)]
  simp only[Option.bind_some]
  rw[show decide (((can 4294967296 v).length:Int)≠((can 4294967296 w).length:Int))=true by simp;omega,show decide (((can 4294967296 v).length:Int)<((can 4294967296 w).length:Int))=true by simp;omega];rfl
 ·simp only[Option.bind_some]
  rw[show decide (((can 4294967296 v).length:Int)≠((can 4294967296 w).length:Int))=false by simp;omega,cond_false]
  refine eX (fun y=>∃n:Nat,y=(n:Int)-1∧n≤(can 4294967296 v).length∧v/4294967296^n=w/4294967296^n) (fun e=>e=(if v=w then .inl ()else .inr (ur v w))) (fun y=>(y+1).toNat) ?_ ⟨(can 4294967296 v).length,?_,Nat.le_refl _,?_⟩ ?_
  ·rintro y ⟨n,rfl,hn,he⟩
   cases n with
   |zero=>
    right
    have:v=w:=by simpa using he
    subst this
    exact⟨_,by simp,rfl⟩
   |succ m=>
    have Dr:=sy (B:=4294967296) (by decide) (v:=v) (j:=m) (by omega)
    have ZX:=sy (B:=4294967296) (by decide) (v:=w) (j:=m) (by omega)
    have e0:((m+1:Nat):Int)-1=(m:Int):=by omega
    rw[e0]
    rcases BI he with⟨h1,h2⟩|⟨h1,h2⟩|⟨h1,h2⟩
    ·left
     refine⟨(m:Int)-1,?_,⟨m,rfl,by omega,h2⟩,by omega⟩
     simp only[Option.bind_some,aF Dr,aF ZX,h1]
     rw[b7 (by omega) (by omega)]
     simp
    ·right
     refine⟨.inr (-1),?_,by rw[if_neg (by omega),n6 h2]⟩
     simp only[Option.bind_some,aF Dr,aF ZX]
     simp[h1,Nat.ne_of_lt h1]
    ·right
     refine⟨.inr 1,?_,by rw[if_neg (by omega),qh h2]⟩
     simp only[Option.bind_some,aF Dr,aF ZX]
     simp[Nat.not_lt_of_lt h1,Nat.ne_of_gt h1]
  ·rw[b7 (by omega) (by omega)]
  ·rw[Ab (by decide) (Nat.le_refl _),Ab (by decide) (by omega)]
  ·rintro e rfl
   by_cases h:v=w
   ·subst h;simp[sD]
   ·simp[h]
 ·rw[qh (uu (by decide) hl)]
  simp only[Option.bind_some]
  rw[show decide (((can 4294967296 v).length:Int)≠((can 4294967296 w).length:Int))=true by simp;omega,show decide (((can 4294967296 v).length:Int)<((can 4294967296 w).length:Int))=false by simp;omega];rfl
theorem yy{l:List Nat}(h:∀x∈l,x<4294967296)(i:Nat):l.getD i 0<4294967296:=by
 rcases Nat.lt_or_ge i l.length with hi|hi
 ·exact h _ (List.mem_of_getElem? (q9 hi))
 ·rw[tv hi];decide
theorem xD(a b:List Nat)(ha:Db a)(hb:Db b):cC a b=some (dr 4294967296 (max a.length b.length+1) (vl a+vl b)):=by
 obtain⟨hA,hla⟩:=ha
 obtain⟨hB,hlb⟩:=hb
 have hV:val 4294967296 a<4294967296^(max a.length b.length):=Nat.lt_of_lt_of_le (ew a hA) (Nat.pow_le_pow_right (by decide) (by omega))
 have hW:val 4294967296 b<4294967296^(max a.length b.length):=Nat.lt_of_lt_of_le (ew b hB) (Nat.pow_le_pow_right (by decide) (by omega))
 unfold cC
 simp only[Option.bind_some]
 rw[show max (a.length:Int) (b.length:Int)=((max a.length b.length:Nat):Int) by omega,bh (by omega),Gn (by decide) (by omega),Option.bind_some]
 refine z9 (fun k=>(yu 4294967296 (vl a) (vl b) k,dr 4294967296 k (vl a+vl b))) (by simp[Af,dr]) (fun k hk=>?_) ?_
 ·have hx:=yy hA k
  have hy:=yy hB k
  have hc:=Ad (B:=4294967296) (by decide) (vl a) (vl b) k
  have hxe:=o9 a hA k
  have hye:=o9 b hB k
  simp only[Option.bind_some]
  rw[Nat.mod_eq_of_lt (a:=a.getD k 0) (by omega),Nat.mod_eq_of_lt (a:=b.getD k 0) (by omega),Nat.mod_eq_of_lt (a:=a.getD k 0+b.getD k 0) (by omega),fI _ _ (by omega)]
  simp only[Option.bind_some]
  rw[vE (by decide) (by rw[aJ];omega),Option.bind_some,hxe,hye,Ae (by decide),yw (by decide),←gi]
 ·have hc:=Ad (B:=4294967296) (by decide) (vl a) (vl b) (max a.length b.length)
  simp only
  rw[fI _ _ (by omega)]
  simp only[Option.bind_some]
  rw[vE (by decide) (by rw[aJ];omega),Option.bind_some,Nat.zero_add,C6 hV hW,←gi]
theorem xE(a b:List Nat)(ha:Db a)(hb:Db b)(hl:b.length≤a.length)(hle:vl b≤vl a):bR a b=some (dr 4294967296 a.length (vl a-vl b)):=by
 obtain⟨hA,hla⟩:=ha
 obtain⟨hB,hlb⟩:=hb
 have hmx:max a.length b.length=a.length:=by omega
 unfold bR
 simp only[Option.bind_some]
 rw[Gn (by decide) (by omega),Option.bind_some,hmx]
 refine z9 (fun k=>(wV 4294967296 (vl a) (vl b) k,dr 4294967296 k (vl a-vl b))) (by simp[Ag,dr]) (fun k hk=>?_) rfl
 have hx:=yy hA k
 have hy:=yy hB k
 have hc:=Gp (B:=4294967296) (by decide) (vl a) (vl b) k
 have hxe:=o9 a hA k
 have hye:=o9 b hB k
 simp only[Option.bind_some]
 rw[Nat.mod_eq_of_lt (a:=a.getD k 0) (by omega),Nat.mod_eq_of_lt (a:=b.getD k 0) (by omega),qe (by omega) (by omega),Nat.mod_eq_of_lt (a:=a.getD k 0+(4294967295-b.getD k 0)) (by omega),fI _ _ (by omega)]
 simp only[Option.bind_some]
 rw[vE (by decide) (by rw[aJ];omega),Option.bind_some,hxe,hye,Ah (B:=4294967296) (by decide),C7 (B:=4294967296) (by decide) hle,←gi]
theorem EC(a b:List Nat)(ha:Db a)(hb:Db b):eH a b=some (dr 4294967296 (a.length+b.length) (vl a*vl b)):=by
 obtain⟨hA,hla⟩:=ha
 obtain⟨hB,hlb⟩:=hb
 unfold eH
 simp only[Option.bind_some]
 rw[ku (by omega),rW (by decide) (by omega),Option.bind_some]
 refine aU (fun i=>((i:Int),dr 4294967296 (a.length+b.length) (vl a%4294967296^i*vl b))) a.length (dr 4294967296 (a.length+b.length) (vl a%4294967296^a.length*vl b)) (by simp[Nat.mod_one,o8]) (fun i hi=>?_) (by simp) (by rw[Nat.mod_eq_of_lt (ew a hA)])
 have hgx:=ju hA hi
 have hx:val 4294967296 a/4294967296^i%4294967296<4294967296:=Nat.mod_lt _ (by decide)
 simp only[Option.bind_some,show decide ((i:Int)<(a.length:Int))=true by simp;omega,cond_true]
 rw[aF hgx,Option.bind_some]
 refine aU (fun k=>((k:Int),mC 4294967296 (vl a) (vl b) i k,dr 4294967296 (a.length+b.length) (mV 4294967296 (vl a) (vl b) i k))) b.length (mC 4294967296 (vl a) (vl b) i b.length,dr 4294967296 (a.length+b.length) (mV 4294967296 (vl a) (vl b) i b.length)) (by simp[N6,N5]) (fun k hk=>?_) (by simp) ?_
 ·have hgy:=ju hB hk
  have hgp:=Tt (B:=4294967296) (by decide) (V:=vl a) (W:=vl b) (i:=i) (k:=k) (N:=a.length+b.length) (by omega)
  have hy:val 4294967296 b/4294967296^k%4294967296<4294967296:=Nat.mod_lt _ (by decide)
  have hp:vl a%4294967296^i*vl b/4294967296^(i+k)%4294967296<4294967296:=Nat.mod_lt _ (by decide)
  have hc:=Qz (B:=4294967296) (by decide) (vl a) (vl b) i k
  have hxy:val 4294967296 a/4294967296^i%4294967296*(val 4294967296 b/4294967296^k%4294967296)≤4294967295*4294967295:=Nat.mul_le_mul (by omega) (by omega)
  simp only[Option.bind_some,show decide ((k:Int)<(b.length:Int))=true by simp;omega,cond_true]
  rw[aF hgy,Option.bind_some,ku (by omega),cU (by rw[aJ];omega),Option.bind_some,hgp,Option.bind_some]
  rw[Nat.mod_eq_of_lt (a:=vl a%4294967296^i*vl b/4294967296^(i+k)%4294967296) (by omega),Nat.mod_eq_of_lt (a:=val 4294967296 a/4294967296^i%4294967296) (b:=18446744073709551616) (by omega),Nat.mod_eq_of_lt (a:=val 4294967296 b/4294967296^k%4294967296) (b:=18446744073709551616) (by omega),Nat.mod_eq_of_lt (a:=val 4294967296 a/4294967296^i%4294967296*(val 4294967296 b/4294967296^k%4294967296)) (by omega),Nat.mod_eq_of_lt (a:=vl a%4294967296^i*vl b/4294967296^(i+k)%4294967296+_) (by omega),fI _ _ (by omega)]
  simp only[Option.bind_some]
  rw[iH (by rw[aJ];omega),Option.bind_some,N3 (B:=4294967296) (by decide),N4 (B:=4294967296) (by decide) (by omega),bh (by omega)]
 ·have hc:=Qz (B:=4294967296) (by decide) (vl a) (vl b) i b.length
  simp only[Option.bind_some]
  rw[ku (by omega),fI _ _ (by omega)]
  simp only[Option.bind_some]
  rw[cU (by rw[aJ];omega),Option.bind_some,iH (by rw[aJ];omega),Option.bind_some,Tu (B:=4294967296) (by decide) (ew b hB) (by omega),bh (by omega)]
end Go.Proofs.YtmiflmkdaeianaaGreat
namespace Go.Proofs.YtmiflmkdaeianaaGreat
open Go.Fw
theorem Of{a b s:Nat}(h:a<2^s):b*2^s ||| a=b*2^s+a:=by rw[Nat.or_comm,L6 h,Nat.add_comm]
theorem HR{a b:Nat}(h:a<4294967296):b*4294967296 ||| a=b*4294967296+a:=Of (s:=32) h
theorem ED(a:List Nat)(d:Nat)(ha:Db a)(hd:0<d)(hd2:d≤4294967296):fW a d=some (vl a%d,dr 4294967296 a.length (vl a/d)):=by
 obtain⟨hA,hla⟩:=ha
 unfold fW
 simp only[Option.bind_some]
 rw[b7 (by omega) (by omega)]
 refine aU (fun i=>(vl a/4294967296^(a.length-i)%d,((a.length-i:Nat):Int)-1,dr 4294967296 a.length (qU 4294967296 (vl a) d (a.length-i)))) a.length (vl a%d,dr 4294967296 a.length (vl a/d)) ?_ (fun i hi=>?_) (by simp[N7]) ?_
 ·simp only[Nat.sub_zero]
  rw[Tv (ew a hA),yt a hA,Nat.div_eq_of_lt (ew a hA),Nat.zero_mod]
 ·obtain⟨m,hm⟩:∃m,a.length-i=m+1:=⟨a.length-i-1,by omega⟩
  have hm':a.length-(i+1)=m:=by omega
  have hml:m<a.length:=by omega
  rw[hm,hm']
  have hy:vl a/4294967296^m%4294967296<4294967296:=Nat.mod_lt _ (by decide)
  have hr:vl a/4294967296^(m+1)%d<d:=Nat.mod_lt _ hd
  have hq:=N9 (B:=4294967296) (by decide) hd (vl a) m
  have hqd:(vl a/4294967296^(m+1)%d*4294967296+vl a/4294967296^m%4294967296)/d<4294967296:=by rw[Nat.div_lt_iff_lt_mul hd,Nat.mul_comm 4294967296 d];exact hq
  have hg:=Tw (B:=4294967296) (by decide) (V:=vl a) (d:=d) (m:=m) (N:=a.length) hml
  have hlt:vl a/4294967296^(m+1)%d*4294967296+vl a/4294967296^m%4294967296<18446744073709551616:=by omega
  have Je:vl a/4294967296^(m+1)%d*4294967296<18446744073709551616:=Nat.lt_of_le_of_lt (Nat.le_add_right _ _) hlt
  have A9:vl a/4294967296^m%4294967296<18446744073709551616:=Nat.lt_of_le_of_lt (Nat.le_add_left _ _) hlt
  have hi1:((m+1:Nat):Int)-1=(m:Int):=by omega
  simp only[hi1,show decide ((0:Int)≤(m:Int))=true by simp,cond_true,Option.bind_some]
  rw[cU (by rw[aJ];omega),Option.bind_some,hg]
  simp only[Option.bind_some]
  rw[show(2:Nat)^32=4294967296 from rfl]
  rw[Nat.mod_eq_of_lt (a:=vl a/4294967296^(m+1)%d*4294967296) Je,Nat.mod_eq_of_lt (a:=vl a/4294967296^m%4294967296) (b:=18446744073709551616) A9,HR hy,Nat.mod_eq_of_lt (a:=vl a/4294967296^(m+1)%d*4294967296+vl a/4294967296^m%4294967296) hlt,C4 (by omega) hlt,yq (by omega)]
  simp only[Option.bind_some]
  rw[Nat.mod_eq_of_lt (b:=4294967296) (a:=(vl a/4294967296^(m+1)%d*4294967296+vl a/4294967296^m%4294967296)/d) hqd,iH (by rw[aJ];omega),Option.bind_some,b7 (by omega) (by omega)]
  rw[Ob (B:=4294967296) (by decide) hd hml,←L3 (B:=4294967296) (d:=d) (vl a) m]
 ·simp only
  rw[o7 (by rw[aJ]),Option.bind_some]
theorem shiftLeft_eq(a:List Nat)(s:Nat)(ha:Db a)(hs:s<32):dX a s=some (dr 4294967296 (a.length+1) (vl a*2^s)):=by
 obtain⟨hA,hla⟩:=ha
 have hf:2^s<4294967296:=by
  have:2^s<2^32:=Nat.pow_lt_pow_right (by decide) hs
  omega
 unfold dX
 simp only[Option.bind_some]
 rw[bh (by omega),Gn (by decide) (by omega),Option.bind_some]
 refine aU (fun i=>((i:Int),sC 4294967296 (vl a) (2^s) 0 i,dr 4294967296 i (vl a*2^s+0))) a.length (sC 4294967296 (vl a) (2^s) 0 a.length,dr 4294967296 a.length (vl a*2^s+0)) (by simp[C9,dr]) (fun i hi=>?_) (by simp) ?_
 ·have hx:vl a/4294967296^i%4294967296<4294967296:=Nat.mod_lt _ (by decide)
  have hc:=L2 (B:=4294967296) (by decide) (V:=vl a) hf (show(0:Nat)<4294967296 by decide) i
  have hxf:vl a/4294967296^i%4294967296*2^s≤4294967295*4294967295:=Nat.mul_le_mul (by omega) (by omega)
  have hg:a[i]? =some (vl a/4294967296^i%4294967296):=ju hA hi
  simp only[show decide ((i:Int)<(a.length:Int))=true by simp;omega,cond_true]
  rw[aF hg]
  simp only[Option.bind_some]
  rw[show min s 64=s by omega,Nat.mod_eq_of_lt (a:=vl a/4294967296^i%4294967296) (b:=18446744073709551616) (by omega),Nat.mod_eq_of_lt (b:=18446744073709551616) (by omega),fI _ _ (by omega)]
  simp only[Option.bind_some]
  rw[vE (by decide) (by rw[aJ];omega),Option.bind_some,Da (B:=4294967296) (by decide),Gs (B:=4294967296) (by decide),bh (by omega),←gi]
 ·have hc:=L2 (B:=4294967296) (by decide) (V:=vl a) hf (show(0:Nat)<4294967296 by decide) a.length
  simp only
  rw[fI _ _ (by omega)]
  simp only[Option.bind_some]
  rw[vE (by decide) (by rw[aJ];omega),Option.bind_some,Nat.zero_add,Gt (ew a hA),←gi]
  simp
theorem A0(a:List Nat)(s:Nat):gH a s=dX a s:=rfl
def uw:M1:=[0,1,2,2,3,3,3,3,4,4,4,4,4,4,4,4,5,5,5,5,5,5,5,5,5,5,5,5,5,5,5,5]++List.replicate 32 6++List.replicate 64 7++List.replicate 128 8
theorem Tx:∀y:Nat,y<256→sO uw (y:Int)=some ((sO uw (y:Int)).getD 0)∧(sO uw (y:Int)).getD 0≤8∧y<2^(sO uw (y:Int)).getD 0∧(y=0∨2^(sO uw (y:Int)).getD 0≤2*y):=by decide+kernel
set_option maxRecDepth 20000 in
theorem L7(x:Nat)(h:x<4294967296):∃n:Nat,fe x=some (n:Int)∧n≤32∧x<2^n∧(x=0∨2^n≤2*x):=by
 have key:∀(y k:Nat),y<256→y=x/2^k→k≤24→(x≠0→y≠0)→∃n:Nat,(((sO uw ((y%256:Nat):Int)).bind fun ek=>(some (IntKind.i64.wrap (ek:Int))).bind fun dI=>(some (IntKind.i64.wrap ((k:Int)+dI))).bind fun dQ=>some dQ)=some (n:Int))∧n≤32∧x<2^n∧(x=0∨2^n≤2*x):=by
  intro y k hy hyx hk hnz
  obtain⟨h1,h2,h3,h4⟩:=Tx y hy
  rw[Nat.mod_eq_of_lt hy,h1]
  generalize (sO uw (y:Int)).getD 0=t at*
  have hp:0<2^k:=Nat.two_pow_pos _
  have e1:2^(k+t)=2^k*2^t:=Nat.pow_add ..
  have e2:=Nat.div_add_mod x (2^k)
  have e3:=Nat.mod_lt x hp
  rw[←hyx]at e2
  refine⟨k+t,?_,by omega,?_,?_⟩
  ·simp only[Option.bind_some]
   rw[eN (by omega),ku (by omega)]
  ·rw[e1]
   have:2^k*(y+1)≤2^k*2^t:=Nat.mul_le_mul_left _ h3
   rw[Nat.mul_add]at this
   omega
  ·rcases h4 with h4|h4
   ·left
    cases Nat.eq_zero_or_pos x with
    |inl h=>exact h
    |inr h=>exact absurd h4 (hnz (by omega))
   ·right
    rw[e1]
    have:2^k*2^t≤2^k*(2*y):=Nat.mul_le_mul_left _ h4
    rw[show 2^k*(2*y)=2*(2^k*y) by rw[Nat.mul_left_comm]]at this
    omega
 unfold fe
 simp only[bM,Option.bind_some]
 by_cases c1:65536≤x
 ·rw[show decide (65536≤x)=true by simpa using c1]
  simp only[cond_true]
  by_cases c2:256≤x/2^16
  ·rw[show decide (256≤x/2^16)=true by simpa using c2]
   simp only[cond_true]
   rw[show IntKind.i64.wrap (16+8)=((24:Nat):Int) by decide]
   exact key (x/2^16/2^8) 24 (by omega) (by omega) (by omega) (by omega)
  ·rw[show decide (256≤x/2^16)=false by simpa using c2]
   simp only[cond_false]
   exact key (x/2^16) 16 (by omega) rfl (by omega) (by omega)
 ·rw[show decide (65536≤x)=false by simpa using c1]
  simp only[cond_false]
  by_cases c2:256≤x
  ·rw[show decide (256≤x)=true by simpa using c2]
   simp only[cond_true]
   rw[show IntKind.i64.wrap (0+8)=((8:Nat):Int) by decide]
   exact key (x/2^8) 8 (by omega) rfl (by omega) (by omega)
  ·rw[show decide (256≤x)=false by simpa using c2]
   simp only[cond_false]
   exact key x 0 (by omega) (by simp) (by omega) (fun h=>h)
theorem ZY(x:Nat)(h:x<4294967296)(h0:x≠0):∃s:Nat,cr x=some (s:Int)∧s<32∧2147483648≤x*2^s∧x*2^s<4294967296:=by
 obtain⟨n,h1,h2,h3,h4⟩:=L7 x h
 have h4:2^n≤2*x:=h4.resolve_left h0
 have hn:n≠0:=by rintro rfl;simp at h3;omega
 refine⟨32-n,?_,by omega,?_,?_⟩
 ·unfold cr
  rw[h1]
  simp only[Option.bind_some]
  rw[b7 (by omega) (by omega)]
  congr 1;omega
 ·have:2^n*2^(32-n)≤2*x*2^(32-n):=Nat.mul_le_mul_right _ h4
  rw[←Nat.pow_add,show n+(32-n)=32 by omega,Nat.mul_assoc]at this
  omega
 ·have:x*2^(32-n)<2^n*2^(32-n):=Nat.mul_lt_mul_of_pos_right h3 (Nat.two_pow_pos _)
  rw[←Nat.pow_add,show n+(32-n)=32 by omega]at this
  omega
end Go.Proofs.YtmiflmkdaeianaaGreat
namespace Go.Fw
section ZZ
variable {B V U W:Nat}
theorem Ty{P F T:Nat}(hP:0<P)(hF:0<F)(hV:F*P≤V)(hU:U<(T+1)*P):U/V≤T/F:=by
 have Tz:0<V:=Nat.lt_of_lt_of_le (Nat.mul_pos hF hP) hV
 rw[Nat.le_div_iff_mul_le hF]
 rcases Nat.lt_or_ge T (U/V*F)with h|h
 ·exfalso
  have h1:U/V*V≤U:=Nat.div_mul_le_self U V
  have h2:U/V*(F*P)≤U/V*V:=Nat.mul_le_mul_left _ hV
  have h3:(T+1)*P≤U/V*F*P:=Nat.mul_le_mul_right _ h
  rw[Nat.mul_assoc]at h3
  omega
 ·exact h
theorem Og{P F S T u g r:Nat}(hV:(F*B+S)*P≤V)(hU:U<(T*B+u+1)*P)(UR:g*F+r=T)(h:r*B+u<g*S):U<g*V:=by
 have h1:g*((F*B+S)*P)≤g*V:=Nat.mul_le_mul_left _ hV
 have h2:(T*B+u+1)*P≤g*(F*B+S)*P:=by
  apply Nat.mul_le_mul_right
  rw[Nat.mul_add,←Nat.mul_assoc,←UR,Nat.add_mul]
  omega
 rw[Nat.mul_assoc]at h2
 omega
theorem TA{P V2 U2 g:Nat}(hV:V<(V2+1)*P)(hU:U2*P≤U)(hq:U/V<B)(hB:B≤V2)(Tz:0<V)(h:g*V2≤U2):g≤U/V+1:=by
 rcases Nat.lt_or_ge (U/V+1) g with h'|h'
 ·exfalso
  have h1:U<(U/V+1)*V:=by have:=Nat.lt_div_mul_add (a:=U) Tz;rw[Nat.add_mul,Nat.one_mul];exact this
  have h2:(U/V+1)*V≤(U/V+1)*((V2+1)*P):=Nat.mul_le_mul_left _ (Nat.le_of_lt hV)
  have h3:g*V2*P≤U2*P:=Nat.mul_le_mul_right _ h
  have h4:(U/V+2)*V2≤g*V2:=Nat.mul_le_mul_right _ h'
  have h5:(U/V+2)*V2*P≤g*V2*P:=Nat.mul_le_mul_right _ h4
  have h6:(U/V+1)*((V2+1)*P)≤(U/V+2)*V2*P:=by
   rw[←Nat.mul_assoc]
   apply Nat.mul_le_mul_right
   rw[Nat.mul_add,Nat.add_mul (U/V) 2 V2,Nat.add_mul (U/V) 1 V2]
   omega
  omega
 ·exact h'
end ZZ
def mix(B o i X U A:Nat):Nat:=A%B^o+B^o*(X%B^i+B^i*(U/B^i))
theorem HS(B o i X U A:Nat):mix B o i X U A%B^o=A%B^o:=by rw[mix,Nat.add_mul_mod_self_left,Nat.mod_mod]
section mix
variable {B:Nat}(hB:0<B)(o i X U A:Nat)
include hB
theorem vJ:mix B o i X U A/B^o=X%B^i+B^i*(U/B^i):=by
 rw[mix,Nat.add_mul_div_left _ _ (Nat.pow_pos hB),Nat.div_eq_of_lt (Nat.mod_lt _ (Nat.pow_pos hB)),Nat.zero_add]
theorem vK:mix B o i X U A/B^(o+i)=U/B^i:=by
 rw[Nat.pow_add,←Nat.div_div_eq_div_mul,vJ hB,Nat.add_mul_div_left _ _ (Nat.pow_pos hB),Nat.div_eq_of_lt (Nat.mod_lt _ (Nat.pow_pos hB)),Nat.zero_add]
theorem Oh:mix B o i X U A%B^(o+i)=A%B^o+B^o*(X%B^i):=by
 rw[Nat.pow_add,Nat.mod_mul,HS,vJ hB,Nat.add_mul_mod_self_left,Nat.mod_mod]
theorem Dc{N:Nat}(h:o+i<N):(dr B N (mix B o i X U A)).set (o+i) (X/B^i%B)=dr B N (mix B o (i+1) X U A):=by
 apply sB hB h (Nat.mod_lt _ hB)
 ·rw[Oh hB,Nat.pow_add,Nat.mod_mul,HS,vJ hB,Nat.pow_succ B i,Nat.mul_assoc,Nat.add_mul_mod_self_left,Nat.mod_mul,Nat.add_mul_mod_self_left,Nat.mod_mod]
 ·rw[Nat.pow_add,←Nat.div_div_eq_div_mul,vJ hB,Nat.pow_succ B i,Nat.mod_mul,Nat.mul_assoc,Nat.add_assoc,←Nat.mul_add,Nat.add_mul_div_left _ _ (Nat.pow_pos hB),Nat.div_eq_of_lt (Nat.mod_lt _ (Nat.pow_pos hB)),Nat.zero_add,Nat.add_mul_mod_self_left,Nat.mod_mod]
 ·have h1:=vK hB o (i+1) X U A
  have h2:=vK hB o i X U A
  rw[show o+i+1=o+(i+1) by omega,h1,show o+(i+1)=(o+i)+1 by omega,Nat.pow_succ B (o+i),←Nat.div_div_eq_div_mul,h2,Nat.pow_succ,←Nat.div_div_eq_div_mul]
end mix
theorem EE{B o m X U A:Nat}(hU:U<B^m):mix B o m X U A=A%B^o+B^o*(X%B^m):=by rw[mix,Nat.div_eq_of_lt hU];simp
theorem EF{B:Nat}(o X A:Nat):mix B o 0 X (A/B^o) A=A:=by
 simp only[mix,Nat.pow_zero,Nat.mod_one,Nat.zero_add,Nat.one_mul,Nat.div_one]
 exact Nat.mod_add_div A (B^o)
theorem I6{B U U' T i:Nat}(h:U%B^i=U'%B^i):wV B U T i=wV B U' T i:=by rw[wV,wV,h]
theorem L8{B:Nat}(hB:0<B){U T m i:Nat}(hi:i<m)(hT:T≤U+B^m):(U/B^i%B+(B-1-T/B^i%B)+wV B U T i)%B=(U+B^m-T)/B^i%B:=by
 have e:B^m=B^i*(B*B^(m-i-1)):=by rw[←Nat.pow_succ',←Nat.pow_add];congr 1;omega
 have h1:(U+B^m)%B^i=U%B^i:=by rw[e,Nat.add_mul_mod_self_left]
 have h2:(U+B^m)/B^i%B=U/B^i%B:=by rw[e,Nat.add_mul_div_left _ _ (Nat.pow_pos hB),Nat.add_mul_mod_self_left]
 rw[←h2,I6 (U':=U+B^m) h1.symm,C7 hB hT]
theorem Oi{B m U T:Nat}(hB:0<B)(hU:U<B^m)(hT:T<B^m):wV B U T m=if U<T then 0 else 1:=by
 rw[wV,Nat.mod_eq_of_lt hU,Nat.mod_eq_of_lt hT]
 have hp:0<B^m:=Nat.pow_pos hB
 split
 ·exact Nat.div_eq_of_lt (by omega)
 ·rw[show U+B^m-T=(U-T)+B^m by omega,Nat.add_div_right _ hp,Nat.div_eq_of_lt (by omega)]
end Go.Fw
namespace Go.Proofs.YtmiflmkdaeianaaGreat
open Go.Fw
theorem lN{N A j:Nat}(h:j<N):(dr 4294967296 N A)[j]? =some (A/4294967296^j%4294967296):=vG N A j h
theorem two32:(2:Nat)^32=4294967296:=rfl
theorem Z0:(2:Nat)^63=9223372036854775808:=rfl
theorem Dd(A o j:Nat):A/4294967296^(o+j)=A/4294967296^o/4294967296^j:=by rw[Nat.pow_add,Nat.div_div_eq_div_mul]
theorem EG{N A o n:Nat}{v:List Nat}(hv:Db v)(hn:v.length=n+2)(hN:N≤100000000001)(ho:o+(n+2)<N)
  (hU:A/4294967296^o<4294967296*vl v) (L9:2147483648*4294967296^(n+1)≤vl v):
  ∃r,fX (dr 4294967296 N A) o (n+3) v=some r∧r.2=dr 4294967296 N A∧A/4294967296^o/vl v≤r.1∧r.1≤A/4294967296^o/vl v+1:=by
 obtain⟨hV,hlv⟩:=hv
 obtain⟨U,MB⟩:∃U,A/4294967296^o=U:=⟨_,rfl⟩
 obtain⟨V,MC⟩:∃V,vl v=V:=⟨_,rfl⟩
 have xW:V<4294967296^(n+2):=by rw[←MC,←hn];exact ew v hV
 have QD:0<4294967296^(n+1):=Nat.pow_pos (by decide)
 have hP:0<4294967296^n:=Nat.pow_pos (by decide)
 have TB:4294967296^(n+1)=4294967296^n*4294967296:=Nat.pow_succ ..
 have EH:4294967296^(n+2)=4294967296^(n+1)*4294967296:=Nat.pow_succ ..
 rw[MB,MC]at hU⊢
 rw[MC]at L9
 have Z1:U<4294967296^(n+1)*4294967296*4294967296:=by
  have:4294967296*V<4294967296*4294967296^(n+2):=Nat.mul_lt_mul_of_pos_left xW (by decide)
  rw[EH]at this
  omega
 obtain⟨F,hF⟩:∃F,V/4294967296^(n+1)=F:=⟨_,rfl⟩
 obtain⟨S,hS⟩:∃S,V/4294967296^n%4294967296=S:=⟨_,rfl⟩
 obtain⟨T,hT⟩:∃T,U/4294967296^(n+1)=T:=⟨_,rfl⟩
 obtain⟨u,hu⟩:∃u,U/4294967296^n%4294967296=u:=⟨_,rfl⟩
 have afW:F<4294967296:=by rw[←hF,Nat.div_lt_iff_lt_mul QD];rw[EH,Nat.mul_comm]at xW;exact xW
 have ai7:2147483648≤F:=by rw[←hF,Nat.le_div_iff_mul_le QD];exact L9
 have ai8:S<4294967296:=by rw[←hS];exact Nat.mod_lt _ (by decide)
 have Z2:u<4294967296:=by rw[←hu];exact Nat.mod_lt _ (by decide)
 have afX:T<4294967296*4294967296:=by rw[←hT,Nat.div_lt_iff_lt_mul QD];rw[Nat.mul_comm,←Nat.mul_assoc];exact Z1
 have hV2:V/4294967296^n=F*4294967296+S:=by rw[←hF,←hS,TB,←Nat.div_div_eq_div_mul,Nat.mul_comm,Nat.div_add_mod]
 have hU2:U/4294967296^n=T*4294967296+u:=by rw[←hT,←hu,TB,←Nat.div_div_eq_div_mul,Nat.mul_comm,Nat.div_add_mod]
 have hq:U/V<4294967296:=by rw[Nat.div_lt_iff_lt_mul (by omega)];exact hU
 have Z3:(F*4294967296+S)*4294967296^n≤V:=by rw[←hV2];exact Nat.div_mul_le_self _ _
 have Z4:V<(F*4294967296+S+1)*4294967296^n:=by rw[←hV2,Nat.add_mul,Nat.one_mul];exact Nat.lt_div_mul_add hP
 have Z5:(T*4294967296+u)*4294967296^n≤U:=by rw[←hU2];exact Nat.div_mul_le_self _ _
 have Z6:U<(T*4294967296+u+1)*4294967296^n:=by rw[←hU2,Nat.add_mul,Nat.one_mul];exact Nat.lt_div_mul_add hP
 have QE:F*4294967296^(n+1)≤V:=by rw[←hF];exact Nat.div_mul_le_self _ _
 have QF:U<(T+1)*4294967296^(n+1):=by rw[←hT,Nat.add_mul,Nat.one_mul];exact Nat.lt_div_mul_add QD
 have QG:V<(F+1)*4294967296^(n+1):=by rw[←hF,Nat.add_mul,Nat.one_mul];exact Nat.lt_div_mul_add QD
 have hTF:T<4294967296*(F+1):=by
  rw[←hT,Nat.div_lt_iff_lt_mul QD]
  have:4294967296*V<4294967296*((F+1)*4294967296^(n+1)):=Nat.mul_lt_mul_of_pos_left QG (by decide)
  rw[Nat.mul_assoc]
  omega
 have g1:(dr 4294967296 N A)[o+(n+2)]? =some (U/4294967296^(n+2)%4294967296):=by rw[lN (by omega),Dd,MB]
 have g2:(dr 4294967296 N A)[o+(n+1)]? =some (U/4294967296^(n+1)%4294967296):=by rw[lN (by omega),Dd,MB]
 have g3:(dr 4294967296 N A)[o+n]? =some u:=by rw[lN (by omega),Dd,MB,hu]
 have g4:v[n+1]? =some F:=by rw[ju hV (by omega),show val 4294967296 v=V from MC,hF,Nat.mod_eq_of_lt afW]
 have g5:v[n]? =some S:=by rw[ju hV (by omega),show val 4294967296 v=V from MC,hS]
 have hun:U/4294967296^(n+2)<4294967296:=by rw[EH,←Nat.div_div_eq_div_mul,hT,Nat.div_lt_iff_lt_mul (by decide)];exact afX
 have Gu:U/4294967296^(n+2)%4294967296*4294967296+U/4294967296^(n+1)%4294967296=T:=by
  rw[Nat.mod_eq_of_lt hun,EH,←Nat.div_div_eq_div_mul,hT,Nat.mul_comm,Nat.div_add_mod]
 obtain⟨t1,Uw⟩:∃t,U/4294967296^(n+2)%4294967296=t:=⟨_,rfl⟩
 obtain⟨t2,ht2⟩:∃t,U/4294967296^(n+1)%4294967296=t:=⟨_,rfl⟩
 have l1:t1<4294967296:=by rw[←Uw];exact Nat.mod_lt _ (by decide)
 have l2:t2<4294967296:=by rw[←ht2];exact Nat.mod_lt _ (by decide)
 rw[Uw]at g1 Gu
 rw[ht2]at g2 Gu
 clear Uw ht2 hU2 hV2
 have c1:((n+2:Nat):Int)-1=((n+1:Nat):Int):=by omega
 have c2:((n+2:Nat):Int)-2=(n:Int):=by omega
 unfold fX
 simp only[Option.bind_some,hn,c1,c2]
 rw[eN (by omega),eN (by omega),yp (by omega),yp (by omega),yp (by omega)]
 simp only[Option.bind_some]
 rw[g1,g2,aF g4,aF g5]
 simp only[Option.bind_some,two32]
 rw[Nat.mod_eq_of_lt (a:=t1) (by omega),Nat.mod_eq_of_lt (a:=t2) (by omega),Nat.mod_eq_of_lt (a:=t1*4294967296) (by omega),HR l2,Gu,Nat.mod_eq_of_lt (a:=T) (by omega),Nat.mod_eq_of_lt (a:=F) (by omega),Nat.mod_eq_of_lt (a:=S) (by omega),C4 (by omega) (by omega),yq (by omega)]
 simp only[Option.bind_some]
 have af1:=Ty (V:=V) (U:=U) QD (show 0<F by omega) QE QF
 have hle:∀g,g*(F*4294967296+S)≤T*4294967296+u→g≤U/V+1:=fun g h=>TA (B:=4294967296) Z4 Z5 hq (by omega) (by omega) h
 have af2:∀g r,g*F+r=T→r*4294967296+u<g*S→U/V<g:=fun g r i1 ht=>(Nat.div_lt_iff_lt_mul (by omega)).2 (Og Z3 Z6 i1 ht)
 have hg0:T/F≤4294967297:=by
  have:T/F<4294967298:=by
   rw[Nat.div_lt_iff_lt_mul (by omega)]
   omega
  omega
 generalize U/V=q at*
 clear Z3 Z4 Z5 Z6 QE QF QG hTF Z1 L9 xW TB EH hP QD hF hS hT hu MB MC hU
 have hdm:=Nat.div_add_mod T F
 have hml:=Nat.mod_lt T (show 0<F by omega)
 have af4:T/F*F+T%F=T:=by rw[Nat.mul_comm];exact hdm
 clear hdm
 refine kx (fun x=>x.1*F+x.2=T∧q≤x.1∧x.2<4294967296∧x.1≤4294967297) (fun e=>q≤e∧e≤q+1) (fun x=>x.1) ?_ ⟨af4,af1,by show T%F<_;omega,hg0⟩ ?_
 ·rintro⟨g,r⟩ ⟨i1,i2,i3,i4⟩
  simp only at i1 i2 i3 i4
  have down:q<g→(∃s',(bif decide ((r+F)%18446744073709551616/4294967296≠0)then some (.inr (mN 18446744073709551616 g 1))else some (.inl (mN 18446744073709551616 g 1,(r+F)%18446744073709551616)):Option ((Nat×Nat)⊕Nat))=some (.inl s')∧(s'.1*F+s'.2=T∧q≤s'.1∧s'.2<4294967296∧s'.1≤4294967297)∧s'.1<g)∨
    (∃e,(bif decide ((r+F)%18446744073709551616/4294967296≠0)then some (.inr (mN 18446744073709551616 g 1))else some (.inl (mN 18446744073709551616 g 1,(r+F)%18446744073709551616)):Option ((Nat×Nat)⊕Nat))=some (.inr e)∧q≤e∧e≤q+1):=by
   intro hlt
   have e1:(g-1)*F+(r+F)=T:=by
    obtain⟨k,rfl⟩:∃k,g=k+1:=⟨g-1,by omega⟩
    rw[Nat.add_sub_cancel];rw[Nat.add_mul]at i1;omega
   rw[qe (by omega) (by omega),Nat.mod_eq_of_lt (a:=r+F) (by omega)]
   by_cases hb:r+F<4294967296
   ·left
    refine⟨(g-1,r+F),by simp[Nat.div_eq_of_lt hb],⟨e1,by simp only;omega,hb,by simp only;omega⟩,by simp only;omega⟩
   ·right
    have hne:(r+F)/4294967296≠0:=by omega
    refine⟨g-1,by simp[hne],by omega,?_⟩
    refine hle _ ?_
    have m1:(g-1)*S≤4294967296*4294967295:=Nat.mul_le_mul (by omega) (by omega)
    rw[Nat.mul_add,←Nat.mul_assoc]
    have m2:((g-1)*F+(r+F))*4294967296=T*4294967296:=by rw[e1]
    rw[Nat.add_mul]at m2
    omega
  simp only[bM,aL]
  by_cases hg:g<4294967296
  ·rw[show decide (g/4294967296≠0)=false by simp;omega]
   have hgS:g*S≤4294967295*4294967295:=Nat.mul_le_mul (by omega) (by omega)
   simp only[fM]
   rw[g3]
   simp only[aL]
   rw[Nat.mod_eq_of_lt (a:=g*S) (by omega),Nat.mod_eq_of_lt (a:=r*4294967296) (by omega),Nat.mod_eq_of_lt (a:=u) (by omega),HR Z2,Nat.mod_eq_of_lt (a:=r*4294967296+u) (by omega)]
   by_cases ht:r*4294967296+u<g*S
   ·rw[show decide (r*4294967296+u<g*S)=true by simpa using ht]
    simp only[aL,eR]
    exact down (af2 _ _ i1 ht)
   ·rw[show decide (r*4294967296+u<g*S)=false by simpa using ht]
    right
    refine⟨g,by simp,i2,?_⟩
    refine hle _ ?_
    rw[Nat.mul_add,←Nat.mul_assoc,←i1,Nat.add_mul]
    omega
  ·rw[show decide (g/4294967296≠0)=true by simp;omega]
   simp only[aL,eR]
   exact down (by omega)
 ·rintro e ⟨h2,h3⟩
  exact⟨(e,dr 4294967296 N A),by rw[o7 rfl,Option.bind_some],rfl,h2,h3⟩
end Go.Proofs.YtmiflmkdaeianaaGreat
namespace Go.Proofs.YtmiflmkdaeianaaGreat
open Go.Fw
theorem sL{N A o n f:Nat}{v:List Nat}(hv:Db v)(hn:v.length=n)(hN:N≤100000000001)(ho:o+n<N)(hf:f≤4294967296)
  (hU:A/4294967296^o<4294967296^(n+1)):
  b9 (dr 4294967296 N A) o (n+1) v f=some (decide (A/4294967296^o<vl v*f),dr 4294967296 N (A%4294967296^o+4294967296^o*((A/4294967296^o+4294967296^(n+1)-vl v*f)%4294967296^(n+1)))):=by
 obtain⟨hV,hlv⟩:=hv
 obtain⟨U,MB⟩:∃U,A/4294967296^o=U:=⟨_,rfl⟩
 obtain⟨V,MC⟩:∃V,vl v=V:=⟨_,rfl⟩
 have xW:V<4294967296^n:=by rw[←MC,←hn];exact ew v hV
 have JD:4294967296^(n+1)=4294967296^n*4294967296:=Nat.pow_succ ..
 have hT:V*f<4294967296^(n+1):=by
  rw[JD]
  calc V*f≤V*4294967296:=Nat.mul_le_mul_left _ hf
   _<4294967296^n*4294967296:=Nat.mul_lt_mul_of_pos_right xW (by decide)
 rw[MB]at hU⊢
 rw[MC]
 obtain⟨X,hX⟩:∃X,U+4294967296^(n+1)-V*f=X:=⟨_,rfl⟩
 rw[hX]
 unfold b9
 simp only[aL]
 have TC:∀i,wV 4294967296 U (V*f) i≤1:=fun i=>Gp (by decide) _ _ _
 refine aU (fun i=>(1-wV 4294967296 U (V*f) i,(i:Int),sC 4294967296 V f 0 i,dr 4294967296 N (mix 4294967296 o i X U A))) (n+1) (1-wV 4294967296 U (V*f) (n+1),dr 4294967296 N (mix 4294967296 o (n+1) X U A)) ?_ (fun i hi=>?_) ?_ ?_
 ·rw[Ag,C9,←MB,EF];rfl
 ·
  obtain⟨t,ht⟩:∃t,V*f/4294967296^i%4294967296=t:=⟨_,rfl⟩
  obtain⟨c,hc⟩:∃c,sC 4294967296 V f 0 i=c:=⟨_,rfl⟩
  obtain⟨p,hp⟩:∃p,V/4294967296^i%4294967296*f=p:=⟨_,rfl⟩
  have aja:c<4294967296:=by
   rw[←hc,sC,sT,Nat.add_zero,Nat.div_lt_iff_lt_mul (Nat.pow_pos (by decide))]
   calc V%4294967296^i*f≤V%4294967296^i*4294967296:=Nat.mul_le_mul_left _ hf
    _<4294967296*4294967296^i:=by rw[Nat.mul_comm];exact Nat.mul_lt_mul_of_pos_left (Nat.mod_lt _ (Nat.pow_pos (by decide))) (by decide)
  have ajb:p≤4294967295*4294967296:=by
   rw[←hp];exact Nat.mul_le_mul (by have:=Nat.mod_lt (V/4294967296^i) (show 0<4294967296 by decide);omega) hf
  have Gr:(p+c)%4294967296=t:=by rw[←hp,←hc,Gs (B:=4294967296) (by decide),Nat.add_zero,ht]
  have hstep:(p+c)/4294967296=sC 4294967296 V f 0 (i+1):=by rw[←hp,←hc,Da (B:=4294967296) (by decide)]
  have ajc:t<4294967296:=by rw[←ht];exact Nat.mod_lt _ (by decide)
  obtain⟨u,hu⟩:∃u,U/4294967296^i%4294967296=u:=⟨_,rfl⟩
  have Z2:u<4294967296:=by rw[←hu];exact Nat.mod_lt _ (by decide)
  have hg:(dr 4294967296 N (mix 4294967296 o i X U A))[o+i]? =some u:=by rw[lN (by omega),vK (by decide),hu]
  have hl:=TC i
  obtain⟨l,hle⟩:∃l,wV 4294967296 U (V*f) i=l:=⟨_,rfl⟩
  have hxd:(u+(4294967296-1-t)+l)%4294967296=X/4294967296^i%4294967296:=by rw[←hu,←ht,←hle,L8 (B:=4294967296) (by decide) hi (by omega),hX]
  have hls:(u+(4294967296-1-t)+l)/4294967296=wV 4294967296 U (V*f) (i+1):=by rw[←hu,←ht,←hle,Ah (B:=4294967296) (by decide)]
  rw[hle]at hl
  have hput:=Dc (B:=4294967296) (by decide) o i X U A (N:=N) (by omega)
  rw[hle,hc,←hls]
  simp only[show decide ((i:Int)<((n+1:Nat):Int))=true by simp;omega,eR,aL,bM]
  rw[yp (by omega)]
  simp only[aL,hg]
  have way:∀k:Nat→Option ((Nat×Int×Nat×List Nat)⊕(Nat×List Nat)),(bif decide ((i:Int)<(v.length:Int))then(bQ v (i:Int)).bind fun dR=>k (dR%18446744073709551616*f%18446744073709551616)else k 0)=k p:=by
   intro k
   by_cases hin:i<v.length
   ·rw[show decide ((i:Int)<(v.length:Int))=true by simp;omega,eR]
    have Dr:v[i]? =some (V/4294967296^i%4294967296):=by rw[←MC];exact ju hV hin
    rw[aF Dr,aL,Nat.mod_eq_of_lt (a:=V/4294967296^i%4294967296) (b:=18446744073709551616) (by have:=Nat.mod_lt (V/4294967296^i) (show 0<4294967296 by decide);omega),hp,Nat.mod_eq_of_lt (a:=p) (by omega)]
   ·rw[show decide ((i:Int)<(v.length:Int))=false by simp;omega,fM]
    have:V/4294967296^i=0:=Nat.div_eq_of_lt (Nat.lt_of_lt_of_le xW (Nat.pow_le_pow_right (by decide) (by omega)))
    rw[←hp,this];simp
  refine(way (fun y=>(aV y c).bind _)).trans ?_
  rw[fI _ _ (by omega)]
  simp only[aL]
  rw[Gr,hstep,Nat.mod_eq_of_lt (a:=u) (by omega),Nat.mod_eq_of_lt (a:=t) (by omega)]
  rw[iH (by rw[aJ];omega),aL,bh (by omega),Z0]
  by_cases Q8:u<t+(1-l)
  ·have e1:mN 18446744073709551616 (mN 18446744073709551616 u t) (1-l)=18446744073709551616+u-t-(1-l):=by
    by_cases h1:u<t
    ·rw[vF h1 (by omega),qe (by omega) (by omega)]
    ·rw[qe (a:=u) (b:=t) (by omega) (by omega),vF (by omega) (by omega)];omega
   rw[e1]
   have e2:(18446744073709551616+u-t-(1-l))%4294967296=X/4294967296^i%4294967296:=by rw[←hxd];omega
   have e3:(18446744073709551616+u-t-(1-l))/9223372036854775808=1-(u+(4294967296-1-t)+l)/4294967296:=by omega
   rw[e2,e3,hput]
  ·have e1:mN 18446744073709551616 (mN 18446744073709551616 u t) (1-l)=u-t-(1-l):=by
    rw[qe (a:=u) (b:=t) (by omega) (by omega),qe (by omega) (by omega)]
   rw[e1]
   have e2:(u-t-(1-l))%4294967296=X/4294967296^i%4294967296:=by rw[←hxd];omega
   have e3:(u-t-(1-l))/9223372036854775808=1-(u+(4294967296-1-t)+l)/4294967296:=by omega
   rw[e2,e3,hput]
 ·simp
 ·simp only[aL]
  rw[o7 (by rw[aJ,aJ]),aL,EE hU,Oi (by decide) hU hT]
  congr 2
  by_cases h:U<V*f<;>simp[h]
end Go.Proofs.YtmiflmkdaeianaaGreat
namespace Go.Proofs.YtmiflmkdaeianaaGreat
open Go.Fw
theorem Z7{B V:Nat}(hB:0<B)(hV:0<V)(A k:Nat):A%(V*B^(k+1))/B^k<B*V:=by
 rw[Nat.div_lt_iff_lt_mul (Nat.pow_pos hB)]
 have:V*B^(k+1)=B*V*B^k:=by rw[Nat.pow_succ,Nat.mul_comm (B^k),←Nat.mul_assoc,Nat.mul_comm V]
 rw[←this]
 exact Nat.mod_lt _ (Nat.mul_pos hV (Nat.pow_pos hB))
theorem TD{B V:Nat}(A k:Nat):A%(V*B^(k+1))%B^k+B^k*(A%(V*B^(k+1))/B^k%V)=A%(V*B^k):=by
 rw[←Nat.mod_mul,Nat.mul_comm (B^k),Nat.mod_mod_of_dvd]
 rw[Nat.pow_succ,←Nat.mul_assoc];exact Nat.dvd_mul_right _ _
theorem TE{B V:Nat}(A k:Nat):A%(V*B^(k+1))/B^k/V=A/V/B^k%B:=by
 rw[Nat.div_div_eq_div_mul,Nat.mul_comm (B^k),Nat.pow_succ,←Nat.mul_assoc,Nat.mod_mul_right_div_self,Nat.div_div_eq_div_mul]
theorem De{B:Nat}(hB:0<B){N k:Nat}(h:k<N)(Q:Nat):(dr B N (Q/B^(k+1)*B^(k+1))).set k (Q/B^k%B)=dr B N (Q/B^k*B^k):=by
 have hP:0<B^k:=Nat.pow_pos hB
 refine sB hB h (Nat.mod_lt _ hB) ?_ ?_ ?_
 ·rw[Nat.mul_mod_left,Nat.pow_succ,Nat.mul_comm (B^k),←Nat.mul_assoc,Nat.mul_mod_left]
 ·rw[Nat.mul_div_cancel _ hP]
 ·rw[Nat.mul_div_cancel _ (Nat.pow_pos hB),Nat.pow_succ,←Nat.div_div_eq_div_mul,Nat.mul_div_cancel _ hP,Nat.div_div_eq_div_mul]
theorem HT{α:Type}{l:List α}{o n:Nat}(h:o<l.length)(h':o+n≤l.length):Rn l (o:Int) ((o+n:Nat):Int)=some (o,n):=by
 unfold Rn
 rw[if_pos (by omega)]
 congr 2
 omega
theorem Oj{U V g M:Nat}(hV:0<V)(h1:U/V≤g)(h2:g≤U/V+1)(hM:U<M)(hVM:V≤M):
  (V*g≤U∧g=U/V∧(U+M-V*g)%M=U%V)∨(U<V*g∧g=U/V+1∧U+M-V*g<M∧(U+M-V*g+V)%M=U%V):=by
 have hd:=Nat.div_add_mod U V
 have hm:=Nat.mod_lt U hV
 revert h1 h2 hd hm
 generalize U/V=q
 generalize U%V=r
 intro h1 h2 hd hm
 rcases Nat.lt_or_ge q g with h|h
 ·obtain rfl:g=q+1:=by omega
  have e:V*(q+1)=V*q+V:=Nat.mul_succ ..
  right
  refine⟨by omega,rfl,by omega,?_⟩
  rw[show U+M-V*(q+1)+V=r+M by omega,Nat.add_mod_right,Nat.mod_eq_of_lt (by omega)]
 ·obtain rfl:g=q:=by omega
  left
  refine⟨by omega,rfl,?_⟩
  rw[show U+M-V*g=r+M by omega,Nat.add_mod_right,Nat.mod_eq_of_lt (by omega)]
theorem Ol{R D e i:Nat}(hD:0<D)(he:4294967296=D*e):(R*D/4294967296^(i+1)%4294967296*4294967296+R*D/4294967296^i%4294967296)/D%4294967296=R/4294967296^i%4294967296:=by
 have h1:R*D/4294967296^(i+1)%4294967296*4294967296+R*D/4294967296^i%4294967296=R*D/4294967296^i%(4294967296*4294967296):=by
  rw[Nat.mod_mul,Nat.div_div_eq_div_mul,show 4294967296^i*4294967296=4294967296^(i+1)from(Nat.pow_succ ..).symm,Nat.add_comm,Nat.mul_comm 4294967296]
 have h2:(4294967296*4294967296:Nat)=D*(e*4294967296):=by
  rw[←Nat.mul_assoc,←he]
 rw[h1,h2,Nat.mod_mul_right_div_self,Nat.mod_mul_left_mod,Nat.div_div_eq_div_mul,Nat.mul_comm (4294967296^i) D,←Nat.div_div_eq_div_mul,Nat.mul_div_cancel _ hD]
theorem TF{B:Nat}(hB:0<B){N i R:Nat}(h:i<N):(dr B N (R%B^i)).set i (R/B^i%B)=dr B N (R%B^(i+1)):=by
 refine sB hB h (Nat.mod_lt _ hB) ?_ ?_ ?_
 ·rw[Nat.mod_mod,Nat.mod_mod_of_dvd _ (Nat.pow_dvd_pow _ (Nat.le_succ i))]
 ·rw[Nat.pow_succ,Nat.mod_mul_right_div_self,Nat.mod_mod]
 ·rw[Nat.div_eq_of_lt (Nat.mod_lt _ (Nat.pow_pos hB)),Nat.div_eq_of_lt]
  exact Nat.lt_of_lt_of_le (Nat.mod_lt _ (Nat.pow_pos hB)) (Nat.pow_le_pow_right hB (Nat.le_succ i))
theorem Gv(a b:List Nat)(ha:Db a)(hb:Db b){n:Nat}(hn:b.length=n+2)(hl:b.length≤a.length)(Gu:b[n+1]? ≠some 0):
  gV a b=some (dr 4294967296 (a.length-b.length+1) (vl a/vl b),dr 4294967296 b.length (vl a%vl b)):=by
 obtain⟨hA,hla⟩:=ha
 obtain⟨hB,hlb⟩:=hb
 have hP:∀k,0<4294967296^k:=fun k=>Nat.pow_pos (by decide)
 obtain⟨Va,hVa⟩:∃V,vl a=V:=⟨_,rfl⟩
 obtain⟨Vb,hVb⟩:∃V,vl b=V:=⟨_,rfl⟩
 have TG:Vb<4294967296^(n+2):=by rw[←hVb,←hn];exact ew b hB
 have halt:Va<4294967296^a.length:=by rw[←hVa];exact ew a hA
 have EH:4294967296^(n+2)=4294967296^(n+1)*4294967296:=Nat.pow_succ ..
 obtain⟨x,hx⟩:∃x,Vb/4294967296^(n+1)=x:=⟨_,rfl⟩
 have Z8:x<4294967296:=by rw[←hx,Nat.div_lt_iff_lt_mul (hP _)];rw[EH,Nat.mul_comm]at TG;exact TG
 have hgx:b[n+1]? =some x:=by rw[ju hB (by omega),show val 4294967296 b=Vb from hVb,hx,Nat.mod_eq_of_lt Z8]
 have hx0:x≠0:=fun e=>Gu (by rw[hgx,e])
 obtain⟨s,Je,A9,hs3,hs4⟩:=ZY x Z8 hx0
 have Z9:0<2^s:=Nat.two_pow_pos s
 have aaa:2^s<4294967296:=by
  have:2^s<2^32:=Nat.pow_lt_pow_right (by decide) A9
  rw[two32]at this;exact this
 obtain⟨D,hD⟩:∃D,2^s=D:=⟨_,rfl⟩
 rw[hD]at hs3 hs4 Z9 aaa
 obtain⟨V,hV⟩:∃V,Vb*D=V:=⟨_,rfl⟩
 obtain⟨A,hAe⟩:∃A,Va*D=A:=⟨_,rfl⟩
 have xW:V<4294967296^(n+2):=by
  have h1:Vb<(x+1)*4294967296^(n+1):=by rw[←hx,Nat.add_mul,Nat.one_mul];exact Nat.lt_div_mul_add (hP _)
  have h2:(x+1)*D≤4294967296:=by
   obtain⟨e,he⟩:∃e,4294967296=D*e:=⟨2^(32-s),by rw[←hD,←Nat.pow_add,show s+(32-s)=32 by omega,two32]⟩
   have h3:x<e:=by
    apply Nat.lt_of_mul_lt_mul_left (a:=D)
    rw[←he,Nat.mul_comm];exact hs4
   calc (x+1)*D≤e*D:=Nat.mul_le_mul_right _ h3
    _=4294967296:=by rw[Nat.mul_comm,←he]
  rw[←hV,EH]
  calc Vb*D<(x+1)*4294967296^(n+1)*D:=Nat.mul_lt_mul_of_pos_right h1 Z9
   _=4294967296^(n+1)*((x+1)*D):=by rw[Nat.mul_comm (x+1),Nat.mul_assoc]
   _≤4294967296^(n+1)*4294967296:=Nat.mul_le_mul_left _ h2
 have Ma:2147483648*4294967296^(n+1)≤V:=by
  have h1:x*4294967296^(n+1)≤Vb:=by rw[←hx];exact Nat.div_mul_le_self _ _
  rw[←hV]
  calc 2147483648*4294967296^(n+1)≤x*D*4294967296^(n+1):=Nat.mul_le_mul_right _ hs3
   _=x*4294967296^(n+1)*D:=by rw[Nat.mul_assoc,Nat.mul_comm D,←Nat.mul_assoc]
   _≤Vb*D:=Nat.mul_le_mul_right _ h1
 have Tz:0<V:=Nat.lt_of_lt_of_le (Nat.mul_pos (by decide) (hP _)) Ma
 have hb0:0<Vb:=by
  rcases Nat.eq_zero_or_pos Vb with h|h
  ·rw[←hV,h,Nat.zero_mul]at Tz;omega
  ·exact h
 have hAV:A/V=Va/Vb:=by rw[←hAe,←hV,Nat.mul_div_mul_right _ _ Z9]
 have af6:A%V=Va%Vb*D:=by rw[←hAe,←hV,Nat.mul_mod_mul_right]
 obtain⟨K,hK⟩:∃K,a.length=K+(n+2):=⟨a.length-(n+2),by omega⟩
 have hA0:A<V*4294967296^(K+1):=by
  have h1:4294967296^(n+1)≤Vb:=by
   have:1*4294967296^(n+1)≤x*4294967296^(n+1):=Nat.mul_le_mul_right _ (by omega)
   have h2:x*4294967296^(n+1)≤Vb:=by rw[←hx];exact Nat.div_mul_le_self _ _
   omega
  rw[←hAe,←hV]
  calc Va*D<4294967296^a.length*D:=Nat.mul_lt_mul_of_pos_right halt Z9
   _=4294967296^(n+1)*4294967296^(K+1)*D:=by rw[hK,←Nat.pow_add];congr 2;omega
   _≤Vb*4294967296^(K+1)*D:=Nat.mul_le_mul_right _ (Nat.mul_le_mul_right _ h1)
   _=Vb*D*4294967296^(K+1):=by rw[Nat.mul_assoc,Nat.mul_comm _ D,←Nat.mul_assoc]
 obtain⟨v,hve⟩:∃v,dr 4294967296 (n+2) V=v:=⟨_,rfl⟩
 have hvl:v.length=n+2:=by rw[←hve,aJ]
 have hvW:Db v:=⟨fun y hy=>by rw[←hve]at hy;exact lZ (by decide) _ _ _ hy,by omega⟩
 have hvv:vl v=V:=by rw[←hve];show val _ _=_;rw[kz,Nat.mod_eq_of_lt xW]
 have aad:List.take b.length (dr 4294967296 (b.length+1) (Vb*2^s))=v:=by
  rw[hD,hV,hn,gi,List.take_append_of_le_length (by rw[aJ];omega),List.take_of_length_le (by rw[aJ];omega),hve]
 unfold gV
 simp only[aL]
 rw[show((b.length:Nat):Int)-1=((n+1:Nat):Int) by omega,eN (by omega),aF hgx,aL,Je,aL]
 rw[show((s:Int)%18446744073709551616).toNat=s by rw[Int.emod_eq_of_lt (by omega) (by omega)];simp]
 rw[A0,shiftLeft_eq a s ⟨hA,hla⟩ A9,aL,shiftLeft_eq b s ⟨hB,hlb⟩ A9,aL,wS (by rw[aJ];omega),aL]
 obtain⟨Q,hQ⟩:∃Q,A/V=Q:=⟨_,rfl⟩
 have af8:Q<4294967296^(K+1):=by rw[←hQ,Nat.div_lt_iff_lt_mul Tz,Nat.mul_comm];exact hA0
 rw[hVa,hVb,←hAV,hQ,aad,hD,hAe,hn]
 rw[show a.length-(n+2)+1=K+1 by omega]
 rw[b7 (x:=(a.length:Int)-((n+2:Nat):Int)) (by omega) (by omega),b7 (x:=(a.length:Int)-((n+2:Nat):Int)+1) (by omega) (by omega),show(a.length:Int)-((n+2:Nat):Int)+1=((K+1:Nat):Int) by omega,rW (by decide) (by omega),aL,show(a.length:Int)-((n+2:Nat):Int)=(K:Int) by omega]
 refine aU (fun j=>((K:Int)-(j:Int),dr 4294967296 (K+1) (Q/4294967296^(K+1-j)*4294967296^(K+1-j)),dr 4294967296 (a.length+1) (A%(V*4294967296^(K+1-j))))) (K+1) (dr 4294967296 (K+1) Q,dr 4294967296 (a.length+1) (A%V)) ?_ (fun j hj=>?_) ?_ ?_
 ·rw[show K+1-0=K+1 by omega,Nat.mod_eq_of_lt hA0,Nat.div_eq_of_lt af8,Nat.zero_mul,o8];simp
 ·
  obtain⟨k,hk⟩:∃k,K=k+j:=⟨K-j,by omega⟩
  rw[show K+1-j=k+1 by omega,show K+1-(j+1)=k by omega,show(K:Int)-(j:Int)=(k:Int) by omega,show(K:Int)-((j+1:Nat):Int)=(k:Int)-1 by omega]
  have hU:=Z7 (B:=4294967296) (by decide) Tz A k
  have EI:=TD (B:=4294967296) (V:=V) A k
  have TH:=TE (B:=4294967296) (V:=V) A k
  obtain⟨N,hN⟩:∃N,a.length+1=N:=⟨_,rfl⟩
  obtain⟨A1,hA1⟩:∃A1,A%(V*4294967296^(k+1))=A1:=⟨_,rfl⟩
  rw[hN]
  rw[hA1]at hU EI TH⊢
  rw[hQ]at TH
  obtain⟨⟨g,lg⟩,hge,hgl,hg1,PA⟩:=EG (N:=N) (A:=A1) (o:=k) (n:=n) (v:=v) hvW hvl (by omega) (by omega) (by rw[hvv];exact hU) (by rw[hvv];exact Ma)
  simp only at hgl hg1 PA
  rw[hvv]at hg1 PA
  subst hgl
  have hsub:=sL (N:=N) (A:=A1) (o:=k) (n:=n+2) (v:=v) (f:=g) hvW hvl (by omega) (by omega) ?_ ?_
  ·rw[hvv]at hsub
   obtain⟨U,MB⟩:∃U,A1/4294967296^k=U:=⟨_,rfl⟩
   rw[MB]at hU EI TH hg1 PA hsub
   have Om:4294967296^(n+2+1)=4294967296^(n+2)*4294967296:=Nat.pow_succ ..
   have hUM:U<4294967296^(n+2+1):=by
    have:4294967296*V<4294967296*4294967296^(n+2):=Nat.mul_lt_mul_of_pos_left xW (by decide)
    rw[Om];omega
   have Es:=Oj (M:=4294967296^(n+2+1)) Tz hg1 PA hUM (by rw[Om];omega)
   have TI:U/V<4294967296:=by rw[TH];exact Nat.mod_lt _ (by decide)
   rw[show decide ((0:Int)≤(k:Int))=true by simp,eR]
   rw[ku (by omega),bh (by omega),show k+(n+2)+1=k+(n+3) by omega,HT (by rw[aJ];omega) (by rw[aJ];omega),aL,hge,aL,o7 rfl,aL,HT (by rw[aJ];omega) (by rw[aJ];omega),aL]
   show(Option.bind (b9 _ k (n+2+1) v g) _)=_
   rw[hsub,aL,o7 (by rw[aJ,aJ]),aL]
   simp only[bM]
   rcases Es with⟨hc1,Fb,hc3⟩|⟨hc1,Fb,hc3,hc4⟩
   ·rw[show decide (U<V*g)=false by simp;omega,fM,hc3,EI,Fb,Nat.mod_eq_of_lt TI,TH,cU (by rw[aJ];omega),aL,iH (by rw[aJ];omega),aL,De (by decide) (by omega),b7 (by omega) (by omega)]
   ·rw[show decide (U<V*g)=true by simp;omega,eR,qe (by omega) (by omega),show g-1=U/V by omega,Nat.mod_eq_of_lt TI,TH]
    rw[Nat.mod_eq_of_lt hc3]
    obtain⟨Y,hY⟩:∃Y,U+4294967296^(n+2+1)-V*g=Y:=⟨_,rfl⟩
    rw[hY]at hc3 hc4⊢
    obtain⟨A2,hA2⟩:∃A2,A1%4294967296^k+4294967296^k*Y=A2:=⟨_,rfl⟩
    rw[hA2]
    have hw2:A2/4294967296^k=Y:=by rw[←hA2,Nat.add_mul_div_left _ _ (hP k),Nat.div_eq_of_lt (Nat.mod_lt _ (hP k)),Nat.zero_add]
    have Jq:A2%4294967296^k=A1%4294967296^k:=by rw[←hA2,Nat.add_mul_mod_self_left,Nat.mod_mod]
    have hcr:∀i,yu 4294967296 Y V i≤1:=fun i=>Ad (by decide) _ _ _
    refine aU (fun i=>((i:Int),yu 4294967296 Y V i,dr 4294967296 N (mix 4294967296 k i (Y+V) Y A2))) (n+2) (yu 4294967296 Y V (n+2),dr 4294967296 N (mix 4294967296 k (n+2) (Y+V) Y A2)) ?_ (fun i hi=>?_) ?_ ?_
    ·rw[Af,←hw2,EF];rfl
    ·have Dr:v[i]? =some (V/4294967296^i%4294967296):=by rw[←hvv];exact ju hvW.1 (by omega)
     have hgu:(dr 4294967296 N (mix 4294967296 k i (Y+V) Y A2))[k+i]? =some (Y/4294967296^i%4294967296):=by rw[lN (by omega),vK (by decide)]
     have Je:=Ae (B:=4294967296) (by decide) Y V i
     have A9:=yw (B:=4294967296) (by decide) Y V i
     have hput:=Dc (B:=4294967296) (by decide) k i (Y+V) Y A2 (N:=N) (by omega)
     have hci:=hcr i
     have hv1:=Nat.mod_lt (V/4294967296^i) (show 0<4294967296 by decide)
     have UE:=Nat.mod_lt (Y/4294967296^i) (show 0<4294967296 by decide)
     simp only[show decide ((i:Int)<(v.length:Int))=true by simp;omega,eR]
     rw[aF Dr,aL,ku (by omega),cU (by rw[aJ];omega),aL,hgu,aL,Nat.mod_eq_of_lt (a:=Y/4294967296^i%4294967296) (b:=18446744073709551616) (by omega),Nat.mod_eq_of_lt (a:=V/4294967296^i%4294967296) (b:=18446744073709551616) (by omega),Nat.mod_eq_of_lt (b:=18446744073709551616) (by omega),fI _ _ (by omega),aL,aL,iH (by rw[aJ];omega),aL,bh (by omega)]
     rw[Je,A9,hput]
    ·simp[hvl]
    ·have hgu:(dr 4294967296 N (mix 4294967296 k (n+2) (Y+V) Y A2))[k+(n+2)]? =some (Y/4294967296^(n+2)%4294967296):=by rw[lN (by omega),vK (by decide)]
     have A9:=yw (B:=4294967296) (by decide) Y V (n+2)
     have hput:=Dc (B:=4294967296) (by decide) k (n+2) (Y+V) Y A2 (N:=N) (by omega)
     have hci:=hcr (n+2)
     have UE:=Nat.mod_lt (Y/4294967296^(n+2)) (show 0<4294967296 by decide)
     rw[Nat.div_eq_of_lt xW,Nat.zero_mod,Nat.add_zero]at A9
     simp only[]
     rw[cU (by rw[aJ];omega),aL,hgu,aL,Nat.mod_eq_of_lt (a:=Y/4294967296^(n+2)%4294967296) (b:=18446744073709551616) (by omega),fI _ _ (by omega),aL,aL,iH (by rw[aJ];omega),aL,A9,hput,EE hc3,Jq,hc4,EI,cU (by rw[aJ];omega),aL,iH (by rw[aJ];omega),aL,De (by decide) (by omega),b7 (by omega) (by omega)]
  ·
   have TI:A1/4294967296^k/V<4294967296:=by rw[TH];exact Nat.mod_lt _ (by decide)
   omega
  ·have Om:4294967296^(n+2+1)=4294967296^(n+2)*4294967296:=Nat.pow_succ ..
   have:4294967296*V<4294967296*4294967296^(n+2):=Nat.mul_lt_mul_of_pos_left xW (by decide)
   rw[Om];omega
 ·rw[show K+1-(K+1)=0 by omega,Nat.pow_zero,Nat.mul_one,Nat.mul_one,Nat.div_one,show decide (0≤(K:Int)-((K+1:Nat):Int))=false by simp;omega,fM]
 ·
  obtain⟨R,hR⟩:∃R,Va%Vb=R:=⟨_,rfl⟩
  rw[af6,hR]
  have agb:R<4294967296^(n+2):=by rw[←hR];exact Nat.lt_trans (Nat.mod_lt _ hb0) TG
  rw[rW (by decide) (by omega),aL]
  refine aU (fun i=>((i:Int),dr 4294967296 (n+2) (R%4294967296^i))) (n+2) (dr 4294967296 (n+2) R) ?_ (fun i hi=>?_) ?_ rfl
  ·rw[Nat.pow_zero,Nat.mod_one,o8];rfl
  ·obtain⟨e,he⟩:∃e,4294967296=D*e:=⟨2^(32-s),by rw[←hD,←Nat.pow_add,show s+(32-s)=32 by omega,two32]⟩
   have Mb:=Ol (R:=R) (i:=i) Z9 he
   obtain⟨u,hu⟩:∃u,R*D/4294967296^i%4294967296=u:=⟨_,rfl⟩
   obtain⟨w,hw⟩:∃w,R*D/4294967296^(i+1)%4294967296=w:=⟨_,rfl⟩
   have hu1:u<4294967296:=by rw[←hu];exact Nat.mod_lt _ (by decide)
   have hw1:w<4294967296:=by rw[←hw];exact Nat.mod_lt _ (by decide)
   rw[hu,hw]at Mb
   simp only[show decide ((i:Int)<((n+2:Nat):Int))=true by simp;omega,eR]
   rw[cU (by rw[aJ];omega),aL,lN (by omega),aL,hu,bh (by omega),cU (by rw[aJ];omega),aL,lN (by omega),aL,hw,Nat.mod_eq_of_lt (a:=u) (by omega),Nat.mod_eq_of_lt (a:=w) (by omega),two32,Nat.mod_eq_of_lt (a:=w*4294967296) (by omega),Nat.or_comm,HR hu1,Nat.mod_eq_of_lt (a:=w*4294967296+u) (by omega),show min s 64=s by omega,hD,Mb,cU (by rw[aJ];omega),aL,iH (by rw[aJ];omega),aL]
   rw[TF (by decide) hi]
  ·rw[Nat.mod_eq_of_lt agb];simp
end Go.Proofs.YtmiflmkdaeianaaGreat
namespace Go.Proofs.YtmiflmkdaeianaaGreat
open Go.Fw
def sv(n:Bool)(v:Nat):Int:=bif n then-(v:Int)else v
def zi(z:Zr):Int:=sv z.neg (vl z.w)
def zn(i:Int):Zr:=⟨decide (i<0),can 4294967296 i.natAbs⟩
def Wl(z:Zr):Prop:=(∀x∈z.w,x<4294967296)∧z.w.length≤10000000000
def Fit(L:Nat)(i:Int):Prop:=i.natAbs<4294967296^L
theorem Mc(n:Bool)(v:Nat):(sv n v).natAbs=v:=by cases n<;>simp[sv]
theorem rY(z:Zr):(zi z).natAbs=vl z.w:=Mc _ _
theorem TJ(n:Bool)(v:Nat):decide (sv n v<0)=(n&&v != 0):=by
 cases n
 ·have:¬((v:Int)<0):=by omega
  simp[sv,this]
 ·rcases v with _|v
  ·simp[sv]
  ·simp[sv]
theorem nD(n:Bool)(v:Nat):zc n v=zn (sv n v):=by rw[zc,zn,TJ,Mc]
theorem On(i:Int):sv (decide (i<0)) i.natAbs=i:=by
 by_cases h:i<0
 ·rw[show decide (i<0)=true by simp[h]];simp[sv];omega
 ·rw[show decide (i<0)=false by simp[h]];simp[sv];omega
theorem bz(i:Int):zi (zn i)=i:=by
 show sv (decide (i<0)) (vl (can 4294967296 i.natAbs))=i
 rw[show vl (can 4294967296 i.natAbs)=i.natAbs from iS (by decide) _,On]
theorem Ai(n:Bool)(v:Nat):sv (!n) v=-sv n v:=by cases n<;>simp[sv]
theorem iK(v:Nat):sv false v=v:=rfl
theorem Fit.mono{L M:Nat}{i:Int}(h:Fit L i)(hl:L≤M):Fit M i:=Nat.lt_of_lt_of_le h (Nat.pow_le_pow_right (by decide) hl)
theorem Fit.neg{L:Nat}{i:Int}(h:Fit L i):Fit L (-i):=by unfold Fit at*;rw[Int.natAbs_neg];exact h
theorem Fit.add{L:Nat}{i j:Int}(h:Fit L i)(h':Fit L j):Fit (L+1) (i+j):=by
 unfold Fit at*
 have:=Int.natAbs_add_le i j
 rw[Nat.pow_succ];omega
theorem Fit.sub{L:Nat}{i j:Int}(h:Fit L i)(h':Fit L j):Fit (L+1) (i-j):=by
 rw[Int.sub_eq_add_neg];exact h.add h'.neg
theorem Fit.mul{L M:Nat}{i j:Int}(h:Fit L i)(h':Fit M j):Fit (L+M) (i*j):=by
 unfold Fit at*
 rw[Int.natAbs_mul,Nat.pow_add]
 exact Nat.mul_lt_mul'' h h'
theorem Fit.i64{i:Int}(h: -9223372036854775808≤i)(h':i≤9223372036854775807):Fit 2 i:=by
 unfold Fit;rw[show(4294967296:Nat)^2=18446744073709551616 by decide];omega
theorem Fit.le{L:Nat}{i j:Int}(h:Fit L i)(h':j.natAbs≤i.natAbs):Fit L j:=Nat.lt_of_le_of_lt h' h
theorem bK{L:Nat}{i:Int}(h:Fit L i)(hL:L≤10000000000):Wl (zn i):=
 ⟨fun _ hx=>ec (by decide) hx,Nat.le_trans ((aT (by decide)).2 h) hL⟩
theorem Wl.fit{z:Zr}(h:Wl z):Fit z.w.length (zi z):=by
 unfold Fit;rw[rY];exact ew z.w h.1
theorem Wl.lt{z:Zr}(h:Wl z):vl z.w<4294967296^z.w.length:=ew z.w h.1
theorem Wl.cl{z:Zr}(h:Wl z):(can 4294967296 (vl z.w)).length≤10000000000:=
 Nat.le_trans ((aT (by decide)).2 (Wl.lt h)) h.2
theorem Wl.trim{z:Zr}(h:Wl z):az z.w=some (can 4294967296 (vl z.w)):=by
 rw[yx _ (by have:=h.2;omega),iJ (by decide) h.1]
theorem fD{v:Nat}(h:(can 4294967296 v).length≤10000000001):Db (can 4294967296 v):=⟨fun _ hx=>ec (by decide) hx,by omega⟩
theorem dM(v:Nat):vl (can 4294967296 v)=v:=iS (by decide) v
theorem eM{v:Nat}:((can 4294967296 v).length:Int)≤2↔v<18446744073709551616:=by
 have:=aT (B:=4294967296) (by decide) (v:=v) (n:=2)
 rw[show(4294967296:Nat)^2=18446744073709551616 by decide]at this
 omega
theorem kA{v:Nat}:((can 4294967296 v).length:Int)≤1↔v<4294967296:=by
 have:=aT (B:=4294967296) (by decide) (v:=v) (n:=1)
 rw[show(4294967296:Nat)^1=4294967296 by decide]at this
 omega
theorem nE{v:Nat}:(can 4294967296 v).length=0↔v=0:=by
 constructor
 ·intro h;exact vH (by decide) (List.length_eq_zero_iff.1 h)
 ·intro h;rw[h,nC];rfl
theorem vL(l:List Nat)(h:l.length≤1000000000000):cO l=some l:=by
 unfold cO;rw[NY (by decide) (by simp;omega)];simp
end Go.Proofs.YtmiflmkdaeianaaGreat
namespace Go.Proofs.YtmiflmkdaeianaaGreat
open Go.Fw
theorem EJ(a b:Nat):decide (ur a b<0)=decide (a<b):=by
 rcases Nat.lt_trichotomy a b with h|h|h
 ·rw[n6 h];simp[h]
 ·rw[h,sD];simp
 ·rw[qh h];simp;omega
theorem xF(a b:Nat)(ha:(can 4294967296 a).length≤10000000000)(hb:(can 4294967296 b).length≤10000000000)(h0:b≠0):
  ∃q r,eI (can 4294967296 a) (can 4294967296 b)=some (q,r)∧Db q∧vl q=a/b∧Db r∧vl r=a%b∧q.length≤10000000001∧r.length≤10000000001:=by
 unfold eI
 rw[jv a b (by omega) (by omega)]
 simp only[aL]
 by_cases hlt:a<b
 ·rw[n6 hlt]
  simp only[show decide ((-1:Int)<0)=true by decide,eR]
  rw[vL _ (by omega)]
  refine⟨_,_,rfl,⟨by simp,by simp⟩,?_,fD (by omega),?_,by simp,by omega⟩
  ·rw[Nat.div_eq_of_lt hlt];rfl
  ·rw[dM,Nat.mod_eq_of_lt hlt]
 ·rw[EJ,show decide (a<b)=false by simp[hlt]]
  simp only[fM]
  by_cases h2:a<18446744073709551616
  ·rw[show decide (((can 4294967296 a).length:Int)≤2)=true by rw[decide_eq_true_eq];exact eM.2 h2]
   have JC:b<18446744073709551616:=by omega
   simp only[eR]
   have l1:=low_eq (can 4294967296 a) (fun _ hx=>ec (by decide) hx) (by have:=eM.2 h2;omega)
   have l2:=low_eq (can 4294967296 b) (fun _ hx=>ec (by decide) hx) (by have:=eM.2 JC;omega)
   rw[dM]at l1 l2
   rw[l1,aL,l2,aL,C4 h0 h2,aL,pg _ _ (Nat.lt_of_le_of_lt (Nat.div_le_self _ _) h2),aL,yq h0,aL,pg _ _ (Nat.lt_of_le_of_lt (Nat.mod_le _ _) h2),aL]
   have hq:a/b<18446744073709551616:=Nat.lt_of_le_of_lt (Nat.div_le_self _ _) h2
   have hr:a%b<18446744073709551616:=Nat.lt_of_le_of_lt (Nat.mod_le _ _) h2
   have c1:=eM.2 hq
   have c2:=eM.2 hr
   exact⟨_,_,rfl,fD (by omega),dM _,fD (by omega),dM _,by show(can _ _).length≤_;omega,by show(can _ _).length≤_;omega⟩
  ·rw[show decide (((can 4294967296 a).length:Int)≤2)=false by rw[decide_eq_false_iff_not];exact fun h=>h2 (eM.1 h)]
   simp only[fM]
   have sS:(can 4294967296 b).length≠0:=fun h=>h0 (nE.1 h)
   by_cases h1:b<4294967296
   ·have h1':=kA.2 h1
    rw[show decide (((can 4294967296 b).length:Int)=1)=true by simp;omega,eR]
    have hg:(can 4294967296 b)[0]? =some b:=by rw[sy (by decide) (by omega)];simp;exact h1
    rw[vL _ (by omega),aL,o6 hg,aL,Nat.mod_eq_of_lt (b:=18446744073709551616) (by omega),ED _ _ (fD (by omega)) (by omega) (by omega),aL,dM]
    simp only[]
    rw[o7 (by rw[aJ]),aL]
    have hm:a%b<b:=Nat.mod_lt _ (by omega)
    rw[Nat.mod_eq_of_lt (a:=a%b) (by omega)]
    refine⟨_,_,rfl,⟨fun x hx=>lZ (by decide) _ _ _ hx,by rw[aJ];omega⟩,?_,⟨?_,by simp⟩,?_,by rw[aJ];omega,by simp⟩
    ·show val _ _=_
     rw[kz,Nat.mod_eq_of_lt (Nat.lt_of_le_of_lt (Nat.div_le_self _ _) (bp (by decide) a))]
    ·intro x hx;simp at hx;omega
    ·simp[vl,val]
   ·have h1':¬(((can 4294967296 b).length:Int)≤1):=fun h=>h1 (kA.1 h)
    rw[show decide (((can 4294967296 b).length:Int)=1)=false by simp;omega,fM]
    obtain⟨n,hn⟩:∃n,(can 4294967296 b).length=n+2:=⟨(can 4294967296 b).length-2,by omega⟩
    have hl:(can 4294967296 b).length≤(can 4294967296 a).length:=(aT (by decide)).2 (Nat.lt_of_le_of_lt (by omega) (bp (by decide) a))
    obtain⟨l,x,hx,he⟩:=EB (B:=4294967296) (by decide) h0
    have Gu:(can 4294967296 b)[n+1]? ≠some 0:=by
     have:l.length=n+1:=by rw[he]at hn;simp at hn;omega
     rw[he,←this];simp;exact hx
    rw[Gv _ _ (fD (by omega)) (fD (by omega)) hn hl Gu,aL,dM,dM]
    have hbp:0<b:=by omega
    have e1:a<4294967296^(can 4294967296 a).length:=bp (by decide) a
    have e2:b<4294967296^(can 4294967296 b).length:=bp (by decide) b
    have e3:4294967296^(n+1)≤b:=oD (by decide) (by omega)
    refine⟨_,_,rfl,⟨fun x hx=>lZ (by decide) _ _ _ hx,by rw[aJ];omega⟩,?_,⟨fun x hx=>lZ (by decide) _ _ _ hx,by rw[aJ];omega⟩,?_,by rw[aJ];omega,by rw[aJ];omega⟩
    ·show val _ _=_
     rw[kz,Nat.mod_eq_of_lt]
     rw[Nat.div_lt_iff_lt_mul hbp]
     have:4294967296^((can 4294967296 a).length-(can 4294967296 b).length+1)*4294967296^(n+1)=4294967296^(can 4294967296 a).length:=by rw[←Nat.pow_add];congr 1;omega
     calc a<4294967296^((can 4294967296 a).length-(can 4294967296 b).length+1)*4294967296^(n+1):=by rw[this];exact e1
      _≤_:=Nat.mul_le_mul_left _ e3
    ·show val _ _=_
     rw[kz,Nat.mod_eq_of_lt (Nat.lt_trans (Nat.mod_lt _ hbp) e2)]
end Go.Proofs.YtmiflmkdaeianaaGreat
namespace Go.Proofs.YtmiflmkdaeianaaGreat
open Go.Fw
theorem fJ{x:Int}(h1: -9223372036854775808≤x)(h2:x≤9223372036854775807):aM x=some (zn x):=by
 unfold aM
 simp only[aL,bM]
 by_cases hx:x<0
 ·have e:(x%18446744073709551616).toNat=18446744073709551616-x.natAbs:=by omega
  rw[show decide (x<0)=true by simp[hx],eR,e,vF (by omega) (by omega),show 18446744073709551616+0-(18446744073709551616-x.natAbs)=x.natAbs by omega,pg _ _ (by omega),aL,nD,show sv true x.natAbs=x by simp[sv];omega]
 ·have e:(x%18446744073709551616).toNat=x.natAbs:=by omega
  rw[show decide (x<0)=false by simp[hx],fM,e,pg _ _ (by omega),aL,nD,show sv false x.natAbs=x by simp[sv];omega]
def da(i:Int):Prop:=-9223372036854775808≤i∧i≤9223372036854775807
instance(i:Int):Decidable (da i):=by unfold da;infer_instance
def rZ(i:Int):Int×Bool:=if da i then(i,true)else(0,false)
theorem nF{z:Zr}(h:Wl z):cw z=some (rZ (zi z)):=by
 obtain⟨n,w⟩:=z
 unfold cw
 have ht:=h.trim
 have agc:vl w<18446744073709551616→cL (can 4294967296 (vl w))=some (vl w):=fun h2=>by
  rw[low_eq _ (fun _ hx=>ec (by decide) hx) (by have:=eM.2 h2;omega),dM]
 show(az w).bind _=some (rZ (sv n (vl w)))
 rw[show az w=some (can 4294967296 (vl w))from ht]
 simp only[aL]
 generalize vl w=v at*
 by_cases h2:v<18446744073709551616
 ·have:=eM.2 h2
  rw[show decide ((2:Int)<((can 4294967296 v).length:Int))=false by simp;omega,fM,agc h2,aL]
  cases n
  ·rw[fM,iK]
   by_cases h3:v<9223372036854775808
   ·rw[show decide (9223372036854775808≤v)=false by simp;omega,fM,eN (by omega),rZ,if_pos (by unfold da;omega)]
   ·rw[show decide (9223372036854775808≤v)=true by simp;omega,eR,rZ,if_neg (by unfold da;omega)]
  ·rw[eR,show sv true v=-(v:Int)from rfl]
   by_cases h3:9223372036854775808<v
   ·rw[show decide (9223372036854775808<v)=true by simp;omega,eR,rZ,if_neg (by unfold da;omega)]
   ·rw[show decide (9223372036854775808<v)=false by simp;omega,fM,rZ,if_pos (by unfold da;omega)]
    by_cases h0:v=0
    ·subst h0;rfl
    ·rw[vF (by omega) (by omega)]
     rw[show IntKind.i64.wrap ((18446744073709551616+0-v:Nat):Int)=-(v:Int) by
      rw[IntKind.wrap];simp[IntKind.signed,IntKind.bits];omega]
 ·have:¬(((can 4294967296 v).length:Int)≤2):=fun h=>h2 (eM.1 h)
  rw[show decide ((2:Int)<((can 4294967296 v).length:Int))=true by simp;omega,eR,rZ,if_neg (by unfold da;cases n<;>simp[sv]<;>omega)]
theorem sign_eq{z:Zr}(h:Wl z):cD z=some (zi z).sign:=by
 obtain⟨n,w⟩:=z
 unfold cD
 show(az w).bind _=some (sv n (vl w)).sign
 rw[show az w=some (can 4294967296 (vl w))from h.trim]
 simp only[aL]
 generalize vl w=v
 by_cases h0:v=0
 ·subst h0;cases n<;>rfl
 ·have:(can 4294967296 v).length≠0:=fun h=>h0 (nE.1 h)
  rw[show decide (((can 4294967296 v).length:Int)=0)=false by simp;intro e;rw[e]at this;exact this rfl,fM]
  cases n
  ·rw[fM,iK,Int.sign_eq_one_of_pos (by omega)]
  ·rw[eR,show sv true v=-(v:Int)from rfl,Int.sign_eq_neg_one_of_neg (by omega)]
def jB(i j:Int):Int:=if i<j then-1 else if i=j then 0 else 1
theorem fP{i j:Int}(h:i<j):jB i j=-1:=by simp[jB,h]
theorem fQ{i j:Int}(h:j<i):jB i j=1:=by
 have h1:¬i<j:=by omega
 have h2:¬i=j:=by omega
 simp[jB,h1,h2]
theorem mI(i:Int):jB i i=0:=by simp[jB]
theorem Aj(v w:Nat):ur v w=jB (v:Int) (w:Int):=by
 rcases Nat.lt_trichotomy v w with h|h|h
 ·rw[n6 h,fP (by omega)]
 ·rw[h,sD,mI]
 ·rw[qh h,fQ (by omega)]
theorem EK(i j:Int):jB (-i) (-j)=jB j i:=by
 rcases Int.lt_trichotomy i j with h|h|h
 ·rw[fQ h,fQ (by omega)]
 ·rw[h,mI,mI]
 ·rw[fP h,fP (by omega)]
theorem TK{x y:Zr}(hx:Wl x)(hy:Wl y):lf x y=some (jB (zi x) (zi y)):=by
 obtain⟨n,w⟩:=x
 obtain⟨m,u⟩:=y
 unfold lf
 show(cD ⟨n,w⟩).bind _=_
 rw[sign_eq hx,aL]
 show(cD ⟨m,u⟩).bind _=_
 rw[sign_eq hy,aL,show az w=some (can 4294967296 (vl w))from hx.trim,show az u=some (can 4294967296 (vl u))from hy.trim]
 simp only[aL]
 rw[jv _ _ (Nat.le_trans hx.cl (by decide)) (Nat.le_trans hy.cl (by decide)),jv _ _ (Nat.le_trans hy.cl (by decide)) (Nat.le_trans hx.cl (by decide))]
 simp only[aL]
 rw[show zi ⟨n,w⟩=sv n (vl w)from rfl,show zi ⟨m,u⟩=sv m (vl u)from rfl]
 generalize vl w=a
 generalize vl u=b
 rw[Aj,Aj]
 obtain⟨i,hi⟩:∃i,sv n a=i:=⟨_,rfl⟩
 obtain⟨j,hj⟩:∃j,sv m b=j:=⟨_,rfl⟩
 have T3:(i<0→i=-(a:Int))∧(0≤i→i=a):=by rw[←hi];cases n<;>simp[sv]<;>omega
 have hjb:(j<0→j=-(b:Int))∧(0≤j→j=b):=by rw[←hj];cases m<;>simp[sv]<;>omega
 rw[hi,hj]
 rcases Int.lt_trichotomy i 0 with h1|h1|h1<;>rcases Int.lt_trichotomy j 0 with h2|h2|h2
 ·rw[Int.sign_eq_neg_one_of_neg h1,Int.sign_eq_neg_one_of_neg h2,T3.1 h1,hjb.1 h2,EK];rfl
 ·rw[Int.sign_eq_neg_one_of_neg h1,show Int.sign j=0 by rw[h2];rfl,show jB i j=-1 from fP (by omega)];rfl
 ·rw[Int.sign_eq_neg_one_of_neg h1,Int.sign_eq_one_of_pos h2,show jB i j=-1 from fP (by omega)];rfl
 ·rw[show Int.sign i=0 by rw[h1];rfl,Int.sign_eq_neg_one_of_neg h2,show jB i j=1 from fQ (by omega)];rfl
 ·rw[show Int.sign i=0 by rw[h1];rfl,show Int.sign j=0 by rw[h2];rfl,←T3.2 (by omega),←hjb.2 (by omega)];rfl
 ·rw[show Int.sign i=0 by rw[h1];rfl,Int.sign_eq_one_of_pos h2,show jB i j=-1 from fP (by omega)];rfl
 ·rw[Int.sign_eq_one_of_pos h1,Int.sign_eq_neg_one_of_neg h2,show jB i j=1 from fQ (by omega)];rfl
 ·rw[Int.sign_eq_one_of_pos h1,show Int.sign j=0 by rw[h2];rfl,show jB i j=1 from fQ (by omega)];rfl
 ·rw[Int.sign_eq_one_of_pos h1,Int.sign_eq_one_of_pos h2,←T3.2 (by omega),←hjb.2 (by omega)];rfl
theorem neg_eq{x:Zr}(hx:Wl x):gz x=some (zn (-zi x)):=by
 obtain⟨n,w⟩:=x
 unfold gz
 have hc:(can 4294967296 (vl w)).length≤10000000000:=hx.cl
 simp only[aL]
 rw[show az w=some (can 4294967296 (vl w))from hx.trim,aL,vL _ (by omega),aL,jm _ _ (fD (by omega)),aL,dM,nD,Ai]
 rfl
end Go.Proofs.YtmiflmkdaeianaaGreat
namespace Go.Proofs.YtmiflmkdaeianaaGreat
open Go.Fw
theorem vM(n m:Bool)(a b:Nat)(ha:(can 4294967296 a).length≤10000000000)(hb:(can 4294967296 b).length≤10000000000):
  bT n (can 4294967296 a) m (can 4294967296 b)=some (zn (sv n a+sv m b)):=by
 have la:=bp (B:=4294967296) (by decide) a
 have lb:=bp (B:=4294967296) (by decide) b
 unfold bT
 simp only[aL]
 by_cases hnm:n=m
 ·subst hnm
  rw[show(n==n)=true by simp,eR,xD _ _ (fD (by omega)) (fD (by omega)),aL,dM,dM,jm _ _ ⟨fun x hx=>lZ (by decide) _ _ _ hx,by rw[aJ];omega⟩,aL]
  have hv:vl (dr 4294967296 (max (can 4294967296 a).length (can 4294967296 b).length+1) (a+b))=a+b:=by
   show val _ _=_
   rw[kz,Nat.mod_eq_of_lt]
   have h1:a<4294967296^(max (can 4294967296 a).length (can 4294967296 b).length):=Nat.lt_of_lt_of_le la (Nat.pow_le_pow_right (by decide) (by omega))
   have h2:b<4294967296^(max (can 4294967296 a).length (can 4294967296 b).length):=Nat.lt_of_lt_of_le lb (Nat.pow_le_pow_right (by decide) (by omega))
   rw[Nat.pow_succ];omega
  rw[hv,nD,show sv n (a+b)=sv n a+sv n b by cases n<;>simp[sv];omega]
 ·rw[show(n==m)=false by simp[hnm],fM,jv _ _ (by omega) (by omega),aL,EJ]
  have hm:m= !n:=by cases n<;>cases m<;>simp_all
  subst hm
  have hv:∀c d,d≤c→(can 4294967296 c).length≤10000000000→bR (can 4294967296 c) (can 4294967296 d)=some (dr 4294967296 (can 4294967296 c).length (c-d))∧vl (dr 4294967296 (can 4294967296 c).length (c-d))=c-d:=by
   intro c d hdc uA
   have lc:=bp (B:=4294967296) (by decide) c
   have QH:(can 4294967296 d).length≤(can 4294967296 c).length:=(aT (by decide)).2 (by omega)
   constructor
   ·rw[xE _ _ (fD (by omega)) (fD (by omega)) QH (by rw[dM,dM];exact hdc),dM,dM]
   ·show val _ _=_
    rw[kz,Nat.mod_eq_of_lt (by omega)]
  by_cases hlt:a<b
  ·obtain⟨h1,h2⟩:=hv b a (by omega) hb
   rw[show decide (a<b)=true by simp[hlt],eR,h1,aL,jm _ _ ⟨fun x hx=>lZ (by decide) _ _ _ hx,by rw[aJ];omega⟩,aL,h2,nD,show sv (!n) (b-a)=sv n a+sv (!n) b by cases n<;>simp[sv]<;>omega]
  ·obtain⟨h1,h2⟩:=hv a b (by omega) ha
   rw[show decide (a<b)=false by simp[hlt],fM,h1,aL,jm _ _ ⟨fun x hx=>lZ (by decide) _ _ _ hx,by rw[aJ];omega⟩,aL,h2,nD,show sv n (a-b)=sv n a+sv (!n) b by cases n<;>simp[sv]<;>omega]
theorem HU(v:BitVec 64):IntKind.i64.wrap (v.toNat:Int)=v.toInt:=by
 rw[BitVec.toInt_eq_toNat_cond]
 have:=v.isLt
 rw[show(2:Nat)^64=18446744073709551616 by decide]at this⊢
 split
 ·rw[eN (by omega)]
 ·rw[IntKind.wrap];simp[IntKind.signed,IntKind.bits];omega
theorem HV(v:BitVec 64):BitVec.ofInt 64 (IntKind.i64.wrap (v.toNat:Int))=v:=by rw[HU,BitVec.ofInt_toInt]
theorem wW{x:Int}(h:da x):(BitVec.ofInt 64 x).msb=decide (x<0):=by
 rw[BitVec.msb_eq_toInt,BitVec.toInt_ofInt]
 unfold da at h
 have:x.bmod (2^64)=x:=by
  rw[Int.bmod_def]
  simp only[show((2^64:Nat):Int)=18446744073709551616 by decide]
  split<;>omega
 rw[this]
theorem BJ(v:BitVec 64):decide ((0:Int)≤IntKind.i64.wrap (v.toNat:Int))= !v.msb:=by
 rw[HU,BitVec.msb_eq_toInt]
 by_cases h:v.toInt<0
 ·simp[h]
 ·simp[h];omega
theorem pq(x:Int):da (IntKind.i64.wrap x):=by
 unfold da
 rw[IntKind.wrap];simp[IntKind.signed,IntKind.bits];split<;>omega
theorem vN{α:Type}(b:Bool)(x:α):(bif b then x else x)=x:=by cases b<;>rfl
theorem g9{i:Int}(h:da i):rZ i=(i,true):=if_pos h
theorem nG{i:Int}(h:¬da i):rZ i=(0,false):=if_neg h
theorem add_eq{x y:Zr}(hx:Wl x)(hy:Wl y):cM x y=some (zn (zi x+zi y)):=by
 obtain⟨n,w⟩:=x
 obtain⟨m,u⟩:=y
 unfold cM
 simp only[nF hx,nF hy,aL,bM]
 have hK:((az w).bind fun vV=>(az u).bind fun rm=>(bT n vV m rm).bind fun x=>some x)=some (zn (zi ⟨n,w⟩+zi ⟨m,u⟩)):=by
  rw[show az w=some (can 4294967296 (vl w))from hx.trim,show az u=some (can 4294967296 (vl u))from hy.trim,aL,aL,vM _ _ _ _ hx.cl hy.cl,aL];rfl
 have hK':((az w).bind fun vV=>(az u).bind fun rm=>(bT n vV m rm).bind fun x=>some ⟨x.neg,x.w⟩)=some (zn (zi ⟨n,w⟩+zi ⟨m,u⟩)):=hK
 rw[hK']
 generalize zi ⟨n,w⟩=i
 generalize zi ⟨m,u⟩=j
 by_cases h1:da i
 ·by_cases h2:da j
  ·rw[g9 h1,g9 h2,eR,aL,eR,HV,HV,BJ,BitVec.msb_and,BitVec.msb_xor,BitVec.msb_xor,wW h1,wW h2,wW (pq _),fJ (pq _).1 (pq _).2,aL]
   by_cases hr:da (i+j)
   ·rw[b7 hr.1 hr.2]
    exact vN _ _
   ·have:(!((decide (i<0)^^decide (IntKind.i64.wrap (i+j)<0))&&(decide (j<0)^^decide (IntKind.i64.wrap (i+j)<0))))=false:=by
     unfold da at*
     by_cases hs:i<0
     ·have e:IntKind.i64.wrap (i+j)=i+j+18446744073709551616:=by rw[IntKind.wrap];simp[IntKind.signed,IntKind.bits];omega
      rw[e,show decide (i<0)=true by simp[hs],show decide (j<0)=true by simp;omega,show decide (i+j+18446744073709551616<0)=false by simp;omega];rfl
     ·have e:IntKind.i64.wrap (i+j)=i+j-18446744073709551616:=by rw[IntKind.wrap];simp[IntKind.signed,IntKind.bits];omega
      rw[e,show decide (i<0)=false by simp[hs],show decide (j<0)=false by simp;omega,show decide (i+j-18446744073709551616<0)=true by simp;omega];rfl
    rw[this,fM]
  ·rw[g9 h1,nG h2,eR,aL,fM]
 ·rw[nG h1,fM,aL,fM]
theorem sub_eq{x y:Zr}(hx:Wl x)(hy:Wl y):iA x y=some (zn (zi x-zi y)):=by
 obtain⟨n,w⟩:=x
 obtain⟨m,u⟩:=y
 unfold iA
 simp only[nF hx,nF hy,aL,bM]
 have hK':((az w).bind fun vV=>(az u).bind fun rm=>(bT n vV (!m) rm).bind fun x=>some ⟨x.neg,x.w⟩)=some (zn (zi ⟨n,w⟩-zi ⟨m,u⟩)):=by
  rw[show az w=some (can 4294967296 (vl w))from hx.trim,show az u=some (can 4294967296 (vl u))from hy.trim,aL,aL,vM _ _ _ _ hx.cl hy.cl,aL,Ai,←Int.sub_eq_add_neg];rfl
 rw[hK']
 generalize zi ⟨n,w⟩=i
 generalize zi ⟨m,u⟩=j
 by_cases h1:da i
 ·by_cases h2:da j
  ·rw[g9 h1,g9 h2,eR,aL,eR,HV,HV,BJ,BitVec.msb_and,BitVec.msb_xor,BitVec.msb_xor,wW h1,wW h2,wW (pq _),fJ (pq _).1 (pq _).2,aL]
   by_cases hr:da (i-j)
   ·rw[b7 hr.1 hr.2]
    exact vN _ _
   ·have:(!((decide (i<0)^^decide (j<0))&&(decide (i<0)^^decide (IntKind.i64.wrap (i-j)<0))))=false:=by
     unfold da at*
     by_cases hs:i<0
     ·have e:IntKind.i64.wrap (i-j)=i-j+18446744073709551616:=by rw[IntKind.wrap];simp[IntKind.signed,IntKind.bits];omega
      rw[e,show decide (i<0)=true by simp[hs],show decide (j<0)=false by simp;omega,show decide (i-j+18446744073709551616<0)=false by simp;omega];rfl
     ·have e:IntKind.i64.wrap (i-j)=i-j-18446744073709551616:=by rw[IntKind.wrap];simp[IntKind.signed,IntKind.bits];omega
      rw[e,show decide (i<0)=false by simp[hs],show decide (j<0)=true by simp;omega,show decide (i-j-18446744073709551616<0)=true by simp;omega];rfl
    rw[this,fM]
  ·rw[g9 h1,nG h2,eR,aL,fM]
 ·rw[nG h1,fM,aL,fM]
theorem Gw(n m:Bool)(a b:Nat):sv (!(n==m)) (a*b)=sv n a*sv m b:=by
 cases n<;>cases m<;>simp[sv,Int.neg_mul,Int.mul_neg]
theorem mul_eq{x y:Zr}(hx:Wl x)(hy:Wl y):ff x y=some (zn (zi x*zi y)):=by
 obtain⟨n,w⟩:=x
 obtain⟨m,u⟩:=y
 unfold ff
 have hcx:(can 4294967296 (vl w)).length≤10000000000:=hx.cl
 have hcy:(can 4294967296 (vl u)).length≤10000000000:=hy.cl
 simp only[]
 rw[show az w=some (can 4294967296 (vl w))from hx.trim,show az u=some (can 4294967296 (vl u))from hy.trim,aL,aL,show zi ⟨n,w⟩=sv n (vl w)from rfl,show zi ⟨m,u⟩=sv m (vl u)from rfl]
 simp only[aL,bM]
 generalize vl w=a at*
 generalize vl u=b at*
 have la:=bp (B:=4294967296) (by decide) a
 have lb:=bp (B:=4294967296) (by decide) b
 have hK:((eH (can 4294967296 a) (can 4294967296 b)).bind fun qN=>(bj (!(n==m)) qN).bind fun x=>some ⟨x.neg,x.w⟩)=some (zn (sv n a*sv m b)):=by
  rw[EC _ _ (fD (by omega)) (fD (by omega)),aL,dM,dM,jm _ _ ⟨fun x hx=>lZ (by decide) _ _ _ hx,by rw[aJ];omega⟩,aL,nD]
  have hv:vl (dr 4294967296 ((can 4294967296 a).length+(can 4294967296 b).length) (a*b))=a*b:=by
   show val _ _=_
   rw[kz,Nat.mod_eq_of_lt]
   rw[Nat.pow_add];exact Nat.mul_lt_mul'' la lb
  rw[hv,Gw]
 rw[hK]
 by_cases h1:a<4294967296
 ·by_cases h2:b<4294967296
  ·have l1:=low_eq (can 4294967296 a) (fun _ hx=>ec (by decide) hx) (by have:=kA.2 h1;omega)
   have l2:=low_eq (can 4294967296 b) (fun _ hx=>ec (by decide) hx) (by have:=kA.2 h2;omega)
   rw[dM]at l1 l2
   have hlt:a*b<18446744073709551616:=Nat.mul_lt_mul'' h1 h2
   rw[show decide (((can 4294967296 a).length:Int)≤1)=true by rw[decide_eq_true_eq];exact kA.2 h1,eR,aL,show decide (((can 4294967296 b).length:Int)≤1)=true by rw[decide_eq_true_eq];exact kA.2 h2,eR,l1,l2,aL,aL,Nat.mod_eq_of_lt hlt,pg _ _ hlt,aL,nD,Gw]
  ·rw[show decide (((can 4294967296 a).length:Int)≤1)=true by rw[decide_eq_true_eq];exact kA.2 h1,eR,aL,show decide (((can 4294967296 b).length:Int)≤1)=false by rw[decide_eq_false_iff_not];exact fun h=>h2 (kA.1 h),fM]
 ·rw[show decide (((can 4294967296 a).length:Int)≤1)=false by rw[decide_eq_false_iff_not];exact fun h=>h1 (kA.1 h),fM,aL,fM]
end Go.Proofs.YtmiflmkdaeianaaGreat
namespace Go.Proofs.YtmiflmkdaeianaaGreat
open Go.Fw
theorem Md(n m:Bool){a b:Nat}(hb:0<b):
  sv n a/sv m b=(if n=true∧0<a%b then sv (!(n==m)) (a/b+1)else sv (!(n==m)) (a/b))∧
  sv n a%sv m b=(if n=true∧0<a%b then((b-a%b:Nat):Int)else((a%b:Nat):Int)):=by
 have hd:=Nat.div_add_mod a b
 have hm:=Nat.mod_lt a hb
 revert hd hm
 generalize a/b=q
 generalize a%b=r
 intro hd hm
 have hd':(b:Int)*q+r=a:=by exact_mod_cast hd
 have pos:∀n,sv n a/(b:Int)=(if n=true∧0<r then sv n (q+1)else sv n q)∧sv n a%(b:Int)=(if n=true∧0<r then((b-r:Nat):Int)else(r:Int)):=by
  intro n
  apply(Int.ediv_emod_unique (by omega)).2
  cases n
  ·simp[sv];omega
  ·by_cases hr:0<r
   ·simp only[hr,and_self,if_true,sv,cond_true]
    have:(b:Int)* -((q+1:Nat):Int)=-((b:Int)*q)-b:=by
     rw[Int.mul_neg,Int.natCast_add,Int.mul_add];simp;omega
    rw[this];omega
   ·have:r=0:=by omega
    subst this
    simp[sv,Int.mul_neg];omega
 cases m
 ·have:=pos n
  rw[iK,show(!(n==false))=n by cases n<;>rfl]
  exact this
 ·have:=pos n
  rw[show sv true b=-(b:Int)from rfl,Int.ediv_neg,Int.emod_neg,this.1,this.2,show(!(n==true))= !n by cases n<;>rfl,Ai,Ai]
  refine⟨?_,rfl⟩
  split<;>rfl
theorem TL{a b:Nat}(hba:b≤a)(uA:(can 4294967296 a).length≤10000000000):bR (can 4294967296 a) (can 4294967296 b)=some (dr 4294967296 (can 4294967296 a).length (a-b))∧vl (dr 4294967296 (can 4294967296 a).length (a-b))=a-b:=by
 have lc:=bp (B:=4294967296) (by decide) a
 have QH:(can 4294967296 b).length≤(can 4294967296 a).length:=(aT (by decide)).2 (by omega)
 constructor
 ·rw[xE _ _ (fD (by omega)) (fD (by omega)) QH (by rw[dM,dM];exact hba),dM,dM]
 ·show val _ _=_
  rw[kz,Nat.mod_eq_of_lt (by omega)]
def A4(i j:Int):Zr×Zr×Int:=if j=0 then(⟨false,[]⟩,⟨false,[]⟩,7)else(zn (i/j),zn (i%j),0)
theorem divMod_eq{x y:Zr}(hx:Wl x)(hy:Wl y):cu x y=some (A4 (zi x) (zi y)):=by
 obtain⟨n,w⟩:=x
 obtain⟨m,u⟩:=y
 unfold cu
 have hcx:(can 4294967296 (vl w)).length≤10000000000:=hx.cl
 have hcy:(can 4294967296 (vl u)).length≤10000000000:=hy.cl
 simp only[]
 rw[show az w=some (can 4294967296 (vl w))from hx.trim,show az u=some (can 4294967296 (vl u))from hy.trim,aL,aL,show zi ⟨n,w⟩=sv n (vl w)from rfl,show zi ⟨m,u⟩=sv m (vl u)from rfl]
 simp only[aL,bM]
 generalize vl w=a at*
 generalize vl u=b at*
 by_cases h0:b=0
 ·subst h0
  rw[show sv m 0=0 by cases m<;>rfl];rfl
 ·have sS:(can 4294967296 b).length≠0:=fun h=>h0 (nE.1 h)
  rw[show decide (((can 4294967296 b).length:Int)=0)=false by simp;intro e;rw[e]at sS;exact sS rfl,fM]
  obtain⟨q,r,hqr,hq1,hq2,SK,We,hq3,hr3⟩:=xF a b hcx hcy h0
  have hm:a%b<b:=Nat.mod_lt _ (by omega)
  obtain⟨e1,e2⟩:=Md n m (a:=a) (show 0<b by omega)
  have hj:sv m b≠0:=by cases m<;>simp[sv]<;>omega
  rw[hqr,aL]
  simp only[]
  rw[yx r (by have:=SK.2;omega),iJ (by decide) SK.1,show val 4294967296 r=a%b from We,aL,A4,if_neg hj,e1,e2]
  have hrl:(can 4294967296 (a%b)).length≤(can 4294967296 b).length:=(aT (by decide)).2 (Nat.lt_trans hm (bp (by decide) b))
  have hK:∀c:Bool,(decide (n=true∧0<a%b)=c)→(bif c then(cC q [1]).bind fun qN=>(bR (can 4294967296 b) (can 4294967296 (a%b))).bind fun oc=>(bj (!(n==m)) qN).bind fun x=>(bj false oc).bind fun x_1=>some ((⟨x.neg,x.w⟩:Zr),(⟨x_1.neg,x_1.w⟩:Zr),(0:Int))
    else(bj (!(n==m)) q).bind fun x=>(bj false (can 4294967296 (a%b))).bind fun x_1=>some ((⟨x.neg,x.w⟩:Zr),(⟨x_1.neg,x_1.w⟩:Zr),(0:Int)))=
    some (zn (if n=true∧0<a%b then sv (!(n==m)) (a/b+1)else sv (!(n==m)) (a/b)),zn (if n=true∧0<a%b then((b-a%b:Nat):Int)else((a%b:Nat):Int)),0):=by
   intro c hc
   cases c
   ·have Me:=of_decide_eq_false hc
    rw[fM,if_neg Me,if_neg Me,jm _ _ hq1,aL,jm _ _ (fD (by omega)),aL,dM,hq2,nD,nD,iK]
   ·have Me:=of_decide_eq_true hc
    obtain⟨s1,s2⟩:=TL (a:=b) (b:=a%b) (by omega) hcy
    have w1:Db [1]:=⟨by simp,by simp⟩
    rw[eR,if_pos Me,if_pos Me,xD _ _ hq1 w1,aL,s1,aL,jm _ _ ⟨fun x hx=>lZ (by decide) _ _ _ hx,by rw[aJ];simp;omega⟩,aL,jm _ _ ⟨fun x hx=>lZ (by decide) _ _ _ hx,by rw[aJ];omega⟩,aL,s2,nD,nD,iK]
    have:vl (dr 4294967296 (max q.length [1].length+1) (vl q+vl [1]))=a/b+1:=by
     show val _ _=_
     rw[kz,show vl [1]=1 by decide,hq2,Nat.mod_eq_of_lt]
     have h1:vl q<4294967296^q.length:=ew q hq1.1
     rw[hq2]at h1
     have h2:4294967296^q.length≤4294967296^(max q.length [1].length):=Nat.pow_le_pow_right (by decide) (by omega)
     have h3:0<4294967296^(max q.length [1].length):=Nat.pow_pos (by decide)
     rw[Nat.pow_succ];omega
    rw[this]
  have hz:(0<(can 4294967296 (a%b)).length)↔0<a%b:=by
   have:=nE (v:=a%b);omega
  cases n
  ·rw[fM,aL]
   exact hK false (by simp)
  ·rw[eR,aL]
   refine hK _ ?_
   simp only[true_and]
   by_cases h:0<a%b
   ·simp[h,hz.2 h]
   ·have h':¬0<(can 4294967296 (a%b)).length:=fun e=>h (hz.1 e)
    have h'':¬((0:Int)<((can 4294967296 (a%b)).length:Int)):=by omega
    simp only[h,h'',decide_false]
theorem TM{x y:Zr}(hx:Wl x)(hy:Wl y):jF x y=some (zn (Int.gcd (zi x) (zi y):Int)):=by
 obtain⟨n,w⟩:=x
 obtain⟨m,u⟩:=y
 unfold jF
 have hcx:(can 4294967296 (vl w)).length≤10000000000:=hx.cl
 have hcy:(can 4294967296 (vl u)).length≤10000000000:=hy.cl
 simp only[]
 rw[show az w=some (can 4294967296 (vl w))from hx.trim,show az u=some (can 4294967296 (vl u))from hy.trim,aL,aL,Int.gcd,rY,rY]
 show _=some (zn ((Nat.gcd (vl w) (vl u):Nat):Int))
 generalize vl w=a at*
 generalize vl u=b at*
 refine eX (fun s=>∃c d,s=(can 4294967296 c,can 4294967296 d)∧Nat.gcd c d=Nat.gcd a b∧(can 4294967296 c).length≤10000000000∧(can 4294967296 d).length≤10000000000)
  (fun s=>∃c d,s=(can 4294967296 c,can 4294967296 d)∧Nat.gcd c d=Nat.gcd a b∧(can 4294967296 c).length≤10000000000∧(d=0∨(c<18446744073709551616∧d<18446744073709551616))) (fun s=>vl s.2) ?_ ⟨a,b,rfl,rfl,hcx,hcy⟩ ?_
 ·rintro _ ⟨c,d,rfl,hg,hc,hd⟩
  simp only[aL,bM]
  by_cases h0:d=0
  ·right
   subst h0
   exact⟨_,rfl,c,0,rfl,hg,hc,.inl rfl⟩
  ·have sS:(can 4294967296 d).length≠0:=fun h=>h0 (nE.1 h)
   rw[show decide ((0:Int)<((can 4294967296 d).length:Int))=true by simp;omega,eR]
   by_cases h2:c<18446744073709551616∧d<18446744073709551616
   ·right
    have c1:=eM.2 h2.1
    have c2:=eM.2 h2.2
    rw[show decide ((2:Int)<((can 4294967296 c).length:Int))=false by simp;omega,fM,show decide ((2:Int)<((can 4294967296 d).length:Int))=false by simp;omega]
    exact⟨_,rfl,c,d,rfl,hg,hc,.inr h2⟩
   ·left
    have hm:c%d<d:=Nat.mod_lt _ (by omega)
    obtain⟨q,r,hqr,hq1,hq2,SK,We,-,-⟩:=xF c d hc hd h0
    have uO:((bif decide ((2:Int)<((can 4294967296 c).length:Int))then some true else some (decide ((2:Int)<((can 4294967296 d).length:Int)))):Option Bool)=some true:=by
     by_cases Fb:c<18446744073709551616
     ·have hd2:¬d<18446744073709551616:=fun h=>h2 ⟨Fb,h⟩
      have:¬(((can 4294967296 d).length:Int)≤2):=fun h=>hd2 (eM.1 h)
      rw[show decide ((2:Int)<((can 4294967296 d).length:Int))=true by simp;omega]
      exact vN _ _
     ·have:¬(((can 4294967296 c).length:Int)≤2):=fun h=>Fb (eM.1 h)
      rw[show decide ((2:Int)<((can 4294967296 c).length:Int))=true by simp;omega,eR]
    rw[uO,aL,aL,eR,hqr,aL]
    simp only[]
    rw[yx r (by have:=SK.2;omega),iJ (by decide) SK.1,show val 4294967296 r=c%d from We,aL]
    refine⟨_,rfl,⟨d,c%d,rfl,?_,hd,?_⟩,?_⟩
    ·rw[←hg,Nat.gcd_comm d,←Nat.gcd_rec,Nat.gcd_comm]
    ·exact Nat.le_trans ((aT (by decide)).2 (Nat.lt_trans hm (bp (by decide) d))) hd
    ·simp only[dM];exact hm
 ·rintro _ ⟨c,d,rfl,hg,hc,Es⟩
  simp only[aL]
  by_cases h0:d=0
  ·subst h0
   rw[show decide (((can 4294967296 0).length:Int)=0)=true by simp[nC],eR,vL _ (by omega),aL,jm _ _ (fD (by omega)),aL,dM,nD,iK,←hg,Nat.gcd_zero_right]
  ·have h2:=Es.resolve_left h0
   have sS:(can 4294967296 d).length≠0:=fun h=>h0 (nE.1 h)
   have c1:=eM.2 h2.1
   have c2:=eM.2 h2.2
   rw[show decide (((can 4294967296 d).length:Int)=0)=false by simp;intro e;rw[e]at sS;exact sS rfl,fM,low_eq _ (fun _ hx=>ec (by decide) hx) (by omega),aL,low_eq _ (fun _ hx=>ec (by decide) hx) (by omega),aL,dM,dM]
   refine eX (fun s=>Nat.gcd s.1 s.2=Nat.gcd a b∧s.1<18446744073709551616∧s.2<18446744073709551616) (fun e=>e=Nat.gcd a b∧e<18446744073709551616) (fun s=>s.2) ?_ ⟨hg,h2.1,h2.2⟩ ?_
   ·rintro⟨s,t⟩ ⟨i1,i2,i3⟩
    simp only at i1 i2 i3⊢
    by_cases ht:0<t
    ·left
     rw[show decide (0<t)=true by simp[ht],eR,yq (by omega),aL]
     refine⟨_,rfl,⟨?_,i3,?_⟩,Nat.mod_lt _ ht⟩
     ·rw[←i1,Nat.gcd_comm t,←Nat.gcd_rec,Nat.gcd_comm]
     ·exact Nat.lt_trans (Nat.mod_lt _ ht) i3
    ·right
     rw[show decide (0<t)=false by simp[ht],fM]
     refine⟨_,rfl,?_,i2⟩
     rw[←i1,show t=0 by omega,Nat.gcd_zero_right]
   ·rintro e ⟨rfl,he⟩
    rw[pg _ _ he,aL,nD,iK]
end Go.Proofs.YtmiflmkdaeianaaGreat
namespace Go.Proofs.YtmiflmkdaeianaaGreat
open Go.Fw
def zl(l:List Nat):List Int:=l.map (fun(n:Nat)=>(n:Int))
theorem cZ(l:List Nat):(zl l).length=l.length:=by simp[zl]
theorem ux{l:List Nat}{i x:Nat}(h:l[i]? =some x):(zl l)[i]? =some (x:Int):=by simp[zl,h]
theorem Df(l k:List Nat):zl (l++k)=zl l++zl k:=by simp[zl]
theorem Gx(x:Nat):zl [x]=[(x:Int)]:=rfl
theorem Oo(l:List Nat)(n:Nat):(zl l).take n=zl (l.take n):=by simp[zl,List.map_take]
theorem Mf(l:List Nat)(i x:Nat):(zl l).set i (x:Int)=zl (l.set i x):=by simp[zl,List.map_set]
def Dg(l:List Nat):Prop:=(∀x∈l,x<65536)∧l.length≤100000000000
abbrev eO(l:List Nat):Nat:=val 65536 l
theorem iL(l:List Nat)(hl:l.length≤1000000000000):bY (zl l)=some (zl (iI l)):=by
 unfold bY
 simp only[aL]
 refine eX (fun y=>∃n:Nat,y=(n:Int)∧n≤l.length∧iI (l.take n)=iI l) (fun y=>∃n:Nat,y=(n:Int)∧n≤l.length∧l.take n=iI l) (fun y=>y.toNat) ?_ ⟨l.length,by rw[cZ],Nat.le_refl _,by rw[List.take_length]⟩ ?_
 ·rintro _ ⟨n,rfl,hn,ht⟩
  simp only[bM]
  rcases n with _|n
  ·right
   refine⟨_,rfl,0,rfl,by omega,?_⟩
   rw[←ht];rfl
  ·have hi:∃x,l[n]? =some x:=⟨l[n],by simp⟩
   obtain⟨x,hx⟩:=hi
   have htk:l.take (n+1)=l.take n++[x]:=by
    rw[List.take_add_one,hx];rfl
   rw[show decide ((0:Int)<((n+1:Nat):Int))=true by rw[decide_eq_true_eq];omega,eR,z8 (by omega),aF (ux hx),aL]
   by_cases h0:x=0
   ·left
    subst h0
    rw[show decide (((0:Nat):Int)=0)=true by simp,aL,eR]
    refine⟨_,rfl,⟨n,rfl,by omega,?_⟩,by omega⟩
    rw[←ht,htk,nB]
   ·right
    rw[show decide (((x:Nat):Int)=0)=false by simp;omega,aL,fM]
    refine⟨_,rfl,n+1,rfl,hn,?_⟩
    rw[←ht,htk,qg _ h0]
 ·rintro _ ⟨n,rfl,hn,ht⟩
  rw[wS (by rw[cZ];exact hn),aL,Oo,ht]
theorem xG{l:List Nat}(h:∀x∈l,x<65536)(i:Nat):cY (zl l) (i:Int)=some ((eO l/65536^i%65536:Nat):Int):=by
 unfold cY
 simp only[aL]
 rw[cZ]
 by_cases hi:i<l.length
 ·rw[show decide ((i:Int)<(l.length:Int))=true by simp[hi],eR,aF (ux (ju h hi)),aL]
 ·rw[show decide ((i:Int)<(l.length:Int))=false by simp;omega,fM]
  have:eO l/65536^i=0:=Nat.div_eq_of_lt (Nat.lt_of_lt_of_le (ew l h) (Nat.pow_le_pow_right (by decide) (by omega)))
  rw[this];rfl
theorem Gy(V k:Nat):dr 65536 (2*k) V++[V/4294967296^k%4294967296%65536,V/4294967296^k%4294967296/65536]=dr 65536 (2*(k+1)) V:=by
 have e:65536^(2*k)=4294967296^k:=by rw[Nat.pow_mul]
 rw[show 2*(k+1)=2*k+1+1 by omega,gi,gi,Nat.pow_succ,e,←Nat.div_div_eq_div_mul,List.append_assoc]
 generalize V/4294967296^k=x
 rw[show x%4294967296%65536=x%65536 by omega,show x%4294967296/65536=x/65536%65536 by omega]
 rfl
theorem I7(w:List Nat)(hw:Db w):bf w=some (zl (can 65536 (vl w))):=by
 obtain⟨hl,hn⟩:=hw
 unfold bf
 refine aU (fun i=>((i:Int),zl (dr 65536 (2*i) (vl w)))) w.length (zl (dr 65536 (2*w.length) (vl w))) ?_ (fun k hk=>?_) ?_ ?_
 ·rfl
 ·have hg:=ju hl hk
  have hlt:=Nat.mod_lt (val 4294967296 w/4294967296^k) (show 0<4294967296 by decide)
  have hv:=Gy (vl w) k
  simp only[aL]
  rw[show decide ((k:Int)<(w.length:Int))=true by simp[hk],eR,aF hg,aL,aL,eN (by omega),eN (by omega),NY (by decide) (by rw[cZ,aJ];simp;omega),aL,bh (by omega)]
  rw[←hv,Df]
  rw[show val 4294967296 w/4294967296^k%4294967296/65536%4294967296=val 4294967296 w/4294967296^k%4294967296/65536 by omega]
  rfl
 ·simp
 ·rw[iL _ (by rw[aJ];omega),aL,lM (by decide)]
  rw[Nat.pow_mul];exact ew w hl
theorem EM(k:Nat):65536^(2*k)=4294967296^k:=by rw[Nat.pow_mul]
theorem Gz(v:Nat):can 4294967296 v=dr 4294967296 (((can 65536 v).length+1)/2) v:=by
 have h1:=bp (B:=65536) (by decide) v
 obtain⟨n,hn⟩:∃n,(can 65536 v).length=n:=⟨_,rfl⟩
 rw[hn]at h1⊢
 have h2:v<4294967296^((n+1)/2):=by
  rw[←EM];exact Nat.lt_of_lt_of_le h1 (Nat.pow_le_pow_right (by decide) (by omega))
 rw[HL (by decide) v]
 congr 1
 have h3:=(aT (B:=4294967296) (by decide)).2 h2
 refine Nat.le_antisymm h3 ?_
 rcases n with _|n
 ·simp
 ·have h4:65536^n≤v:=oD (by decide) (by omega)
  obtain⟨m,hm⟩:∃m,(n+1+1)/2=m+1:=⟨n/2,by omega⟩
  rw[hm]
  rcases Nat.lt_or_ge m (can 4294967296 v).length with h|h
  ·exact h
  ·have h5:=(aT (B:=4294967296) (by decide)).1 h
   rw[←EM]at h5
   have:65536^(2*m)≤65536^n:=Nat.pow_le_pow_right (by decide) (by omega)
   omega
theorem of_eq(n:Bool)(l:List Nat)(hl:Dg l):bZ n (zl l)=some (zc n (eO l)):=by
 obtain⟨h,hn⟩:=hl
 unfold bZ
 rw[iL _ (by omega),aL,iJ (by decide) h]
 have hc:(can 65536 (val 65536 l)).length≤l.length:=(aT (by decide)).2 (ew l h)
 show _=some (zc n (val 65536 l))
 generalize val 65536 l=v at*
 have uA:∀x∈can 65536 v,x<65536:=fun _ hx=>ec (by decide) hx
 have T9:=fun i=>xG uA i
 refine aU (fun i=>(((2*i:Nat):Int),dr 4294967296 i v)) (((can 65536 v).length+1)/2) (can 4294967296 v) ?_ (fun k hk=>?_) ?_ ?_
 ·rfl
 ·have a1:=T9 (2*k)
  have a2:=T9 (2*k+1)
  rw[show eO (can 65536 v)=v from iS (by decide) v]at a1 a2
  rw[EM]at a1
  rw[Nat.pow_succ,EM,←Nat.div_div_eq_div_mul]at a2
  simp only[aL]
  rw[cZ,show decide (((2*k:Nat):Int)<((can 65536 v).length:Int))=true by simp;omega,eR,a1,aL,bh (by omega),a2,aL]
  rw[gi]
  have e:((((v/4294967296^k%65536:Nat):Int)%4294967296).toNat+(((v/4294967296^k/65536%65536:Nat):Int)%4294967296).toNat*65536%4294967296)%4294967296=v/4294967296^k%4294967296:=by
   generalize v/4294967296^k=x
   omega
  rw[e,vE (by decide) (by rw[aJ];omega),aL,show((2*k:Nat):Int)+2=((2*(k+1):Nat):Int) by omega,eN (by omega)]
 ·simp only[aL]
  rw[cZ,show decide (((2*(((can 65536 v).length+1)/2):Nat):Int)<((can 65536 v).length:Int))=false by simp;omega,fM,←Gz]
 ·simp only[bM]
  rw[zc]
  have hz:=nE (v:=v)
  cases n
  ·rw[fM,aL];rfl
  ·rw[eR,aL,aL,aL]
   congr 2
   by_cases h0:v=0
   ·rw[h0];rfl
   ·have:¬(can 4294967296 v).length=0:=fun e=>h0 (hz.1 e)
    rw[show decide ((0:Int)<((can 4294967296 v).length:Int))=true by rw[decide_eq_true_eq];omega,show(true&&v != 0)=true by simp[h0]]
theorem l7(n:Bool)(v:Nat)(hl:(can 65536 v).length≤100000000000):bZ n (zl (can 65536 v))=some (zn (sv n v)):=by
 rw[of_eq n _ ⟨fun _ hx=>ec (by decide) hx,hl⟩,show eO (can 65536 v)=v from iS (by decide) v,nD]
theorem I8{w:List Nat}(hw:∀x∈w,x<4294967296):(can 65536 (vl w)).length≤2*w.length:=by
 apply(aT (by decide)).2
 rw[EM];exact ew w hw
theorem dZ{x:Zr}(h:Wl x):bf x.w=some (zl (can 65536 (zi x).natAbs)):=by
 rw[rY];exact I7 _ ⟨h.1,by have:=h.2;omega⟩
theorem Wl.I9{x:Zr}(h:Wl x):(can 65536 (zi x).natAbs).length≤20000000000:=by
 rw[rY];have:=I8 h.1;have:=h.2;omega
theorem EN{x:Zr}(h:Wl x):fH x=some (zn (zi x)):=by
 obtain⟨n,w⟩:=x
 have h1:=dZ h
 have h2:=h.I9
 unfold fH
 simp only[]
 rw[show bf w=_ from h1,aL,l7 _ _ (by omega),aL,rY]
 rfl
theorem Oq{x y:Zr}(h:x.w.length≤100000000000):∃b,dm x y=some b∧(b=true↔x=y):=by
 obtain⟨n,w⟩:=x
 obtain⟨m,u⟩:=y
 unfold dm
 simp only[aL,bM]
 by_cases hnm:n=m
 ·subst hnm
  rw[show(!(n==n))=false by simp,fM,aL]
  by_cases hl:w.length=u.length
  ·rw[show decide ((w.length:Int)≠(u.length:Int))=false by simp[hl],fM]
   refine kx (fun y=>∃i:Nat,y=(i:Int)∧i≤w.length∧w.take i=u.take i) (fun e=>(∃c,e=.inl c∧w=u)∨(e=.inr false∧w≠u)) (fun y=>w.length-y.toNat) ?_ ⟨0,rfl,by omega,rfl⟩ ?_
   ·rintro _ ⟨i,rfl,hi,ht⟩
    by_cases hlt:i<w.length
    ·have g1:w[i]? =some w[i]:=by simp
     have g2:u[i]? =some (u[i]'(by omega)):=by simp
     rw[show decide ((i:Int)<(w.length:Int))=true by simp[hlt],eR,aF g1,aL,aF g2,aL]
     by_cases he:w[i]=u[i]'(by omega)
     ·left
      rw[show decide (w[i]≠u[i]'(by omega))=false by simp[he],fM,bh (by simp at h;omega)]
      refine⟨_,rfl,⟨i+1,rfl,hlt,?_⟩,by omega⟩
      rw[List.take_add_one,List.take_add_one,ht,g1,g2,he]
     ·right
      rw[show decide (w[i]≠u[i]'(by omega))=true by simp[he],eR]
      refine⟨_,rfl,.inr ⟨rfl,?_⟩⟩
      rintro rfl;exact he rfl
    ·right
     rw[show decide ((i:Int)<(w.length:Int))=false by simp;omega,fM]
     refine⟨_,rfl,.inl ⟨_,rfl,?_⟩⟩
     rw[List.take_of_length_le (by omega),List.take_of_length_le (by omega)]at ht
     exact ht
   ·rintro e (⟨c,rfl,he⟩|⟨rfl,he⟩)
    ·exact⟨true,rfl,by simp[he]⟩
    ·exact⟨false,rfl,by simp[he]⟩
  ·rw[show decide ((w.length:Int)≠(u.length:Int))=true by simp;omega,eR]
   refine⟨_,rfl,?_⟩
   simp only[Bool.false_eq_true,false_iff]
   intro e
   have:w=u:=congrArg Zr.w e
   exact hl (by rw[this])
 ·rw[show(!(n==m))=true by simp[hnm],eR,aL,eR]
  refine⟨_,rfl,?_⟩
  simp only[Bool.false_eq_true,false_iff]
  intro e
  exact hnm (congrArg Zr.neg e)
theorem wX{x:Zr}(h:x.w.length≤100000000000):dm x x=some true:=by
 obtain⟨b,h1,h2⟩:=Oq (y:=x) h
 rw[h1,h2.2 rfl]
theorem from_eq{x:Int}(h:da x):eu x=some (zn x):=by
 unfold da at h
 have key:∀(v:Nat) (n:Bool),v<18446744073709551616→((fH ⟨n,[v%4294967296%4294967296,v/4294967296%18446744073709551616%4294967296]⟩).bind fun x=>some (⟨x.neg,x.w⟩:Zr))=some (zn (sv n v)):=by
  intro v n hv
  rw[EN ⟨by simp;omega,by simp⟩,aL]
  show some (zn (sv n (vl _)))=_
  congr 3
  simp only[vl,val]
  omega
 unfold eu
 simp only[aL,bM]
 by_cases hx:x<0
 ·have e:(x%18446744073709551616).toNat=18446744073709551616-x.natAbs:=by omega
  rw[show decide (x<0)=true by simp[hx],eR,e,vF (by omega) (by omega),show 18446744073709551616+0-(18446744073709551616-x.natAbs)=x.natAbs by omega,key _ _ (by omega),show sv true x.natAbs=x by simp[sv];omega]
 ·have e:(x%18446744073709551616).toNat=x.natAbs:=by omega
  rw[show decide (x<0)=false by simp[hx],fM,e,key _ _ (by omega),show sv false x.natAbs=x by simp[sv];omega]
end Go.Proofs.YtmiflmkdaeianaaGreat
namespace Go.Proofs.YtmiflmkdaeianaaGreat
open Go.Fw
theorem p9(k:Nat):10^(9*(k+1))=10^(9*k)*1000000000:=by
 rw[show 9*(k+1)=9*k+9 by omega,Nat.pow_add]
end Go.Proofs.YtmiflmkdaeianaaGreat
namespace Go.Proofs.YtmiflmkdaeianaaGreat
open Go.Fw
def body(s:M1):M1:=if s.head?=some 45 then s.tail else s
def z0:Zr:=⟨false,[]⟩
end Go.Proofs.YtmiflmkdaeianaaGreat
namespace Go.Proofs.YtmiflmkdaeianaaGreat
open Go.Fw
theorem zeta'(z:Zr):(⟨z.neg,z.w⟩:Zr)=z:=by cases z;rfl
theorem pz{i:Int}(h:da i):Fit 2 i:=Fit.i64 h.1 h.2
theorem Ak{i:Int}(h:da i):Wl (zn i):=bK (pz h) (by decide)
end Go.Proofs.YtmiflmkdaeianaaGreat
namespace Go.Proofs.YtmiflmkdaeianaaGreat
open Go.Fw
theorem Mg(i j:Int):(i-j).sign=jB i j:=by
 rcases Int.lt_trichotomy i j with h|h|h
 ·rw[fP h,Int.sign_eq_neg_one_of_neg (by omega)]
 ·rw[h,mI,Int.sub_self];rfl
 ·rw[fQ h,Int.sign_eq_one_of_pos (by omega)]
theorem Ja(i j:Int):IntKind.i64.wrap (0-jB j i)=jB i j:=by
 rcases Int.lt_trichotomy i j with h|h|h
 ·rw[fP h,fQ h];rfl
 ·rw[h,mI];rfl
 ·rw[fQ h,fP h];rfl
abbrev OkZ(z:Zr):Prop:=True∧(z.w.length≤9223372036854775807∧∀x∈z.w,x<4294967296)
end Go.Proofs.YtmiflmkdaeianaaGreat
namespace Go.Proofs.YtmiflmkdaeianaaGreat
open Go.Fw
theorem Fit.gcd{L:Nat}{i j:Int}(h:Fit L i)(h':Fit L j):Fit L (Int.gcd i j:Int):=by
 by_cases h0:i=0
 ·subst h0;rw[Int.gcd_zero_left];exact h'.le (by simp)
 ·have:Int.gcd i j∣i.natAbs:=Nat.gcd_dvd_left _ _
  exact h.le (by have:=Nat.le_of_dvd (by omega) this;simpa using this)
end Go.Proofs.YtmiflmkdaeianaaGreat
namespace Go.Proofs.YtmiflmkdaeianaaGreat
open Go.Fw
def qd(q:Qr):Int:=if zi q.den=0 then 1 else zi q.den
def qv(q:Qr):Rat:=Rat.divInt (zi q.num) (qd q)
def qn(r:Rat):Qr:=⟨zn r.num,if r.den=1 then⟨false,[]⟩else zn (r.den:Int)⟩
def FQ(L:Nat)(r:Rat):Prop:=Fit L r.num∧Fit L (r.den:Int)
structure iX (L:Nat) (q:Qr) (r:Rat):Prop where
 n:∀x∈q.num.w,x<4294967296
 d:∀x∈q.den.w,x<4294967296
 ln:q.num.w.length≤L
 ld:q.den.w.length≤L
 l1:1≤L
 v:qv q=r
theorem aah(q:Qr):qd q≠0:=by
 unfold qd
 by_cases h:zi q.den=0
 ·rw[if_pos h];decide
 ·rw[if_neg h];exact h
theorem aai(r:Rat):qv (qn r)=r:=by
 unfold qv qd qn
 by_cases h:r.den=1
 ·rw[if_pos h]
  show Rat.divInt (zi (zn r.num)) (if zi ⟨false,[]⟩=0 then 1 else zi ⟨false,[]⟩)=r
  rw[if_pos (show zi ⟨false,[]⟩=0 from rfl),bz]
  have:=Rat.num_divInt_den r
  rw[h]at this;exact this
 ·rw[if_neg h]
  show Rat.divInt (zi (zn r.num)) (if zi (zn (r.den:Int))=0 then 1 else zi (zn (r.den:Int)))=r
  have:=r.den_nz
  rw[bz,bz,if_neg (by omega),Rat.num_divInt_den]
theorem HW{w:List Nat}{n:Bool}{L:Nat}(h:∀x∈w,x<4294967296)(hl:w.length≤L):Fit L (zi ⟨n,w⟩):=by
 unfold Fit
 rw[rY]
 exact Nat.lt_of_lt_of_le (ew w h) (Nat.pow_le_pow_right (by decide) hl)
theorem vO{L:Nat}(h:1≤L):Fit L 1:=by
 unfold Fit
 exact Nat.lt_of_lt_of_le (show(1:Int).natAbs<4294967296^1 by decide) (Nat.pow_le_pow_right (by decide) h)
theorem FQ.rep{L:Nat}{r:Rat}(h:FQ L r)(h1:1≤L):iX L (qn r) r:=by
 refine⟨fun x hx=>ec (by decide) hx,?_,(aT (by decide)).2 h.1,?_,h1,aai r⟩
 ·unfold qn
  by_cases e:r.den=1
  ·rw[if_pos e];simp
  ·rw[if_neg e];exact fun x hx=>ec (by decide) hx
 ·unfold qn
  by_cases e:r.den=1
  ·rw[if_pos e];simp
  ·rw[if_neg e];exact(aT (by decide)).2 h.2
theorem iX.wn{L:Nat}{q:Qr}{r:Rat}(h:iX L q r)(hL:L≤10000000000):Wl q.num:=⟨h.n,Nat.le_trans h.ln hL⟩
theorem iX.wd{L:Nat}{q:Qr}{r:Rat}(h:iX L q r)(hL:L≤10000000000):Wl q.den:=⟨h.d,Nat.le_trans h.ld hL⟩
theorem iX.fn{L:Nat}{q:Qr}{r:Rat}(h:iX L q r):Fit L (zi q.num):=HW (n:=q.num.neg) h.n h.ln
theorem iX.fd{L:Nat}{q:Qr}{r:Rat}(h:iX L q r):Fit L (zi q.den):=HW (n:=q.den.neg) h.d h.ld
theorem iX.fqd{L:Nat}{q:Qr}{r:Rat}(h:iX L q r):Fit L (qd q):=by
 unfold qd
 by_cases e:zi q.den=0
 ·rw[if_pos e];exact vO h.l1
 ·rw[if_neg e];exact h.fd
theorem iX.mono{L M:Nat}{q:Qr}{r:Rat}(h:iX L q r)(hl:L≤M):iX M q r:=⟨h.n,h.d,Nat.le_trans h.ln hl,Nat.le_trans h.ld hl,Nat.le_trans h.l1 hl,h.v⟩
theorem FQ.mono{L M:Nat}{r:Rat}(h:FQ L r)(hl:L≤M):FQ M r:=⟨h.1.mono hl,h.2.mono hl⟩
theorem pA{L:Nat}{a d:Int}(h0:d≠0)(ha:Fit L a)(hd:Fit L d):FQ L (Rat.divInt a d):=by
 generalize hr:Rat.divInt a d=r
 obtain⟨n',d',z',c⟩:=r
 obtain⟨m,hm,h1,h2⟩:=Rat.divInt_num_den h0 hr
 have hm':0<m.natAbs:=Int.natAbs_pos.2 hm
 refine⟨ha.le ?_,hd.le ?_⟩
 ·rw[h1,Int.natAbs_mul];exact Nat.le_mul_of_pos_right _ hm'
 ·rw[h2,Int.natAbs_mul];exact Nat.le_mul_of_pos_right _ hm'
theorem iX.fq{L:Nat}{q:Qr}{r:Rat}(h:iX L q r):FQ L r:=by rw[←h.v];exact pA (aah q) h.fn h.fqd
theorem sE(r:Rat):r=Rat.divInt r.num (r.den:Int):=(Rat.num_divInt_den r).symm
theorem oE(r:Rat):(r.den:Int)≠0:=by have:=r.den_nz;omega
theorem FQ.add{L M:Nat}{x y:Rat}(hx:FQ L x)(hy:FQ M y):FQ (L+M+1) (x+y):=by
 have e:x+y=Rat.divInt (x.num*y.den+y.num*x.den) (x.den*y.den):=by
  conv=>lhs;rw[sE x,sE y,Rat.divInt_add_divInt _ _ (oE x) (oE y)]
 rw[e]
 refine pA (Int.mul_ne_zero (oE x) (oE y)) ?_ ?_
 ·exact(hx.1.mul hy.2).add (by rw[Nat.add_comm L M];exact hy.1.mul hx.2)
 ·exact(hx.2.mul hy.2).mono (by omega)
theorem FQ.sub{L M:Nat}{x y:Rat}(hx:FQ L x)(hy:FQ M y):FQ (L+M+1) (x-y):=by
 have e:x-y=Rat.divInt (x.num*y.den-y.num*x.den) (x.den*y.den):=by
  conv=>lhs;rw[sE x,sE y,Rat.divInt_sub_divInt _ _ (oE x) (oE y)]
 rw[e]
 refine pA (Int.mul_ne_zero (oE x) (oE y)) ?_ ?_
 ·exact(hx.1.mul hy.2).sub (by rw[Nat.add_comm L M];exact hy.1.mul hx.2)
 ·exact(hx.2.mul hy.2).mono (by omega)
theorem FQ.mul{L M:Nat}{x y:Rat}(hx:FQ L x)(hy:FQ M y):FQ (L+M) (x*y):=by
 have e:x*y=Rat.divInt (x.num*y.num) (x.den*y.den):=by
  conv=>lhs;rw[sE x,sE y,Rat.divInt_mul_divInt]
 rw[e]
 exact pA (Int.mul_ne_zero (oE x) (oE y)) (hx.1.mul hy.1) (hx.2.mul hy.2)
theorem FQ.neg{L:Nat}{x:Rat}(hx:FQ L x):FQ L (-x):=⟨hx.1.neg,hx.2⟩
theorem FQ.int{L:Nat}{i:Int}(h:Fit L i)(h1:1≤L):FQ L (i:Rat):=⟨h,vO h1⟩
theorem FQ.floor{L:Nat}{x:Rat}(hx:FQ L x):Fit L x.floor:=by
 rw[Rat.floor_def]
 exact hx.1.le (Int.natAbs_ediv_le_natAbs _ _)
def vP(x y:Rat):Int:=if x<y then-1 else if x=y then 0 else 1
theorem BK(x:Rat):vP x x=0:=by unfold vP;rw[if_neg Rat.lt_irrefl,if_pos rfl]
theorem HX{x y:Rat}(h:x<y):vP x y=-1:=if_pos h
theorem HY{x y:Rat}(h:y<x):vP x y=1:=by
 unfold vP
 rw[if_neg (fun h'=>by grind),if_neg (fun h'=>by grind)]
theorem BL{a b c d:Int}(hb:0<b)(hd:0<d):Rat.divInt a b<Rat.divInt c d↔a*d<c*b:=by
 have hb':(0:Rat)<(b:Rat):=Rat.intCast_pos.2 hb
 have hd':(0:Rat)<(d:Rat):=Rat.intCast_pos.2 hd
 rw[Rat.divInt_eq_div,Rat.divInt_eq_div,Rat.div_lt_iff hb',Rat.div_def,Rat.mul_assoc,Rat.mul_comm (d:Rat)⁻¹,←Rat.mul_assoc,←Rat.div_def,Rat.lt_div_iff hd',←Rat.intCast_mul,←Rat.intCast_mul,Rat.intCast_lt_intCast]
theorem EO{a b c d:Int}(hb:0<b)(hd:0<d):vP (Rat.divInt a b) (Rat.divInt c d)=jB (a*d) (c*b):=by
 unfold vP jB
 have e1:=BL (a:=a) (c:=c) hb hd
 have e2:=Rat.divInt_eq_divInt_iff (n₁:=a) (d₁:=b) (n₂:=c) (d₂:=d) (by omega) (by omega)
 by_cases h1:a*d<c*b
 ·rw[if_pos (e1.2 h1),if_pos h1]
 ·rw[if_neg (fun h=>h1 (e1.1 h)),if_neg h1]
  by_cases h2:a*d=c*b
  ·rw[if_pos (e2.2 h2),if_pos h2]
  ·rw[if_neg (fun h=>h2 (e2.1 h)),if_neg h2]
theorem EP{a b:Int}(hb:0<b):a.sign=vP (Rat.divInt a b) 0:=by
 have:(0:Rat)=Rat.divInt 0 1:=rfl
 rw[this,EO hb (by decide),Int.mul_one,Int.zero_mul,←Mg,Int.sub_zero]
theorem wY{a d:Int}(hd:0<d):qn (Rat.divInt a d)=⟨zn (a/(Int.gcd a d:Int)),if d/(Int.gcd a d:Int)=1 then⟨false,[]⟩else zn (d/(Int.gcd a d:Int))⟩:=by
 have h1:(Rat.divInt a d).num=a/(Int.gcd a d:Int):=by rw[Rat.num_divInt,Int.sign_eq_one_of_pos hd,Int.one_mul,Int.gcd_comm]
 have h2:((Rat.divInt a d).den:Int)=d/(Int.gcd a d:Int):=by
  rw[Rat.den_divInt,if_neg (by omega),Int.gcd_comm]
  have:(d.natAbs:Int)=d:=by omega
  rw[Int.natCast_ediv,this]
 unfold qn
 rw[h1,h2]
 by_cases e:(Rat.divInt a d).den=1
 ·rw[if_pos e,if_pos (by omega)]
 ·rw[if_neg e,if_neg (by omega)]
theorem Ot(k:Int):((bif(rZ k).2 then some (decide ((rZ k).1=1))else some false):Option Bool)=some (decide (k=1)):=by
 by_cases h:da k
 ·rw[g9 h];rfl
 ·rw[nG h]
  have:¬k=1:=by rintro rfl;exact h (by decide)
  rw[decide_eq_false this];rfl
theorem Al{n d:Zr}(hn:Wl n)(hd:Wl d)(h:0<zi d):((jF n d).bind fun g=>(cu n g).bind fun a=>(cu d g).bind fun b=>(cw b.1).bind fun c=>
  (bif c.2 then some (decide (c.1=1))else some false).bind fun e=>bif e then some (⟨a.1,⟨false,[]⟩⟩:Qr)else some ⟨a.1,b.1⟩)=some (qn (Rat.divInt (zi n) (zi d))):=by
 have g0:(Int.gcd (zi n) (zi d):Int)≠0:=by
  have:0<Int.gcd (zi n) (zi d):=Int.gcd_pos_of_ne_zero_right _ (by omega)
  omega
 have wg:Wl (zn (Int.gcd (zi n) (zi d):Int)):=bK ((Wl.fit hd).le (by
  have:=Nat.le_of_dvd (Int.natAbs_pos.2 (show zi d≠0 by omega)) (Int.gcd_dvd_natAbs_right (zi n) (zi d))
  simpa using this)) hd.2
 have wq:Wl (zn (zi d/(Int.gcd (zi n) (zi d):Int))):=bK ((Wl.fit hd).le (Int.natAbs_ediv_le_natAbs _ _)) hd.2
 rw[TM hn hd,aL,divMod_eq hn wg,aL,divMod_eq hd wg,aL,bz,A4,if_neg g0,A4,if_neg g0]
 simp only[]
 rw[nF wq,aL,bz,Ot,aL,wY h]
 by_cases e:zi d/(Int.gcd (zi n) (zi d):Int)=1
 ·rw[decide_eq_true e,eR,if_pos e]
 ·rw[decide_eq_false e,fM,if_neg e]
theorem reduce_eq{x y:Zr}(hx:Wl x)(hy:Wl y)(h0:zi y≠0):ia x y=some (qn (Rat.divInt (zi x) (zi y))):=by
 unfold ia
 simp only[bM,aL,zeta',sign_eq hy]
 by_cases h:zi y<0
 ·rw[show decide ((zi y).sign<0)=true by rw[Int.sign_eq_neg_one_of_neg h];rfl,eR,neg_eq hx,aL,neg_eq hy,aL]
  have hp:=Al (bK (Wl.fit hx).neg hx.2) (bK (Wl.fit hy).neg hy.2) (by rw[bz];omega)
  rw[bz,bz,Rat.neg_divInt_neg]at hp
  exact hp
 ·rw[show decide ((zi y).sign<0)=false by rw[Int.sign_eq_one_of_pos (by omega)];rfl,fM]
  exact Al hx hy (by omega)
end Go.Proofs.YtmiflmkdaeianaaGreat
namespace Go.Proofs.YtmiflmkdaeianaaGreat
open Go.Fw
theorem pB(q:Qr):(⟨⟨q.num.neg,q.num.w⟩,⟨q.den.neg,q.den.w⟩⟩:Qr)=q:=by cases q;rfl
theorem pC(q:Qr):(⟨q.num,q.den⟩:Qr)=q:=by cases q;rfl
theorem parts_eq{L:Nat}{q:Qr}{r:Rat}(h:iX L q r)(hL:L≤10000000000):∃n d:Zr,ep q=some (n,d)∧Wl n∧Wl d∧0<zi d∧Rat.divInt (zi n) (zi d)=r∧Fit L (zi n)∧Fit L (zi d):=by
 have wn:=h.wn hL
 have wd:=h.wd hL
 have hv:=h.v
 unfold ep
 simp only[zeta',aL,sign_eq wd,fJ (x:=1) (by decide) (by decide),neg_eq wn,neg_eq wd]
 unfold qv qd at hv
 rcases Int.lt_trichotomy (zi q.den) 0 with h1|h1|h1
 ·refine⟨_,_,?_,bK h.fn.neg hL,bK h.fd.neg hL,by rw[bz];omega,?_,by rw[bz];exact h.fn.neg,by rw[bz];exact h.fd.neg⟩
  ·rw[Int.sign_eq_neg_one_of_neg h1];rfl
  ·rw[bz,bz,Rat.neg_divInt_neg,←hv,if_neg (by omega)]
 ·refine⟨_,_,?_,wn,bK (vO h.l1) hL,by rw[bz];decide,?_,h.fn,by rw[bz];exact vO h.l1⟩
  ·rw[h1];rfl
  ·rw[bz,←hv,if_pos h1]
 ·refine⟨_,_,?_,wn,wd,h1,?_,h.fn,h.fd⟩
  ·rw[Int.sign_eq_one_of_pos h1];rfl
  ·rw[←hv,if_neg (by omega)]
def Sm(a:Int):Prop:=-2147483648<a∧a<2147483648
theorem Sm.ok{a:Int}(h:Sm a):da a:=by unfold Sm at h;unfold da;omega
theorem ER{L:Nat}{q:Qr}{r:Rat}(h:iX L q r)(hL:L≤10000000000):∃a b c,iO q=some (a,b,c)∧(c=true→Sm a∧0<b∧Sm b∧Rat.divInt a b=r):=by
 have wn:=h.wn hL
 have wd:=h.wd hL
 have hv:=h.v
 unfold iO
 simp only[zeta',aL,bM,nF wn,nF wd]
 unfold qv qd at hv
 generalize zi q.num=n at*
 generalize zi q.den=d at*
 by_cases hs:Sm n∧Sm d
 ·obtain⟨h1,h2⟩:=hs
  rw[g9 h1.ok,g9 h2.ok]
  unfold Sm at h1 h2
  simp only[]
  rw[decide_eq_false (show ¬n≤-2147483648 by omega),decide_eq_false (show ¬2147483648≤n by omega),decide_eq_false (show ¬d≤-2147483648 by omega),decide_eq_false (show ¬2147483648≤d by omega)]
  simp only[Bool.not_true,fM,aL]
  by_cases h0:d=0
  ·rw[decide_eq_true h0,eR]
   refine⟨_,_,_,rfl,fun _=>⟨h1,by decide,⟨by decide,by decide⟩,?_⟩⟩
   rw[←hv,if_pos h0]
  ·rw[decide_eq_false h0,fM]
   rw[if_neg h0]at hv
   by_cases hneg:d<0
   ·rw[decide_eq_true hneg,eR,b7 (by omega) (by omega),b7 (by omega) (by omega)]
    refine⟨_,_,_,rfl,fun _=>⟨⟨by omega,by omega⟩,by omega,⟨by omega,by omega⟩,?_⟩⟩
    rw[Int.zero_sub,Int.zero_sub,Rat.neg_divInt_neg,hv]
   ·rw[decide_eq_false hneg,fM]
    exact⟨_,_,_,rfl,fun _=>⟨h1,by omega,h2,hv⟩⟩
 ·refine⟨0,0,false,?_,fun e=>by cases e⟩
  by_cases o1:da n
  ·by_cases o2:da d
   ·rw[g9 o1,g9 o2]
    simp only[Bool.not_true,fM,aL]
    unfold Sm at hs
    by_cases c1:n≤-2147483648
    ·rw[decide_eq_true c1];simp only[aL,eR]
    ·rw[decide_eq_false c1];simp only[aL,fM]
     by_cases c2:2147483648≤n
     ·rw[decide_eq_true c2];simp only[aL,eR]
     ·rw[decide_eq_false c2];simp only[aL,fM]
      by_cases c3:d≤-2147483648
      ·rw[decide_eq_true c3];simp only[aL,eR]
      ·rw[decide_eq_false c3];simp only[aL,fM]
       rw[decide_eq_true (show 2147483648≤d by omega)];simp only[eR]
   ·rw[g9 o1,nG o2];simp only[Bool.not_true,Bool.not_false,fM,aL,eR]
  ·rw[nG o1];simp only[Bool.not_false,aL,eR]
theorem ES{a g:Int}(hg:0<g)(h:g∣a):Int.tdiv a g=a/g:=by
 obtain⟨k,rfl⟩:=h
 rw[Int.mul_tdiv_cancel_left _ (by omega),Int.mul_ediv_cancel_left _ (by omega)]
theorem Mh{n d:Int}(hd:0<d)(hd':d≤9223372036854775807)(hn: -9223372036854775807≤n)(hn':n≤9223372036854775807):jX n d=some (qn (Rat.divInt n d)):=by
 unfold jX
 simp only[aL,bM]
 refine eX (fun s=>Int.gcd s.1 s.2=Int.gcd n d∧s.1.natAbs≤9223372036854775807∧s.2.natAbs≤9223372036854775807) (fun e=>e.natAbs=Int.gcd n d∧e.natAbs≤9223372036854775807) (fun s=>s.2.natAbs) ?_ ⟨rfl,by simp only[];omega,by simp only[];omega⟩ ?_
 ·rintro⟨a,b⟩ ⟨i1,i2,i3⟩
  simp only at i1 i2 i3⊢
  by_cases hb:b=0
  ·right
   subst hb
   refine⟨a,by simp,?_,i2⟩
   rw[←i1];simp[Int.gcd]
  ·left
   rw[decide_eq_true hb,eR,AA,if_neg hb,aL]
   have hm:(Int.tmod a b).natAbs=a.natAbs%b.natAbs:=Int.natAbs_tmod a b
   have hlt:=Nat.mod_lt a.natAbs (Int.natAbs_pos.2 hb)
   refine⟨_,rfl,⟨?_,i3,by simp only[];omega⟩,by simp only[];omega⟩
   simp only[]
   rw[←i1,Int.gcd,Int.gcd,hm,Nat.gcd_comm b.natAbs,←Nat.gcd_rec,Nat.gcd_comm]
 ·rintro e ⟨he,hle⟩
  obtain⟨g,hg⟩:∃g:Int,(Int.gcd n d:Int)=g:=⟨_,rfl⟩
  have hgp:0<g:=by have:=Int.gcd_pos_of_ne_zero_right n (show d≠0 by omega);omega
  have hgn:g∣n:=hg▸Int.gcd_dvd_left ..
  have hgd:g∣d:=hg▸Int.gcd_dvd_right ..
  have hK:∀m:Int,m=g→(bif decide (m=d)then(qF n m).bind fun dR=>(aM dR).bind fun x=>some (⟨⟨x.neg,x.w⟩,⟨false,[]⟩⟩:Qr)else(qF n m).bind fun gx=>(aM gx).bind fun x=>(qF d m).bind fun iZ=>(aM iZ).bind fun y=>some ⟨⟨x.neg,x.w⟩,⟨y.neg,y.w⟩⟩)=some (qn (Rat.divInt n d)):=by
   rintro m rfl
   have b1:(n/m).natAbs≤n.natAbs:=Int.natAbs_ediv_le_natAbs _ _
   have b2:(d/m).natAbs≤d.natAbs:=Int.natAbs_ediv_le_natAbs _ _
   have q1:qF n m=some (n/m):=by
    rw[qF,if_neg (by omega),ES hgp hgn,b7 (by omega) (by omega)]
   have q2:qF d m=some (d/m):=by
    rw[qF,if_neg (by omega),ES hgp hgd,b7 (by omega) (by omega)]
   rw[wY hd,hg,q1,q2]
   simp only[aL,fJ (x:=n/m) (by omega) (by omega),fJ (x:=d/m) (by omega) (by omega),zeta']
   by_cases e1:m=d
   ·rw[decide_eq_true e1,eR,if_pos (by rw[e1];exact Int.ediv_self (by omega))]
   ·rw[decide_eq_false e1,fM,if_neg]
    intro e2
    have:=Int.ediv_mul_cancel hgd
    rw[e2]at this;omega
  by_cases hneg:e<0
  ·rw[decide_eq_true hneg,eR,b7 (by omega) (by omega)]
   exact hK _ (by omega)
  ·rw[decide_eq_false hneg,fM]
   exact hK _ (by omega)
theorem wZ{a b:Int}(ha:Sm a)(hb:Sm b): -4611686018427387904<a*b∧a*b<4611686018427387904:=by
 unfold Sm at ha hb
 have h1:(a*b).natAbs=a.natAbs*b.natAbs:=Int.natAbs_mul a b
 have h2:a.natAbs*b.natAbs≤2147483647*2147483647:=Nat.mul_le_mul (by omega) (by omega)
 omega
theorem HZ{a b:Int}(ha:0<a)(hb:0<b):0<a*b:=Int.mul_pos ha hb
section ops
variable {L M:Nat}{a b:Qr}{x y:Rat}
theorem iX.sub(ha:iX L a x)(hb:iX M b y)(h:L+M≤4000000000):kO a b=some (qn (x-y))∧iX (L+M+1) (qn (x-y)) (x-y):=by
 refine⟨?_,(ha.fq.sub hb.fq).rep (by omega)⟩
 obtain⟨n1,d1,c1,e1,k1⟩:=ER ha (by omega)
 obtain⟨n2,d2,c2,e2,k2⟩:=ER hb (by omega)
 obtain⟨p1,q1,f1,w1,w2,g1,v1,t1,t2⟩:=parts_eq ha (by omega)
 obtain⟨p2,q2,f2,w3,w4,g2,v2,t3,t4⟩:=parts_eq hb (by omega)
 have aaj:iC a b=some (qn (x-y)):=by
  unfold iC fN
  have u1:=bK (t1.mul t4) (by omega)
  have u2:=bK (t3.mul t2) (by omega)
  have u3:=bK (t2.mul t4) (by omega)
  have u4:=bK ((t1.mul t4).sub ((t3.mul t2).mono (by omega))) (by omega)
  simp only[zeta',pB,pC,f1,f2,aL,mul_eq w1 w4,mul_eq w3 w2,sub_eq u1 u2,mul_eq w2 w4,bz]
  rw[reduce_eq u4 u3 (by rw[bz];have:=HZ g1 g2;omega),aL,bz,bz,←v1,←v2,Rat.divInt_sub_divInt _ _ (by omega) (by omega)]
 unfold kO
 simp only[zeta',pB,pC,e1,e2,aL,bM,aaj]
 cases c1
 ·rw[fM,aL,fM]
 ·cases c2
  ·rw[eR,aL,fM]
  ·obtain⟨s1,s2,s3,s4⟩:=k1 rfl
   obtain⟨s5,s6,s7,s8⟩:=k2 rfl
   have m1:=wZ s1 s7
   have m2:=wZ s5 s3
   have m3:=wZ s3 s7
   have m4:=HZ s2 s6
   rw[eR,aL,eR,b7 (x:=n1*d2) (by omega) (by omega),b7 (x:=n2*d1) (by omega) (by omega),b7 (x:=d1*d2) (by omega) (by omega),b7 (by omega) (by omega),Mh m4 (by omega) (by omega) (by omega),aL,←s4,←s8,Rat.divInt_sub_divInt _ _ (by omega) (by omega)]
end ops
end Go.Proofs.YtmiflmkdaeianaaGreat
namespace Go.Proofs.YtmiflmkdaeianaaGreat
open Go.Fw
theorem vQ{p q:Int}(hq:0<q):(Rat.divInt p q).floor=p/q:=by
 have key:∀k:Int,k≤(Rat.divInt p q).floor↔k≤p/q:=by
  intro k
  rw[Rat.le_floor_iff,←Rat.not_lt,show(k:Rat)=Rat.divInt k 1 by rw[Rat.divInt_eq_div];show _=(k:Rat)/1;grind,BL hq (by decide),Int.mul_one,Int.not_lt,Int.le_ediv_iff_mul_le hq]
 exact Int.le_antisymm ((key _).1 (Int.le_refl _)) ((key _).2 (Int.le_refl _))
theorem BM{p q u v:Int}(hq:0<q)(hv:0<v)(h:p.sign≠u.sign∨p.sign=0):nV (IntKind.i64.wrap (p.sign-u.sign))=some (jB (p*v) (u*q)):=by
 have pv:0<p→0<p*v:=fun h=>Int.mul_pos h hv
 have pv':p<0→p*v<0:=fun h=>Int.mul_neg_of_neg_of_pos h hv
 have uq:0<u→0<u*q:=fun h=>Int.mul_pos h hq
 have uq':u<0→u*q<0:=fun h=>Int.mul_neg_of_neg_of_pos h hq
 rcases Int.lt_trichotomy p 0 with e1|e1|e1<;>rcases Int.lt_trichotomy u 0 with e2|e2|e2
 ·rw[Int.sign_eq_neg_one_of_neg e1,Int.sign_eq_neg_one_of_neg e2]at h;simp at h
 ·have:=pv' e1
  rw[Int.sign_eq_neg_one_of_neg e1,e2,Int.zero_mul,fP this];rfl
 ·have:=pv' e1
  have:=uq e2
  rw[Int.sign_eq_neg_one_of_neg e1,Int.sign_eq_one_of_pos e2,fP (by omega)];rfl
 ·have:=uq' e2
  rw[Int.sign_eq_neg_one_of_neg e2,e1,Int.zero_mul,fQ this];rfl
 ·rw[e1,e2,Int.zero_mul,Int.zero_mul];rfl
 ·have:=uq e2
  rw[Int.sign_eq_one_of_pos e2,e1,Int.zero_mul,fP this];rfl
 ·have:=pv e1
  have:=uq' e2
  rw[Int.sign_eq_one_of_pos e1,Int.sign_eq_neg_one_of_neg e2,fQ (by omega)];rfl
 ·have:=pv e1
  rw[Int.sign_eq_one_of_pos e1,e2,Int.zero_mul,fQ this];rfl
 ·rw[Int.sign_eq_one_of_pos e1,Int.sign_eq_one_of_pos e2]at h;simp at h
theorem Mi(i:Int):qn (i:Rat)=⟨zn i,⟨false,[]⟩⟩:=by
 unfold qn
 rw[Rat.den_intCast,if_pos rfl,Rat.num_intCast]
section ops
variable {L M:Nat}{a b:Qr}{x y:Rat}
theorem iX.cmp(ha:iX L a x)(hb:iX M b y)(h:L+M≤4000000000):ng a b=some (vP x y):=by
 obtain⟨p1,q1,f1,w1,w2,g1,v1,t1,t2⟩:=parts_eq ha (by omega)
 obtain⟨p2,q2,f2,w3,w4,g2,v2,t3,t4⟩:=parts_eq hb (by omega)
 unfold ng
 have u1:=bK (t1.mul t4) (by omega)
 have u2:=bK (t3.mul t2) (by omega)
 simp only[zeta',pB,pC,f1,f2,aL,bM,sign_eq w1,sign_eq w3,mul_eq w1 w4,mul_eq w3 w2,TK u1 u2,bz]
 rw[←v1,←v2,EO g1 g2]
 by_cases e1:(zi p1).sign=(zi p2).sign
 ·rw[show decide ((zi p1).sign≠(zi p2).sign)=false by simp[e1],fM,aL]
  by_cases e2:(zi p1).sign=0
  ·rw[decide_eq_true e2,eR,BM g1 g2 (.inr e2),aL]
  ·rw[decide_eq_false e2,fM]
 ·rw[show decide ((zi p1).sign≠(zi p2).sign)=true by simp[e1],eR,aL,eR,BM g1 g2 (.inl e1),aL]
theorem iX.floor(ha:iX L a x)(h:L≤10000000000):jY a=some (zn x.floor):=by
 obtain⟨p1,q1,f1,w1,w2,g1,v1,t1,t2⟩:=parts_eq ha h
 unfold jY
 simp only[zeta',pB,pC,f1,aL,divMod_eq w1 w2]
 rw[A4,if_neg (by omega),←v1,vQ g1]
theorem new_eq{n d:Int}(hn:da n)(hd:da d)(h0:d≠0):kN n d=some (qn (Rat.divInt n d),0)∧iX 2 (qn (Rat.divInt n d)) (Rat.divInt n d):=by
 refine⟨?_,(pA h0 (pz hn) (pz hd)).rep (by decide)⟩
 unfold kN
 simp only[zeta',pB,pC,aL,fJ hn.1 hn.2,fJ hd.1 hd.2]
 rw[decide_eq_false h0,fM,reduce_eq (Ak hn) (Ak hd) (by rw[bz];exact h0),aL,bz,bz]
theorem Dh:zi ⟨false,[]⟩=0:=rfl
theorem Di:Wl ⟨false,[]⟩:=⟨by simp,by simp⟩
theorem Am{z:Zr}(hz:Wl z):dJ z=some (qn (zi z:Rat)):=by
 unfold dJ kX
 simp only[zeta',aL,add_eq hz Di,Dh,Int.add_zero]
 rw[Mi]
theorem Mj{n d:Int}(h0:d≠0)(hn:Fit L n)(hd:Fit L d)(h:1≤L):iX L ⟨zn n,zn d⟩ (Rat.divInt n d):=by
 refine⟨fun x hx=>ec (by decide) hx,fun x hx=>ec (by decide) hx,(aT (by decide)).2 hn,(aT (by decide)).2 hd,h,?_⟩
 unfold qv qd
 simp only[bz]
 rw[if_neg h0]
end ops
end Go.Proofs.YtmiflmkdaeianaaGreat
namespace Go.Proofs.YtmiflmkdaeianaaGreat
open Go.Fw
theorem qi{l:List Nat}(h:Dg l):eO l<65536^l.length:=ew l h.1
theorem tm{a:Nat}:Int.tmod (a:Int) 65536=((a%65536:Nat):Int):=by
 rw[Int.tmod_eq_emod_of_nonneg (by omega)];omega
theorem td{a:Nat}:Int.tdiv (a:Int) 65536=((a/65536:Nat):Int):=by
 rw[Int.tdiv_eq_ediv_of_nonneg (by omega)];omega
theorem Dj(l k:List Nat)(hl:Dg l)(hk:Dg k):gB (zl l) (zl k)=some (ur (eO l) (eO k)):=by
 unfold gB
 simp only[aL]
 rw[cZ,cZ,show max (l.length:Int) (k.length:Int)=((max l.length k.length:Nat):Int) by omega,b7 (by have:=hl.2;have:=hk.2;omega) (by have:=hl.2;have:=hk.2;omega)]
 have h1:eO l<65536^(max l.length k.length):=Nat.lt_of_lt_of_le (qi hl) (Nat.pow_le_pow_right (by decide) (by omega))
 have h2:eO k<65536^(max l.length k.length):=Nat.lt_of_lt_of_le (qi hk) (Nat.pow_le_pow_right (by decide) (by omega))
 have hm:max l.length k.length≤100000000000:=by have:=hl.2;have:=hk.2;omega
 have a1:=xG hl.1
 have a2:=xG hk.1
 generalize eO l=V at*
 generalize eO k=W at*
 generalize max l.length k.length=n at*
 refine eX (fun y=>∃m:Nat,y=(m:Int)-1∧m≤n∧V/65536^m=W/65536^m) (fun e=>(∃c,e=.inl c∧V=W)∨e=.inr (ur V W)) (fun y=>(y+1).toNat) ?_ ⟨n,rfl,Nat.le_refl _,by rw[Nat.div_eq_of_lt h1,Nat.div_eq_of_lt h2]⟩ ?_
 ·rintro _ ⟨m,rfl,hmn,he⟩
  rcases m with _|m
  ·right
   refine⟨_,rfl,.inl ⟨_,rfl,?_⟩⟩
   simpa using he
  ·rw[show((m+1:Nat):Int)-1=(m:Int) by omega,show decide ((0:Int)≤(m:Int))=true by simp,eR,a1,aL,a2,aL]
   rcases BI he with⟨hd,hq⟩|⟨hd,hlt⟩|⟨hd,hlt⟩
   ·left
    rw[hd,show decide (((W/65536^m%65536:Nat):Int)<((W/65536^m%65536:Nat):Int))=false by simp,fM,aL,aL,show decide (((W/65536^m%65536:Nat):Int)<((W/65536^m%65536:Nat):Int))=false by simp,fM,b7 (by omega) (by omega)]
    exact⟨_,rfl,⟨m,rfl,by omega,hq⟩,by omega⟩
   ·right
    rw[show decide (((V/65536^m%65536:Nat):Int)<((W/65536^m%65536:Nat):Int))=true by rw[decide_eq_true_eq];omega,eR]
    exact⟨_,rfl,.inr (by rw[n6 hlt])⟩
   ·right
    rw[show decide (((V/65536^m%65536:Nat):Int)<((W/65536^m%65536:Nat):Int))=false by rw[decide_eq_false_iff_not];omega,fM,aL,aL,show decide (((W/65536^m%65536:Nat):Int)<((V/65536^m%65536:Nat):Int))=true by rw[decide_eq_true_eq];omega,eR]
    exact⟨_,rfl,.inr (by rw[qh hlt])⟩
 ·rintro e (⟨c,rfl,rfl⟩|rfl)
  ·rw[sD]
  ·rfl
theorem Dk(l k:List Nat)(hl:Dg l)(hk:Dg k):fk (zl l) (zl k)=some (zl (can 65536 (eO l+eO k))):=by
 unfold fk
 have h1:eO l<65536^(max l.length k.length):=Nat.lt_of_lt_of_le (qi hl) (Nat.pow_le_pow_right (by decide) (by omega))
 have h2:eO k<65536^(max l.length k.length):=Nat.lt_of_lt_of_le (qi hk) (Nat.pow_le_pow_right (by decide) (by omega))
 have hm:max l.length k.length≤100000000000:=by have:=hl.2;have:=hk.2;omega
 have a1:=xG hl.1
 have a2:=xG hk.1
 rw[cZ,cZ]
 generalize eO l=V at*
 generalize eO k=W at*
 refine eX (fun s=>∃i:Nat,s=(((yu 65536 V W i:Nat):Int),(i:Int),zl (dr 65536 i (V+W)))∧i≤max l.length k.length+1) (fun e=>∃i,e=zl (dr 65536 i (V+W))∧V+W<65536^i∧i≤max l.length k.length+1) (fun s=>max l.length k.length+1-s.2.1.toNat) ?_ ⟨0,by rw[Af];rfl,by omega⟩ ?_
 ·rintro _ ⟨i,rfl,hi⟩
  have hc:=Ad (B:=65536) (by decide) V W i
  have Je:=Ae (B:=65536) (by decide) V W i
  have A9:=yw (B:=65536) (by decide) V W i
  have d1:=Nat.mod_lt (V/65536^i) (show 0<65536 by decide)
  have d2:=Nat.mod_lt (W/65536^i) (show 0<65536 by decide)
  simp only[aL,bM]
  have uO:∀(K:Bool→Option ((Int×Int×List Int)⊕List Int)),(((bif decide ((i:Int)<(l.length:Int))then some true else some (decide ((i:Int)<(k.length:Int)))):Option Bool).bind fun c=>((bif c then some true else some (decide ((0:Int)<((yu 65536 V W i:Nat):Int)))):Option Bool).bind K)=K (decide (i<max l.length k.length∨0<yu 65536 V W i)):=by
   intro K
   by_cases q1:i<l.length
   ·have:i<max l.length k.length:=by omega
    simp[q1,this]
   ·by_cases q2:i<k.length
    ·have:i<max l.length k.length:=by omega
     simp[q1,q2,this]
    ·have:¬i<max l.length k.length:=by omega
     simp[q1,q2,this]
  rw[uO]
  by_cases E5:i<max l.length k.length∨0<yu 65536 V W i
  ·left
   have hi':i<max l.length k.length+1:=by
    rcases Nat.lt_or_ge i (max l.length k.length+1)with h|h
    ·exact h
    ·have hie:i=max l.length k.length+1:=by omega
     have hp:65536^i=65536^(max l.length k.length)*65536:=by rw[hie,Nat.pow_succ]
     have g3:=C6 (B:=65536) (V:=V) (W:=W) (k:=i) (by omega) (by omega)
     rw[Nat.div_eq_of_lt (by omega)]at g3
     omega
   rw[show decide (i<max l.length k.length∨0<yu 65536 V W i)=true by rw[decide_eq_true_eq];exact E5,eR,a1,aL,a2,aL,ku (by omega),ku (by omega),tm,td,Je,A9,vE (by decide) (by rw[cZ,aJ];omega),aL,eN (by have:=Ad (B:=65536) (by decide) V W (i+1);omega),bh (by omega)]
   refine⟨_,rfl,⟨i+1,?_,by omega⟩,by simp only[];omega⟩
   rw[gi,Df,Gx]
  ·right
   rw[show decide (i<max l.length k.length∨0<yu 65536 V W i)=false by rw[decide_eq_false_iff_not];exact E5,fM]
   refine⟨_,rfl,i,rfl,?_,hi⟩
   have g1:V<65536^i:=Nat.lt_of_lt_of_le h1 (Nat.pow_le_pow_right (by decide) (by omega))
   have g2:W<65536^i:=Nat.lt_of_lt_of_le h2 (Nat.pow_le_pow_right (by decide) (by omega))
   have g3:=C6 (B:=65536) g1 g2
   rcases Nat.lt_or_ge (V+W) (65536^i)with h|h
   ·exact h
   ·have:=Nat.div_pos h (Nat.pow_pos (by decide));omega
 ·rintro _ ⟨i,rfl,hlt,hi⟩
  rw[iL _ (by rw[aJ];omega),aL,lM (by decide) hlt]
theorem yz(l k:List Nat)(hl:Dg l)(hk:Dg k)(hle:eO k≤eO l):eA (zl l) (zl k)=some (zl (can 65536 (eO l-eO k))):=by
 unfold eA
 have h1:=qi hl
 have hm:=hl.2
 have a1:=xG hl.1
 have a2:=xG hk.1
 rw[cZ]
 generalize eO l=V at*
 generalize eO k=W at*
 refine aU (fun i=>(((1-wV 65536 V W i:Nat):Int),(i:Int),zl (dr 65536 i (V-W)))) l.length (zl (dr 65536 l.length (V-W))) ?_ (fun i hi=>?_) ?_ ?_
 ·rw[Ag];rfl
 ·have hc:=Gp (B:=65536) (by decide) V W i
  have Je:=Ah (B:=65536) (by decide) V W i
  have A9:=C7 (B:=65536) (by decide) hle i
  have d1:=Nat.mod_lt (V/65536^i) (show 0<65536 by decide)
  have d2:=Nat.mod_lt (W/65536^i) (show 0<65536 by decide)
  simp only[aL,bM]
  rw[show decide ((i:Int)<(l.length:Int))=true by simp[hi],eR,a1,aL,a2,aL]
  rw[←Je,gi,Df,Gx,←A9]
  generalize V/65536^i%65536=a at*
  generalize W/65536^i%65536=b at*
  generalize wV 65536 V W i=c at*
  rw[b7 (x:=(a:Int)-(b:Int)) (by omega) (by omega),b7 (x:=(a:Int)-(b:Int)-((1-c:Nat):Int)) (by omega) (by omega)]
  by_cases hn:(a:Int)-(b:Int)-((1-c:Nat):Int)<0
  ·rw[show decide ((a:Int)-(b:Int)-((1-c:Nat):Int)<0)=true by rw[decide_eq_true_eq];exact hn,eR,b7 (by omega) (by omega),vE (by decide) (by rw[cZ,aJ];omega),aL,bh (by omega)]
   rw[show(a:Int)-(b:Int)-((1-c:Nat):Int)+65536=(((a+(65536-1-b)+c)%65536:Nat):Int) by omega,show(1-(a+(65536-1-b)+c)/65536)=1 by omega]
   rfl
  ·rw[show decide ((a:Int)-(b:Int)-((1-c:Nat):Int)<0)=false by rw[decide_eq_false_iff_not];exact hn,fM,vE (by decide) (by rw[cZ,aJ];omega),aL,bh (by omega)]
   rw[show(a:Int)-(b:Int)-((1-c:Nat):Int)=(((a+(65536-1-b)+c)%65536:Nat):Int) by omega,show(1-(a+(65536-1-b)+c)/65536)=0 by omega]
   rfl
 ·simp
 ·rw[iL _ (by rw[aJ];omega),aL,lM (by decide) (by omega)]
theorem sF(l:List Nat)(hl:∀x∈l,x<65536)(hn:l.length≤3):dc (zl l)=some ((eO l:Nat):Int):=by
 unfold dc
 simp only[aL]
 have hV:eO l<65536^l.length:=ew l hl
 have hp:65536^l.length≤65536^3:=Nat.pow_le_pow_right (by decide) hn
 rw[show(65536:Nat)^3=281474976710656 by decide]at hp
 rw[cZ,b7 (by omega) (by omega)]
 refine aU (fun j=>(((eO l/65536^(l.length-j):Nat):Int),(l.length:Int)-1-(j:Int))) l.length ((eO l:Nat):Int) ?_ (fun j hj=>?_) ?_ rfl
 ·rw[show l.length-0=l.length by omega,Nat.div_eq_of_lt hV];simp
 ·obtain⟨m,hm⟩:∃m,l.length=m+j+1:=⟨l.length-j-1,by omega⟩
  have hg:=ju hl (i:=m) (by omega)
  have hst:=vI 65536 (eO l) m
  have QH:eO l/65536^m≤eO l:=Nat.div_le_self _ _
  rw[show l.length-j=m+1 by omega,show l.length-(j+1)=m by omega,show(l.length:Int)-1-(j:Int)=(m:Int) by omega,show(l.length:Int)-1-((j+1:Nat):Int)=(m:Int)-1 by omega]
  have hd:=Nat.mod_lt (eO l/65536^m) (show 0<65536 by decide)
  simp only[]
  rw[show decide ((0:Int)≤(m:Int))=true by simp,eR,aF (ux hg),aL]
  generalize eO l/65536^(m+1)=c at*
  generalize eO l/65536^m=d at*
  rw[b7 (x:=(c:Int)*65536) (by omega) (by omega),b7 (x:=(c:Int)*65536+((d%65536:Nat):Int)) (by omega) (by omega),b7 (x:=(m:Int)-1) (by omega) (by omega),show(c:Int)*65536+((d%65536:Nat):Int)=(d:Int) by omega]
 ·simp only[]
  rw[show decide ((0:Int)≤(l.length:Int)-1-(l.length:Int))=false by rw[decide_eq_false_iff_not];omega,fM,Nat.sub_self,Nat.pow_zero,Nat.div_one]
theorem An(x:Nat)(hx:x<281474976710656):gK (x:Int)=some (zl (can 65536 x)):=by
 unfold gK
 simp only[aL]
 rw[tm,td,eN (by omega),tm,td,eN (by omega)]
 have:[((x%65536:Nat):Int),((x/65536%65536:Nat):Int),((x/65536/65536:Nat):Int)]=zl [x%65536,x/65536%65536,x/65536/65536]:=rfl
 rw[this,iL _ (by simp),aL,iJ (B:=65536) (by decide) (by intro y hy;simp at hy;omega)]
 congr 3
 simp[val]
 omega
theorem w5(l:List Nat)(f:Nat)(hl:Dg l)(hf:f<65536):dg (zl l) (f:Int)=some (zl (can 65536 (eO l*f))):=by
 unfold dg
 have h1:=qi hl
 have hm:=hl.2
 have a1:=xG hl.1
 rw[cZ]
 generalize eO l=V at*
 have uA:=fun i=>L2 (B:=65536) (V:=V) (f:=f) (e:=0) (by decide) hf (by decide) i
 refine eX (fun s=>∃i:Nat,s=(((sC 65536 V f 0 i:Nat):Int),(i:Int),zl (dr 65536 i (V*f)))∧i≤l.length+1) (fun e=>∃i,e=zl (dr 65536 i (V*f))∧V*f<65536^i∧i≤l.length+1) (fun s=>l.length+1-s.2.1.toNat) ?_ ⟨0,by rw[C9];rfl,by omega⟩ ?_
 ·rintro _ ⟨i,rfl,hi⟩
  have hc:=uA i
  have hc1:=uA (i+1)
  have Je:=Da (B:=65536) (by decide) V f 0 i
  have A9:=Gs (B:=65536) (by decide) V f 0 i
  have d1:=Nat.mod_lt (V/65536^i) (show 0<65536 by decide)
  have hp:V/65536^i%65536*f≤65535*65535:=Nat.mul_le_mul (by omega) (by omega)
  rw[Nat.add_zero]at A9
  simp only[aL,bM]
  have uO:∀(K:Bool→Option ((Int×Int×List Int)⊕List Int)),(((bif decide ((i:Int)<(l.length:Int))then some true else some (decide ((0:Int)<((sC 65536 V f 0 i:Nat):Int)))):Option Bool).bind K)=K (decide (i<l.length∨0<sC 65536 V f 0 i)):=by
   intro K
   by_cases q1:i<l.length
   ·simp[q1]
   ·simp[q1]
  rw[uO]
  by_cases E5:i<l.length∨0<sC 65536 V f 0 i
  ·left
   have hi':i<l.length+1:=by
    rcases Nat.lt_or_ge i (l.length+1)with h|h
    ·exact h
    ·have hie:i=l.length+1:=by omega
     have g3:=Gt (B:=65536) (V:=V) (f:=f) (e:=0) (i:=i) (Nat.lt_of_lt_of_le h1 (Nat.pow_le_pow_right (by decide) (by omega)))
     rw[Nat.add_zero,Nat.div_eq_of_lt]at g3
     ·omega
     ·rw[hie,Nat.pow_succ];exact Nat.mul_lt_mul'' h1 hf
   rw[show decide (i<l.length∨0<sC 65536 V f 0 i)=true by rw[decide_eq_true_eq];exact E5,eR,a1,aL,←Int.natCast_mul,eN (by omega),ku (by omega),tm,td,Je,A9,vE (by decide) (by rw[cZ,aJ];omega),aL,eN (by omega),bh (by omega)]
   refine⟨_,rfl,⟨i+1,?_,by omega⟩,by simp only[];omega⟩
   rw[gi,Df,Gx]
  ·right
   rw[show decide (i<l.length∨0<sC 65536 V f 0 i)=false by rw[decide_eq_false_iff_not];exact E5,fM]
   refine⟨_,rfl,i,rfl,?_,hi⟩
   have g3:=Gt (B:=65536) (V:=V) (f:=f) (e:=0) (i:=i) (Nat.lt_of_lt_of_le h1 (Nat.pow_le_pow_right (by decide) (by omega)))
   rw[Nat.add_zero]at g3
   rcases Nat.lt_or_ge (V*f) (65536^i)with h|h
   ·exact h
   ·have:=Nat.div_pos h (Nat.pow_pos (by decide));omega
 ·rintro _ ⟨i,rfl,hlt,hi⟩
  rw[iL _ (by rw[aJ];omega),aL,lM (by decide) hlt]
end Go.Proofs.YtmiflmkdaeianaaGreat
