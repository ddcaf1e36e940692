/- A part of the proof: the framework, the plain functions, the followed functions, the plain laws. -/
import Derived.Test.YtfoldppidpmchaaGreatPPB2
set_option linter.unusedVariables false
set_option linter.unusedSimpArgs false
namespace Go.Proofs.YtfoldppidpmchaaGreat
open Go.Fw Go.Fw.Z Go.RowKit
theorem yB{x0:List Nat}{x1:Nat}{r:Nat×List Nat}(h:gX x0 x1=some r):JF Tryz.prog 158 [.row 1000,.sv (.v (.int .u64 ((x1:Nat):Int)))] (TR 106 1 ak x0) (.sv (.v (.int .u64 ((r.1:Nat):Int)))) (List.flatMap ak r.2):=by
 refine wX Tryz.func158 rfl (Nat.le_of_ble_eq_true rfl) rfl rfl (fun b9 M v0=>?_)
 unfold gX at h
 refine sr<|ag rfl<|dn<|sr<|ag rfl<|dn<|qq<|sr<|mo (s:=.row _) rfl<|lE h fun x9 h9 h=>lL rfl rfl h9<|lE h fun cn ep h=>sb _ rfl rfl ep<|ag rfl<|dn<|bE h fun e8 Co uy=>?_
 refine aL (fun(EA:Nat×(List Nat))=>AS.bw 34 [(5,.sv (.v (.int .u64 ((EA.1:Nat):Int))))] [] [(1000,TR 106 1 ak EA.2)]) (fun EA=>EA=e8) ?_ (fun EA Cp=>?_)
 refine aq ?_
 refine aM Co (fun s8=>AS.bw 34 [(0,.row 1000),(1,.sv (.v (.int .u64 ((x1:Nat):Int)))),(5,.sv (.v (.int .u64 ((s8.1:Nat):Int)))),(6,.sv (.v (.int .i64 s8.2.1)))] [] [(1000,TR 106 1 ak s8.2.2)]) (wR []) (fun s8 y8 G8 h Cq Cr=>?_)
 obtain⟨OM,HC,si⟩:=s8
 try dsimp only
 refine qq<|sr<|mv rfl<|lE h fun bV dH h=>ge _ rfl rfl dH<|dn ?_
 cases bV
 refine cF<|aS<|ae.x<|ae.x<|aD.x<|ae.n ?_
 obtain rfl:=O (F h)
 exact⟨(OM,si),Cr _ rfl,wR []⟩
 refine cT<|aC<|ae.n<|qq<|aq<|sr<|mv rfl<|lE (V h) fun dz gZ h=>RT.shl .none _ rfl rfl T (by decide) (UK.shl (a:=OM) (q:=32) (s:=32) rfl gZ)<|mo (s:=.row _) rfl<|mv rfl<|bE h fun iC kp h=>iR rfl rfl rfl kp<|bE h fun ik nF h=>lR rfl rfl nF rfl<|lE h fun eH jT h=>cv _ rfl (UK.nat jT)<|lE h fun fu kM h=>RT.or .none _ rfl rfl T (UK.or (a:=dz) (b:=eH) kM)<|ag rfl<|dn<|sr<|mo (s:=.row _) rfl ?_
 refine mv rfl<|mv rfl<|mv rfl<|bE h fun fF mR h=>RT.quo .none _ rfl rfl T (nzU mR) (UK.quo mR)<|lE h fun jr o9 h=>cv _ rfl (UK.nat o9)<|bE h fun fQ lJ h=>iR rfl rfl rfl lJ<|bE h fun tJ nG h=>sR jr rfl rfl rfl rfl nG<|dn<|af<|mv rfl<|mv rfl<|bE h fun fI mZ h=>RT.rem .none _ rfl rfl T (nzR mZ) (Si mZ)<|ag rfl<|RT.done<|aD.n<|ae.n<|af<|mv rfl<|lE h fun cG fT h=>sb _ rfl rfl fT ?_
 refine ag rfl<|RT.done ?_
 obtain rfl:=O h
 exact ae.n ⟨(fI,cG,tJ),Cq _ rfl,wR []⟩
 subst Cp
 obtain⟨ZP,Bx⟩:=EA
 try dsimp only
 refine ae.n<|sr<|mv rfl<|ag rfl<|dn<|aj<|bE uy fun _ hle uy=>?_
 obtain rfl:=O uy
 exact⟨.inr rfl,.sv (oF (.tmp rfl (.nil)) (SV.aa _)),(by show _=ow.live ⟨106,1,x0.length,List.flatMap ak Bx⟩;rw[←mX hle];rfl)⟩
theorem xn{x0:List Nat}{x1:Nat}{r:List Nat}(h:eJ x0 x1=some r):Pure Tryz.prog 166 [slc 1 (List.map ak x0),.v (.int .u64 ((x1:Nat):Int))] (slc 1 (List.map ak r)):=by
 refine ah Tryz.func166 rfl (Nat.le_of_ble_eq_true rfl) (fun b9 M vs hvs=>?_)
 unfold eJ at h
 refine sr<|aI rfl (imp_nil (n:=1) (e:=ak))<|dn<|sr<|RT.B4 .none (dO 0) rfl ⟨rfl,trivial⟩ T rfl rfl<|an (s:=.fE _ _) rfl<|dn<|sr<|mv rfl<|lE h fun eE jS h=>ln rfl jS<|lE h fun bV dH h=>ad _ rfl rfl dH<|bE h fun fR jn h=>RT.Ln (e:=ak) .none rfl rfl T rfl T jn<|an (s:=.row _) rfl<|dn<|qq<|sr<|mv rfl<|lE h fun cE fS h=>ln rfl fS ?_
 refine mv rfl<|dn<|bE h fun e8 Co uy=>?_
 refine aL (fun(EA:Nat×(List Nat))=>AS.bw 35 [(5,.fE 157 [.box 9]),(6,.row 302)] [(9,⟨104,[.sv (.v (.int .u64 ((EA.1:Nat):Int)))]⟩)] [(302,TR 106 1 ak EA.2)]) (fun EA=>EA=e8) ?_ (fun EA Cp=>?_)
 refine aq ?_
 refine aM Co (fun s8=>AS.bw 35 [(1,.sv (.v (.int .u64 ((x1:Nat):Int)))),(5,.fE 157 [.box 9]),(6,.row 302),(14,.sv (slc 1 (List.map ak x0))),(15,.sv (.v (.int .i64 cE))),(16,.sv (.v (.int .i64 s8.1)))] [(9,⟨104,[.sv (.v (.int .u64 ((s8.2.1:Nat):Int)))]⟩)] [(302,TR 106 1 ak s8.2.2)]) (bK (fun i=>bif Nat.beq i 302 then 13 else i) rfl rfl rfl rfl rfl ⟨.sv (SV.aa _),.fE,.row rfl,.sv (SV.aa _),.sv (SV.aa _),.sv (SV.aa _),trivial⟩ ⟨⟨_,rfl,⟨.sv (SV.aa _),trivial⟩⟩,trivial⟩ ⟨⟨_,rfl,bB.refl _⟩,trivial⟩ (fun i hi=>by rw[bf (show i≠302 by omega)];rfl)) (fun s8 y8 G8 h Cq Cr=>?_)
 obtain⟨yp,sj,jv⟩:=s8
 try dsimp only
 refine sr<|lE h fun cX jd h=>ls _ rfl rfl jd<|dn<|qq ?_
 cases cX
 refine cF<|aS<|ae.x<|ae.x<|aD.x<|ae.n ?_
 obtain rfl:=O (F h)
 exact⟨(sj,jv),Cr _ rfl,wR []⟩
 refine cT<|aC<|ae.n<|qq<|aq<|sr<|bE (V h) fun c6 iS h=>ix rfl rfl iS<|lr rfl rfl<|ag rfl<|dn<|af<|mo (s:=.row _) rfl<|mo (s:=.fE _ _) rfl<|mv rfl<|lE h fun fy kN h=>cv _ rfl (UK.nat kN)<|mv rfl<|lE h fun gC lS h=>RT.shl .none _ rfl rfl T (Int.natCast_nonneg _) (UK.shl (a:=fy) (q:=((x1:Nat):Int)) (s:=min x1 64) rfl lS) ?_
 obtain⟨⟨gJ,Wr⟩,mY,h⟩:=bS h
 refine cB (bJ mY) 9 rfl ⟨rfl,trivial⟩<|bl (l:=[gJ]) (e:=ak) (.one rfl (.nil)) rfl rfl rfl rfl rfl rfl<|bE h fun jr o9 h=>aR (k:=[gJ]) (e:=ak) rfl rfl rfl o9<|an (s:=.row _) rfl<|RT.done<|aD.n<|ae.n<|af<|lE h fun fQ lJ h=>ad _ rfl rfl lJ<|mv rfl<|RT.done ?_
 obtain rfl:=O h
 exact ae.n ⟨(fQ,Wr,jr),Cq _ rfl,bK (fun i=>bif Nat.beq i 302 then 28 else i) rfl rfl rfl rfl rfl ⟨.sv (SV.aa _),.fE,.row rfl,.sv (SV.aa _),.sv (SV.aa _),.sv (SV.aa _),trivial⟩ ⟨⟨_,rfl,⟨.sv (SV.aa _),trivial⟩⟩,trivial⟩ ⟨⟨_,rfl,bB.refl _⟩,trivial⟩ (fun i hi=>by rw[bf (show i≠302 by omega)];rfl)⟩
 subst Cp
 obtain⟨Cf,ON⟩:=EA
 try dsimp only
 refine ae.n<|sr<|mo (s:=.row _) rfl<|mo (s:=.fE _ _) rfl ?_
 obtain⟨⟨fI,k12⟩,mZ,uy⟩:=bS uy
 refine cB (bJ mZ) 9 rfl ⟨rfl,trivial⟩<|bl (l:=[fI]) (e:=ak) (.one rfl (.nil)) rfl rfl rfl rfl rfl rfl<|bE uy fun oA tK uy=>RT.Oy (k:=[fI]) (e:=ak) .none rfl rfl rfl T rfl T tK<|ag rfl<|dn<|aj ?_
 obtain rfl:=O uy
 exact R1 rfl
theorem vY{x0:List Nat}{x1:Nat}{r:List Nat}(h:iD x0 x1=some r):B0 Tryz.prog 166 [slc 1 (List.map ak x0),.v (.int .u64 ((x1:Nat):Int))] (TR 106 1 ak r):=by
 refine o4 Tryz.func166 rfl (Nat.le_of_ble_eq_true rfl) (fun b9 M vs hvs=>?_)
 unfold iD at h
 refine sr<|ag rfl<|dn<|aK (cY 4 304 106 1 rfl rfl T)<|sr<|RT.B4 .none (dO 0) rfl ⟨rfl,trivial⟩ T rfl rfl<|an (s:=.fE _ _) rfl<|dn<|sr<|mv rfl<|lE h fun eE jS h=>ln rfl jS<|lE h fun bV dH h=>ad _ rfl rfl dH<|bE h fun fR jn h=>RT.Ln (e:=ak) .none rfl rfl T rfl T jn<|an (s:=.row _) rfl<|dn<|qq<|sr<|mv rfl<|lE h fun cE fS h=>ln rfl fS ?_
 refine mv rfl<|dn<|bE h fun e8 Co uy=>?_
 refine aL (fun(EA:Nat×(List Nat))=>AS.bw 35 [(5,.fE 157 [.box 9]),(6,.row 306)] [(9,⟨104,[.sv (.v (.int .u64 ((EA.1:Nat):Int)))]⟩)] [(306,TR 106 1 ak EA.2)]) (fun EA=>EA=e8) ?_ (fun EA Cp=>?_)
 refine aq ?_
 refine aM Co (fun s8=>AS.bw 35 [(1,.sv (.v (.int .u64 ((x1:Nat):Int)))),(5,.fE 157 [.box 9]),(6,.row 306),(14,.sv (slc 1 (List.map ak x0))),(15,.sv (.v (.int .i64 cE))),(16,.sv (.v (.int .i64 s8.1)))] [(9,⟨104,[.sv (.v (.int .u64 ((s8.2.1:Nat):Int)))]⟩)] [(306,TR 106 1 ak s8.2.2)]) (bK (fun i=>bif Nat.beq i 306 then 13 else i) rfl rfl rfl rfl rfl ⟨.sv (SV.aa _),.fE,.row rfl,.sv (SV.aa _),.sv (SV.aa _),.sv (SV.aa _),trivial⟩ ⟨⟨_,rfl,⟨.sv (SV.aa _),trivial⟩⟩,trivial⟩ ⟨⟨_,rfl,bB.refl _⟩,trivial⟩ (fun i hi=>by rw[bf (show i≠306 by omega)];rfl)) (fun s8 y8 G8 h Cq Cr=>?_)
 obtain⟨yp,sj,qQ⟩:=s8
 try dsimp only
 refine sr<|lE h fun cX jd h=>ls _ rfl rfl jd<|dn<|qq ?_
 cases cX
 refine cF<|aS<|ae.x<|ae.x<|aD.x<|ae.n ?_
 obtain rfl:=O (F h)
 exact⟨(sj,qQ),Cr _ rfl,wR []⟩
 refine cT<|aC<|ae.n<|qq<|aq<|sr<|bE (V h) fun c6 iS h=>ix rfl rfl iS<|lr rfl rfl<|ag rfl<|dn<|af<|mo (s:=.row _) rfl<|mo (s:=.fE _ _) rfl<|mv rfl<|lE h fun fy kN h=>cv _ rfl (UK.nat kN)<|mv rfl<|lE h fun gC lS h=>RT.shl .none _ rfl rfl T (Int.natCast_nonneg _) (UK.shl (a:=fy) (q:=((x1:Nat):Int)) (s:=min x1 64) rfl lS) ?_
 obtain⟨⟨gJ,Wr⟩,mY,h⟩:=bS h
 refine cB (bJ mY) 9 rfl ⟨rfl,trivial⟩<|bl (l:=[gJ]) (e:=ak) (.one rfl (.nil)) rfl rfl rfl rfl rfl rfl<|bE h fun jr o9 h=>aR (k:=[gJ]) (e:=ak) rfl rfl rfl o9<|an (s:=.row _) rfl<|RT.done<|aD.n<|ae.n<|af<|lE h fun fQ lJ h=>ad _ rfl rfl lJ<|mv rfl<|RT.done ?_
 obtain rfl:=O h
 exact ae.n ⟨(fQ,Wr,jr),Cq _ rfl,bK (fun i=>bif Nat.beq i 306 then 28 else i) rfl rfl rfl rfl rfl ⟨.sv (SV.aa _),.fE,.row rfl,.sv (SV.aa _),.sv (SV.aa _),.sv (SV.aa _),trivial⟩ ⟨⟨_,rfl,⟨.sv (SV.aa _),trivial⟩⟩,trivial⟩ ⟨⟨_,rfl,bB.refl _⟩,trivial⟩ (fun i hi=>by rw[bf (show i≠306 by omega)];rfl)⟩
 subst Cp
 obtain⟨Cf,qR⟩:=EA
 try dsimp only
 refine ae.n<|sr<|mo (s:=.row _) rfl<|mo (s:=.fE _ _) rfl ?_
 obtain⟨⟨fI,k12⟩,mZ,uy⟩:=bS uy
 refine cB (bJ mZ) 9 rfl ⟨rfl,trivial⟩<|bl (l:=[fI]) (e:=ak) (.one rfl (.nil)) rfl rfl rfl rfl rfl rfl<|bE uy fun oA tK uy=>aR (k:=[fI]) (e:=ak) rfl rfl rfl tK<|an (s:=.row _) rfl<|dn<|aj ?_
 obtain rfl:=O uy
 exact⟨.inr rfl,_,.tmp rfl,rfl⟩
theorem xo{x0:Nat}{r:Int}(h:fV x0=some r):Pure Tryz.prog 170 [.v (.int .u32 ((x0:Nat):Int))] (.v (.int .i64 r)):=by
 refine ah Tryz.func170 rfl (Nat.le_of_ble_eq_true rfl) (fun b9 M vs hvs=>?_)
 unfold fV at h
 refine sr<|ag rfl<|dn<|qq<|sr<|mv rfl<|lE h fun x4 h4 h=>ge _ rfl rfl (leN (p:=65536) (q:=x0) h4)<|dn ?_
 refine aH h (fun j2=>AS.bw 19 [(0,.sv (.v (.int .u32 ((j2.1:Nat):Int)))),(2,.sv (.v (.int .i64 j2.2)))] [] []) (fun h=>?_) (fun j2 h=>?_)
 cases x4
 exact fs<|⟨(x0,0),(F h),wR []⟩
 exact cT<|sr<|mv rfl<|lE (V h) fun x6 h6 h=>RT.shr .none _ rfl rfl T (by decide) (Fq (k:=.u32) (a:=x0) (q:=16) (s:=16) rfl h6)<|ag rfl<|dn<|af<|ag rfl<|dn<|⟨(x6,16),h,wR []⟩
 obtain⟨JN,Sr⟩:=j2
 try dsimp only
 refine ae.n<|qq<|sr<|mv rfl<|lE h fun x8 h8 h=>ge _ rfl rfl (leN (p:=256) (q:=JN) h8)<|dn ?_
 refine aH h (fun j4=>AS.bw 19 [(0,.sv (.v (.int .u32 ((j4.1:Nat):Int)))),(2,.sv (.v (.int .i64 j4.2)))] [] []) (fun h=>?_) (fun j4 h=>?_)
 cases x8
 exact fs<|⟨(JN,Sr),(F h),wR []⟩
 exact cT<|sr<|mv rfl<|lE (V h) fun cn ep h=>RT.shr .none _ rfl rfl T (by decide) (Fq (k:=.u32) (a:=JN) (q:=8) (s:=8) rfl ep)<|ag rfl<|dn<|af<|mv rfl<|lE h fun bV dH h=>ad _ rfl rfl dH<|ag rfl<|dn<|⟨(cn,bV),h,wR []⟩
 obtain⟨ZQ,ZR⟩:=j4
 try dsimp only
 refine ae.n<|sr<|mv rfl<|mv rfl<|lE h fun cE fS h=>cv _ rfl (UK.nat fS)<|bE h fun dz gZ h=>?_
 refine RT.six (l:=[0,1,2,2,3,3,3,3,4,4,4,4,4,4,4,4,5,5,5,5,5,5,5,5,5,5,5,5,5,5,5,5,6,6,6,6,6,6,6,6,6,6,6,6,6,6,6,6,6,6,6,6,6,6,6,6,6,6,6,6,6,6,6,6,7,7,7,7,7,7,7,7,7,7,7,7,7,7,7,7,7,7,7,7,7,7,7,7,7,7,7,7,7,7,7,7,7,7,7,7,7,7,7,7,7,7,7,7,7,7,7,7,7,7,7,7,7,7,7,7,7,7,7,7,7,7,7,7,8,8,8,8,8,8,8,8,8,8,8,8,8,8,8,8,8,8,8,8,8,8,8,8,8,8,8,8,8,8,8,8,8,8,8,8,8,8,8,8,8,8,8,8,8,8,8,8,8,8,8,8,8,8,8,8,8,8,8,8,8,8,8,8,8,8,8,8,8,8,8,8,8,8,8,8,8,8,8,8,8,8,8,8,8,8,8,8,8,8,8,8,8,8,8,8,8,8,8,8,8,8,8,8,8,8,8,8,8,8,8,8,8,8,8,8,8,8,8,8,8,8,8,8,8,8,8,8]) .none rfl rfl T gZ ?_
 refine lE h fun cX jd h=>cv _ rfl jd<|lE h fun c6 iS h=>ad _ rfl rfl iS<|ag rfl<|dn<|aj ?_
 obtain rfl:=O h
 exact R1 rfl
theorem oH{x0:Nat}{r:Int}(h:cH x0=some r):Pure Tryz.prog 165 [.v (.int .u32 ((x0:Nat):Int))] (.v (.int .i64 r)):=by
 refine ah Tryz.func165 rfl (Nat.le_of_ble_eq_true rfl) (fun b9 M vs hvs=>?_)
 unfold cH at h
 refine sr<|ag rfl<|dn<|sr<|mv rfl<|bE h fun x4 h4 h=>cl (xo h4) ⟨rfl,trivial⟩<|lE h fun x5 h5 h=>sb _ rfl rfl h5<|ag rfl<|dn<|aj ?_
 obtain rfl:=O h
 exact R1 rfl
theorem yC{x0:List Nat}{o0:Nat}{n0:Nat}{x1:List Nat}{r:Nat×List Nat}(h:gY x0 o0 n0 x1=some r):JF Tryz.prog 167 [.nq 1000 (o0*1) n0,.sv (slc 1 (List.map ak x1))] (TR 106 1 ak x0) (.sv (.v (.int .u64 ((r.1:Nat):Int)))) (List.flatMap ak r.2):=by
 refine wX Tryz.func167 rfl (Nat.le_of_ble_eq_true rfl) rfl rfl (fun b9 M v0=>?_)
 unfold gY at h
 refine sr<|ag rfl<|dn<|sr<|mv rfl<|lE h fun bV dH h=>ln rfl dH<|ag rfl<|dn<|qq<|ai mixed<|mo (s:=.nq _ _ _) rfl<|mv rfl<|bE h fun cE fS h=>RT.Hx .none rfl rfl T fS<|bE h fun dz gZ h=>lR rfl rfl gZ rfl<|lE h fun cX jd h=>cv _ rfl (UK.nat jd)<|lE h fun c6 iS h=>RT.shl .none _ rfl rfl T (by decide) (UK.shl (a:=cX) (q:=32) (s:=32) rfl iS)<|mo (s:=.nq _ _ _) rfl ?_
 refine mv rfl<|lE h fun eH jT h=>sb _ rfl rfl jT<|bE h fun fu kM h=>RT.Hx .none rfl rfl T kM<|bE h fun fy kN h=>lR rfl rfl kN rfl<|lE h fun eI mI h=>cv _ rfl (UK.nat mI)<|lE h fun gC lS h=>RT.or .none _ rfl rfl T (UK.or (a:=c6) (b:=eI) lS)<|ag rfl ?_
 refine RT.done ⟨by kernel_rfl,?_⟩
 refine ae.n<|qq<|ai mixed<|mv rfl<|mv rfl<|lE h fun jr o9 h=>sb _ rfl rfl o9<|bE h fun fQ lJ h=>ix rfl rfl lJ<|lr rfl rfl<|lE h fun ny xU h=>cv _ rfl (UK.nat xU)<|mv rfl<|mv rfl<|lE h fun oA tK h=>sb _ rfl rfl tK<|bE h fun oB xm h=>ix rfl rfl xm<|lr rfl rfl<|lE h fun oU Bf h=>cv _ rfl (UK.nat Bf)<|ag rfl<|ag rfl ?_
 refine RT.done ⟨by kernel_rfl,?_⟩
 refine ae.n<|qq<|ai mixed<|mv rfl<|mv rfl<|bE h fun nA tO h=>RT.quo .none _ rfl rfl T (nzU tO) (UK.quo tO)<|mv rfl<|mv rfl<|bE h fun zQ Jt h=>RT.rem .none _ rfl rfl T (nzR Jt) (Si Jt)<|ag rfl<|ag rfl ?_
 refine RT.done ⟨by kernel_rfl,?_⟩
 refine ae.n<|qq<|bE h fun Bd sq mL=>?_
 refine aL (fun(M5:Nat)=>AS.bw 71 [(9,.sv (.v (.int .u64 ((M5:Nat):Int))))] [] [(1000,TR 106 1 ak x0)]) (fun M5=>M5=Bd) ?_ (fun M5 su=>?_)
 refine aq ?_
 refine aM sq (fun qc=>AS.bw 71 [(0,.nq 1000 (o0*1) n0),(5,.sv (.v (.int .i64 bV))),(7,.sv (.v (.int .u64 ((ny:Nat):Int)))),(8,.sv (.v (.int .u64 ((oU:Nat):Int)))),(9,.sv (.v (.int .u64 ((qc.1:Nat):Int)))),(10,.sv (.v (.int .u64 ((qc.2:Nat):Int))))] [] [(1000,TR 106 1 ak x0)]) (wR []) (fun qc Su Sv h sw o8=>?_)
 obtain⟨DW,Ex⟩:=qc
 try dsimp only
 refine qq<|qq ?_
 refine aH h (fun Ck=>AS.bw 71 [(0,.nq 1000 (o0*1) n0),(5,.sv (.v (.int .i64 bV))),(7,.sv (.v (.int .u64 ((ny:Nat):Int)))),(8,.sv (.v (.int .u64 ((oU:Nat):Int)))),(9,.sv (.v (.int .u64 ((DW:Nat):Int)))),(10,.sv (.v (.int .u64 ((Ex:Nat):Int)))),(61,.sv (.v (.bool Ck)))] [] [(1000,TR 106 1 ak x0)]) (fun h=>?_) (fun JO h=>?_)
 refine af<|mv rfl<|lE h fun AD JY h=>RT.shr .none _ rfl rfl T (by decide) (Fq (k:=.u64) (a:=DW) (q:=32) (s:=32) rfl JY)<|lE h fun q9 h46 h=>ne _ rfl rfl (ZA (p:=AD) (q:=0) h46)<|mv rfl<|bE h fun OO bZ h=>?_
 cases q9
 refine gm rfl<|gm rfl<|lE (F bZ) fun xb HM bZ=>RT.mul (.some rfl rfl) _ rfl rfl T (UK.mul (a:=DW) (b:=oU) HM)<|gm rfl<|lE bZ fun xS Be bZ=>RT.shl (.some rfl rfl) _ rfl rfl T (by decide) (UK.shl (a:=Ex) (q:=32) (s:=32) rfl Be)<|RT.move (.some rfl rfl) (s:=.nq _ _ _) rfl T<|gm rfl<|lE bZ fun yq JZ bZ=>RT.sub (.some rfl rfl) _ rfl rfl T JZ<|bE bZ fun Uc WQ bZ=>RT.Hx (.some rfl rfl) rfl rfl T WQ<|bE bZ fun NO WR bZ=>RT.ZF (.some rfl rfl) rfl rfl WR rfl T ?_
 refine lE bZ fun Ss h58 bZ=>RT.conv (.some rfl rfl) _ rfl T (UK.nat h58)<|lE bZ fun Lu Sx bZ=>RT.or (.some rfl rfl) _ rfl rfl T (UK.or (a:=xS) (b:=Ss) Sx)<|lE bZ fun DV NQ bZ=>gg _ rfl rfl (ltN (p:=Lu) (q:=xb) NQ) ?_
 obtain rfl:=O bZ
 exact pF rfl<|dn<|⟨DV,h,wR []⟩
 obtain rfl:=O (V bZ)
 exact ww<|ww<|ww<|ww<|ww<|ww<|ww<|ww<|ww<|ww<|ww<|ww<|ww<|pT rfl<|dn<|⟨true,h,wR []⟩
 try dsimp only
 refine ae.n ?_
 cases JO
 refine cF<|aS<|ae.x<|ae.x<|aD.x<|ae.n ?_
 obtain rfl:=O (F h)
 exact⟨DW,o8 _ rfl,wR []⟩
 refine cT<|aC<|ae.n<|aq<|sr<|mv rfl<|lE (V h) fun NP h63 h=>sb _ rfl rfl (UK.sub (a:=DW) (b:=1) h63)<|ag rfl<|dn<|sr<|mv rfl<|mv rfl<|lE h fun Ud h66 h=>ad _ rfl rfl (UK.add (a:=Ex) (b:=ny) h66)<|ag rfl<|dn<|sr<|mv rfl<|lE h fun YS h68 h=>RT.shr .none _ rfl rfl T (by decide) (Fq (k:=.u64) (a:=Ud) (q:=32) (s:=32) rfl h68)<|lE h fun YT h69 h=>ne _ rfl rfl (ZA (p:=YS) (q:=0) h69) ?_
 refine dn ?_
 cases YT
 refine cF<|aC<|aD.n ?_
 obtain rfl:=O (F h)
 exact ae.n ⟨(NP,Ud),sw _ rfl,wR []⟩
 refine cT<|aS<|aD.y (by decide)<|ae.x<|aD.x<|ae.n ?_
 obtain rfl:=O (V h)
 exact⟨NP,o8 _ rfl,wR []⟩
 subst su
 try dsimp only
 refine ae.n<|sr<|mv rfl<|ag rfl<|dn<|aj<|bE mL fun _ hle mL=>?_
 obtain rfl:=O mL
 exact⟨.inr rfl,.sv (oF (.tmp rfl (.nil)) (SV.aa _)),(by show _=ow.live ⟨106,1,x0.length,List.flatMap ak x0⟩;rw[←mX hle];rfl)⟩
theorem qe{x0:List Nat}{o0:Nat}{n0:Nat}{x1:List Nat}{x2:Nat}{r:Bool×List Nat}(h:ct x0 o0 n0 x1 x2=some r):JF Tryz.prog 168 [.nq 1000 (o0*1) n0,.sv (slc 1 (List.map ak x1)),.sv (.v (.int .u64 ((x2:Nat):Int)))] (TR 106 1 ak x0) (.sv (.v (.bool r.1))) (List.flatMap ak r.2):=by
 refine wX Tryz.func168 rfl (Nat.le_of_ble_eq_true rfl) rfl rfl (fun b9 M v0=>?_)
 unfold ct at h
 refine sr<|ag rfl<|dn<|sr<|ag rfl<|dn<|sr<|RT.B4 .none (dO 0) rfl ⟨rfl,trivial⟩ T rfl rfl<|an (s:=.fE _ _) rfl<|dn<|qq<|sr<|mo (s:=.nq _ _ _) rfl<|lE h fun cG fT h=>RT.Wk .none rfl T fT<|mv rfl<|dn<|bE h fun Lw FF jo=>?_
 refine aL (fun(zZ:Nat×(List Nat))=>AS.bw 51 [(7,.sv (.v (.int .u64 ((zZ.1:Nat):Int))))] [] [(1000,TR 106 1 ak zZ.2)]) (fun zZ=>zZ=Lw) ?_ (fun zZ J0=>?_)
 refine aq ?_
 refine aM FF (fun xT=>AS.bw 51 [(0,.nq 1000 (o0*1) n0),(1,.sv (slc 1 (List.map ak x1))),(2,.sv (.v (.int .u64 ((x2:Nat):Int)))),(7,.sv (.v (.int .u64 ((xT.1:Nat):Int)))),(8,.fE 157 [.box 12]),(14,.sv (.v (.int .i64 cG))),(15,.sv (.v (.int .i64 xT.2.1)))] [(12,⟨104,[.sv (.v (.int .u64 ((xT.2.2.1:Nat):Int)))]⟩)] [(1000,TR 106 1 ak xT.2.2.2)]) (wR []) (fun xT y12 G12 h FG FH=>?_)
 obtain⟨M6,yt,Fz,vB⟩:=xT
 try dsimp only
 refine sr<|lE h fun dz gZ h=>ls _ rfl rfl gZ<|dn<|qq ?_
 cases dz
 refine cF<|aS<|ae.x<|ae.x<|aD.x<|ae.n ?_
 obtain rfl:=O (F h)
 exact⟨(M6,vB),FH _ rfl,wR []⟩
 refine cT<|aC<|ae.n<|qq<|aq<|sr<|mv rfl<|ag rfl<|dn<|sr<|ag rfl<|dn<|qq<|sr<|mv rfl<|mv rfl<|lE (V h) fun ik nF h=>ln rfl nF<|lE h fun eH jT h=>ls _ rfl rfl jT<|dn ?_
 refine aH h (fun j14=>AS.bw 51 [(0,.nq 1000 (o0*1) n0),(1,.sv (slc 1 (List.map ak x1))),(2,.sv (.v (.int .u64 ((x2:Nat):Int)))),(7,.sv (.v (.int .u64 ((M6:Nat):Int)))),(8,.fE 157 [.box 12]),(9,.sv (.v (.int .i64 yt))),(10,.sv (.v (.int .u64 ((j14:Nat):Int)))),(14,.sv (.v (.int .i64 cG))),(15,.sv (.v (.int .i64 yt)))] [(12,⟨104,[.sv (.v (.int .u64 ((Fz:Nat):Int)))]⟩)] [(1000,TR 106 1 ak vB)]) (fun h=>?_) (fun OP h=>?_)
 cases eH
 exact fs<|⟨0,(F h),wR []⟩
 exact cT<|af<|mv rfl<|mv rfl<|bE (V h) fun eI mI h=>ix rfl rfl mI<|lr rfl rfl<|lE h fun gJ mY h=>cv _ rfl (UK.nat mY)<|mv rfl<|lE h fun jr o9 h=>RT.mul .none _ rfl rfl T (UK.mul (a:=gJ) (b:=x2) o9)<|ag rfl<|dn<|⟨jr,h,wR []⟩
 try dsimp only
 refine ae.n<|qq<|ai mixed<|mo (s:=.nq _ _ _) rfl<|mv rfl<|bE h fun ny xU h=>RT.Hx .none rfl rfl T xU<|bE h fun fI mZ h=>lR rfl rfl mZ rfl<|lE h fun lI th h=>cv _ rfl (UK.nat th)<|mo (s:=.fE _ _) rfl<|mv rfl ?_
 obtain⟨⟨qm,k16⟩,vZ,h⟩:=bS h
 refine cB (bJ vZ) 12 rfl ⟨rfl,trivial⟩<|lE h fun oU Bf h=>cv _ rfl (UK.nat Bf)<|lE h fun wH FD h=>sb _ rfl rfl (UK.sub (a:=lI) (b:=oU) FD)<|mv rfl<|lE h fun nA tO h=>sb _ rfl rfl (UK.sub (a:=wH) (b:=M6) tO)<|ag rfl ?_
 refine RT.done ⟨by kernel_rfl,?_⟩
 refine ae.n<|sr<|mo (s:=.nq _ _ _) rfl<|mv rfl<|mv rfl<|lE h fun yu FI h=>cv _ rfl (UK.nat FI)<|bE h fun AD JY h=>RT.Hx .none rfl rfl T JY<|bE h fun l18 aah h=>sR yu rfl rfl rfl rfl aah<|dn<|af<|mv rfl<|lE h fun tg zY h=>RT.shr .none _ rfl rfl T (by decide) (Fq (k:=.u64) (a:=nA) (q:=63) (s:=63) rfl zY)<|ag rfl<|RT.done<|aD.n<|ae.n<|af<|lE h fun ug h48 h=>ad _ rfl rfl h48<|mv rfl<|RT.done ?_
 obtain rfl:=O h
 exact ae.n ⟨(tg,ug,k16,l18),FG _ rfl,wR []⟩
 subst J0
 obtain⟨OQ,yw⟩:=zZ
 try dsimp only
 refine ae.n<|sr<|mv rfl<|lE jo fun xb HM jo=>ne _ rfl rfl (ZA (p:=OQ) (q:=0) HM)<|ag rfl<|dn<|aj<|bE jo fun _ hle jo=>?_
 obtain rfl:=O jo
 exact⟨.inr rfl,.sv (oF (.tmp rfl (.nil)) (SV.aa _)),(by show _=ow.live ⟨106,1,x0.length,List.flatMap ak yw⟩;rw[←mX hle];rfl)⟩
set_option maxHeartbeats 4000000 in
theorem z4{x0:List Nat}{x1:List Nat}{r:(List Nat)×(List Nat)}(h:iQ x0 x1=some r):Pure Tryz.prog 159 [slc 1 (List.map ak x0),slc 1 (List.map ak x1)] (.xV [slc 1 (List.map ak r.1),slc 1 (List.map ak r.2)]):=by
 refine ah Tryz.func159 rfl (Nat.le_of_ble_eq_true rfl) (fun b9 M vs hvs=>?_)
 unfold iQ at h
 refine sr<|ag rfl<|ag rfl<|dn<|aK (cY 4 306 106 1 rfl rfl T)<|aK (cY 5 308 106 1 rfl rfl T)<|sr<|mv rfl<|lE h fun cX jd h=>ln rfl jd<|ag rfl<|dn<|sr<|mv rfl<|mv rfl<|lE h fun ik nF h=>sb _ rfl rfl nF<|bE h fun eH jT h=>ix rfl rfl jT<|lr rfl rfl<|bE h fun fy kN h=>cl (oH kN) ⟨rfl,trivial⟩ ?_
 refine lE h fun eI mI h=>cv _ rfl (UK.conv mI)<|ag rfl<|dn<|qq<|ai mixed<|mv rfl<|mv rfl<|bE h fun fF mR h=>cN (vY mR) ⟨rfl,rfl,trivial⟩<|mv rfl<|mv rfl<|bE h fun uf zX h=>cl (xn zX) ⟨rfl,rfl,trivial⟩<|mv rfl<|bE h fun fI mZ h=>RT.ua .none 0 cX rfl rfl ⟨_,rfl⟩ T mZ<|an (s:=.row _) rfl<|ag rfl ?_
 refine RT.done ⟨by kernel_rfl,?_⟩
 refine ae.n<|sr<|mv rfl<|lE h fun oA tK h=>ln rfl tK<|mv rfl<|lE h fun qm vZ h=>sb _ rfl rfl vZ<|lE h fun oU Bf h=>ad _ rfl rfl Bf<|bE h fun wH FD h=>RT.rD (n:=1) (e:=ak) .none rfl rfl T rfl T (by rfl) (by decide) (by exact⟨SV.aa _,trivial⟩) FD<|an (s:=.row _) rfl<|dn<|qq<|sr<|mv rfl<|lE h fun nA tO h=>ln rfl tO<|mv rfl<|lE h fun rV D0 h=>sb _ rfl rfl D0 ?_
 refine ag rfl<|dn<|bE h fun ZX ad1 WS=>?_
 refine aL (fun(Nb:(List Nat)×(List Nat))=>AS.bw 141 [(4,.row 38),(6,.sv (.v (.int .i64 cX))),(7,.sv (.v (.int .u64 ((eI:Nat):Int)))),(8,.row 27)] [] [(38,TR 106 1 ak Nb.1),(27,TR 106 1 ak Nb.2)]) (fun Nb=>Nb=ZX) ?_ (fun Nb ad2=>?_)
 refine aq ?_
 refine aM ad1 (fun Ws=>AS.bw 141 [(4,.row 38),(6,.sv (.v (.int .i64 cX))),(7,.sv (.v (.int .u64 ((eI:Nat):Int)))),(8,.row 27),(9,.sv (slc 1 (List.map ak fI))),(10,.sv (.v (.int .i64 Ws.1)))] [] [(38,TR 106 1 ak Ws.2.1),(27,TR 106 1 ak Ws.2.2)]) (wR []) (fun Ws y36 G36 h ad3 ad4=>?_)
 obtain⟨jw,uh,xe⟩:=Ws
 try dsimp only
 refine qq<|sr<|mv rfl<|lE h fun yu FI h=>ge _ rfl rfl FI<|dn ?_
 cases yu
 refine cF<|aS<|ae.x<|ae.x<|aD.x<|ae.n ?_
 obtain rfl:=O (F h)
 exact⟨(uh,xe),ad4 _ rfl,wR []⟩
 refine cT<|aC<|ae.n<|qq<|aq<|sr<|mo (s:=.row _) rfl<|mv rfl<|mv rfl<|mv rfl<|lE (V h) fun Ub WO h=>ad _ rfl rfl WO<|lE h fun xS Be h=>ad _ rfl rfl Be ?_
 obtain⟨⟨o53,n53⟩,O2,h⟩:=bS h
 refine RT.ZJ .none jw xS rfl rfl ⟨_,rfl⟩ ⟨_,rfl⟩ T O2<|mv rfl ?_
 obtain⟨⟨yq,Wt⟩,JZ,h⟩:=bS h
 refine bE h fun _ ad5 h=>cR (l:=xe) (l':=Wt) (e:=ak) (yC JZ) (mX ad5) 27 rfl (.cons rfl (.cons rfl (.nil)))<|ag rfl<|dn<|qq<|sr<|mo (s:=.row _) rfl<|mv rfl<|mv rfl<|mv rfl<|lE h fun DV NQ h=>ad _ rfl rfl NQ<|lE h fun M4 Sy h=>ad _ rfl rfl Sy ?_
 obtain⟨⟨o62,n62⟩,WT,h⟩:=bS h
 refine RT.ZJ .none jw M4 rfl rfl ⟨_,rfl⟩ ⟨_,rfl⟩ T WT<|mv rfl<|mv rfl ?_
 obtain⟨⟨OR,YU⟩,Up,h⟩:=bS h
 refine bE h fun _ ad6 h=>cR (l:=Wt) (l':=YU) (e:=ak) (qe Up) (mX ad6) 27 rfl (.cons rfl (.cons rfl (.cons rfl (.nil))))<|dn ?_
 refine aH h (fun YV=>AS.bw 141 [(4,.row 38),(6,.sv (.v (.int .i64 cX))),(7,.sv (.v (.int .u64 ((eI:Nat):Int)))),(8,.row 27),(9,.sv (slc 1 (List.map ak fI))),(10,.sv (.v (.int .i64 jw))),(11,.sv (.v (.int .u64 ((YV.1:Nat):Int))))] [] [(38,TR 106 1 ak uh),(27,TR 106 1 ak YV.2)]) (fun h=>?_) (fun YV h=>?_)
 cases OR
 exact fs<|⟨(yq,YU),(F h),wR []⟩
 refine cT<|sr<|mv rfl<|lE (V h) fun ZS h67 h=>sb _ rfl rfl (UK.sub (a:=yq) (b:=1) h67)<|ag rfl<|dn<|sr<|RT.B4 .none (dO 0) rfl ⟨rfl,trivial⟩ T rfl rfl<|an (s:=.fE _ _) rfl<|dn<|qq<|sr<|mv rfl<|lE h fun Wv WU h=>ln rfl WU<|mv rfl<|dn<|bE h fun e65 ad8 uz=>?_
 refine aL (fun(Nc:Nat×(List Nat))=>AS.bw 141 [(4,.row 38),(6,.sv (.v (.int .i64 cX))),(7,.sv (.v (.int .u64 ((eI:Nat):Int)))),(8,.row 27),(9,.sv (slc 1 (List.map ak fI))),(10,.sv (.v (.int .i64 jw))),(11,.sv (.v (.int .u64 ((ZS:Nat):Int)))),(12,.fE 157 [.box 68])] [(68,⟨104,[.sv (.v (.int .u64 ((Nc.1:Nat):Int)))]⟩)] [(38,TR 106 1 ak uh),(27,TR 106 1 ak Nc.2)]) (fun Nc=>Nc=e65) ?_ (fun Nc ad9=>?_)
 refine aq ?_
 refine aM ad8 (fun Ww=>AS.bw 141 [(4,.row 38),(6,.sv (.v (.int .i64 cX))),(7,.sv (.v (.int .u64 ((eI:Nat):Int)))),(8,.row 27),(9,.sv (slc 1 (List.map ak fI))),(10,.sv (.v (.int .i64 jw))),(11,.sv (.v (.int .u64 ((ZS:Nat):Int)))),(12,.fE 157 [.box 68]),(69,.sv (slc 1 (List.map ak fI))),(70,.sv (.v (.int .i64 Wv))),(71,.sv (.v (.int .i64 Ww.1)))] [(68,⟨104,[.sv (.v (.int .u64 ((Ww.2.1:Nat):Int)))]⟩)] [(38,TR 106 1 ak uh),(27,TR 106 1 ak Ww.2.2)]) (wR []) (fun Ww y65 G65 h aea aeb=>?_)
 obtain⟨zR,yx,xg⟩:=Ww
 try dsimp only
 refine sr<|lE h fun OT h72 h=>ls _ rfl rfl h72<|dn<|qq ?_
 cases OT
 refine cF<|aS<|ae.x<|ae.x<|aD.x<|ae.n ?_
 obtain rfl:=O (F h)
 exact⟨(yx,xg),aeb _ rfl,wR []⟩
 refine cT<|aC<|ae.n<|qq<|aq<|sr<|mv rfl<|bE (V h) fun St h74 h=>ix rfl rfl h74<|lr rfl rfl<|ag rfl<|ag rfl<|dn<|af<|mo (s:=.row _) rfl<|mv rfl<|mv rfl<|lE h fun x79 h79 h=>ad _ rfl rfl h79<|mo (s:=.fE _ _) rfl<|mo (s:=.row _) rfl<|mv rfl<|mv rfl<|lE h fun x84 h84 h=>ad _ rfl rfl h84<|bE h fun ZT h85 h=>iR rfl rfl rfl h85 ?_
 refine bE h fun OU h86 h=>lR rfl rfl h86 rfl<|lE h fun Wx h87 h=>cv _ rfl (UK.nat h87)<|mv rfl<|lE h fun x89 h89 h=>cv _ rfl (UK.nat h89)<|lE h fun ZU h90 h=>ad _ rfl rfl (UK.add (a:=Wx) (b:=x89) h90) ?_
 obtain⟨⟨Wy,k68⟩,h91,h⟩:=bS h
 refine cB (bJ h91) 68 rfl ⟨rfl,trivial⟩<|bE h fun x92 h92 h=>iR rfl rfl rfl h92<|bE h fun l69 aak h=>sR Wy rfl rfl rfl rfl aak<|RT.done<|aD.n<|ae.n<|af<|lE h fun x93 h93 h=>ad _ rfl rfl h93<|mv rfl<|RT.done ?_
 obtain rfl:=O h
 exact ae.n ⟨(x93,k68,l69),aea _ rfl,wR []⟩
 subst ad9
 obtain⟨HD,Cg⟩:=Nc
 try dsimp only
 refine ae.n<|af<|mo (s:=.row _) rfl<|mv rfl<|mv rfl<|lE uz fun x97 h97 uz=>ad _ rfl rfl h97<|mo (s:=.fE _ _) rfl<|mo (s:=.row _) rfl<|mv rfl<|mv rfl<|lE uz fun JQ WV uz=>ad _ rfl rfl WV<|bE uz fun ZV aei uz=>iR rfl rfl rfl aei<|bE uz fun JR WW uz=>lR rfl rfl WW rfl<|lE uz fun DX O3 uz=>cv _ rfl (UK.nat O3) ?_
 obtain⟨⟨Wz,k72⟩,aej,uz⟩:=bS uz
 exact cB (bJ aej) 68 rfl ⟨rfl,trivial⟩<|bE uz fun ZW aek uz=>iR rfl rfl rfl aek<|bE uz fun l73 aal uz=>sR Wz rfl rfl rfl rfl aal<|dn<|⟨(ZS,l73),uz,wR []⟩
 obtain⟨OS,JP⟩:=YV
 try dsimp only
 refine ae.n<|af<|mo (s:=.row _) rfl<|mv rfl<|mv rfl<|lE h fun Wu ael h=>cv _ rfl (UK.nat ael)<|bE h fun M7 WX h=>iR rfl rfl rfl WX<|bE h fun l55 aam h=>sR Wu rfl rfl rfl rfl aam<|RT.done<|aD.n<|ae.n<|af<|mv rfl<|lE h fun q9 h46 h=>sb _ rfl rfl h46<|ag rfl<|RT.done ?_
 obtain rfl:=O h
 exact ae.n ⟨(q9,l55,JP),ad3 _ rfl,wR []⟩
 subst ad2
 obtain⟨Ch,zS⟩:=Nb
 try dsimp only
 refine ae.n<|sr<|mv rfl<|bE WS fun JS WY WS=>RT.rD (n:=1) (e:=ak) .none rfl rfl T rfl T (by rfl) (by decide) (by exact⟨SV.aa _,trivial⟩) WY<|an (s:=.row _) rfl<|dn<|qq<|sr<|mv rfl<|mv rfl<|dn<|bE WS fun e81 aem aen=>?_
 refine aL (fun(sn:(List Nat))=>AS.bw 141 [(4,.row 38),(5,.row 114)] [] [(38,TR 106 1 ak Ch),(114,TR 106 1 ak sn)]) (fun sn=>sn=e81) ?_ (fun sn aeo=>?_)
 refine aq ?_
 refine aM aem (fun YW=>AS.bw 141 [(4,.row 38),(5,.row 114),(7,.sv (.v (.int .u64 ((eI:Nat):Int)))),(8,.row 27),(115,.sv (.v (.int .i64 cX))),(116,.sv (.v (.int .i64 YW.1)))] [] [(38,TR 106 1 ak Ch),(114,TR 106 1 ak YW.2),(27,TR 106 1 ak zS)]) (wR []) (fun YW y81 G81 h aep aeq=>?_)
 obtain⟨vC,yy⟩:=YW
 try dsimp only
 refine sr<|lE h fun WA aer h=>ls _ rfl rfl aer<|dn<|qq ?_
 cases WA
 refine cF<|aS<|ae.x<|ae.x<|aD.x<|ae.n ?_
 obtain rfl:=O (F h)
 exact⟨yy,aeq _ rfl,wR []⟩
 refine cT<|aC<|ae.n<|qq<|aq<|sr<|mv rfl<|ag rfl<|dn<|ai mixed<|mo (s:=.row _) rfl<|mv rfl<|mo (s:=.row _) rfl<|mv rfl<|bE (V h) fun ZY aes h=>iR rfl rfl rfl aes<|bE h fun ZZ aet h=>lR rfl rfl aet rfl<|lE h fun WB aeu h=>cv _ rfl (UK.nat aeu)<|mo (s:=.row _) rfl<|mv rfl<|lE h fun Z0 h128 h=>ad _ rfl rfl h128<|bE h fun Z1 aev h=>?_
 refine iR rfl rfl rfl aev<|bE h fun Z2 aew h=>lR rfl rfl aew rfl<|lE h fun WC aex h=>cv _ rfl (UK.nat aex)<|lE h fun WD aey h=>RT.shl .none _ rfl rfl T (by decide) (UK.shl (a:=WC) (q:=32) (s:=32) rfl aey)<|lE h fun WE aez h=>RT.or .none _ rfl rfl T (UK.or (a:=WB) (b:=WD) aez)<|mv rfl<|lE h fun Z3 aeA h=>RT.shr .none _ rfl rfl T (Int.natCast_nonneg _) (Fq (k:=.u64) (a:=WE) (q:=((eI:Nat):Int)) (s:=min eI 64) rfl aeA)<|lE h fun WG aeB h=>cv _ rfl (UK.nat aeB) ?_
 refine bE h fun Z4 aeC h=>iR rfl rfl rfl aeC<|bE h fun l83 aan h=>sR WG rfl rfl rfl rfl aan ?_
 refine RT.done ⟨by kernel_rfl,?_⟩
 refine aD.n<|ae.n<|af<|lE h fun WH aeD h=>ad _ rfl rfl aeD<|mv rfl<|RT.done ?_
 obtain rfl:=O h
 exact ae.n ⟨(WH,l83),aep _ rfl,wR []⟩
 subst aeo
 try dsimp only
 refine ae.n<|sr<|mo (s:=.row _) rfl<|mo (s:=.row _) rfl<|an (s:=.row _) rfl<|an (s:=.row _) rfl<|dn<|aK (bh (i:=38) (E1:=106) (n:=1) (e:=ak) (l:=Ch) rfl)<|aK (bh (i:=114) (E1:=106) (n:=1) (e:=ak) (l:=sn) rfl)<|aj ?_
 obtain rfl:=O aen
 exact R2 rfl rfl
theorem qw{x0:List Nat}{x1:List Nat}{r:(List Nat)×(List Nat)}(h:fB x0 x1=some r):Pure Tryz.prog 146 [slc 1 (List.map ak x0),slc 1 (List.map ak x1)] (.xV [slc 1 (List.map ak r.1),slc 1 (List.map ak r.2)]):=by
 refine ah Tryz.func146 rfl (Nat.le_of_ble_eq_true rfl) (fun b9 M vs hvs=>?_)
 unfold fB at h
 refine sr<|ag rfl<|aI rfl (imp_nil (n:=1) (e:=ak))<|dn<|aK (cY 4 304 106 1 rfl rfl T)<|qq<|aq<|sr<|mv rfl<|mv rfl<|bE h fun bV dH h=>cl (fN dH) ⟨rfl,rfl,trivial⟩<|lE h fun fR jn h=>ls _ rfl rfl jn<|ag rfl<|dn ?_
 cases fR
 refine cF<|sr<|mv rfl<|lE (F h) fun c6 iS h=>ln rfl iS<|lE h fun iC kp h=>RT.leq .none _ rfl rfl T kp<|ag rfl<|dn ?_
 cases iC
 refine cF<|sr<|mv rfl<|lE (F h) fun qm vZ h=>ln rfl vZ<|lE h fun oU Bf h=>eq _ rfl rfl (Bb (p:=qm) (q:=1) Bf)<|ag rfl<|dn ?_
 cases oU
 refine cF<|aC<|aD.n<|ae.n<|sr<|mv rfl<|mv rfl ?_
 obtain⟨⟨Z5,Z6⟩,Be,h⟩:=bS (F h)
 refine cl (z4 Be) ⟨rfl,rfl,trivial⟩<|ex rfl rfl<|ex rfl rfl<|ag rfl<|ag rfl<|dn<|aj ?_
 obtain rfl:=O h
 exact R2 rfl rfl
 refine cT<|sr<|mv rfl<|bE (V h) fun nB xp h=>cN (zU xp) ⟨rfl,trivial⟩<|an (s:=.row _) rfl<|dn<|sr<|mo (s:=.row _) rfl<|mv rfl<|bE h fun rV D0 h=>ix rfl rfl D0<|lr rfl rfl<|lE h fun yu FI h=>cv _ rfl (UK.nat FI) ?_
 obtain⟨⟨AD,l5⟩,JY,h⟩:=bS h
 refine bE h fun _ he5 h=>cR (l:=nB) (l':=l5) (e:=ak) (yB JY) (mX he5) 39 rfl (.cons rfl (.cons rfl (.nil)))<|ag rfl<|dn<|sr<|mo (s:=.row _) rfl<|mv rfl<|lE h fun ug h48 h=>cv _ rfl (UK.nat h48)<|bl (l:=[ug]) (e:=ak) (.one rfl (.nil)) rfl rfl rfl rfl rfl rfl<|an (s:=.row _) rfl<|ag rfl<|dn<|aK (bh (i:=39) (E1:=106) (n:=1) (e:=ak) (l:=l5) rfl)<|aj ?_
 refine aD.r<|ae.r ?_
 obtain rfl:=O h
 exact R2 rfl rfl
 refine cT<|sr<|mv rfl<|bE (V h) fun eH jT h=>cl (iE jT) ⟨rfl,trivial⟩<|mv rfl<|bE h fun fy kN h=>cl (iE kN) ⟨rfl,trivial⟩<|ag rfl<|ag rfl<|dn<|qq<|ai mixed<|mv rfl<|mv rfl<|bE h fun gJ mY h=>RT.quo .none _ rfl rfl T (nzU mY) (UK.quo mY) ?_
 obtain⟨⟨yz,wJ⟩,mR,h⟩:=bS h
 refine cl (jx mR) ⟨rfl,rfl,trivial⟩<|fl rfl rfl<|mv rfl<|mv rfl<|bE h fun ny xU h=>RT.rem .none _ rfl rfl T (nzR xU) (Si xU) ?_
 obtain⟨⟨wK,uj⟩,mZ,h⟩:=bS h
 refine cl (jx mZ) ⟨rfl,rfl,trivial⟩<|fl rfl rfl<|ag rfl<|ag rfl ?_
 refine RT.done ⟨by kernel_rfl,?_⟩
 refine ae.n<|aj<|aD.r<|ae.r ?_
 obtain rfl:=O h
 exact R2 rfl rfl
 refine cT<|sr<|mv rfl<|bE (V h) fun cE fS h=>cl (oa fS) ⟨rfl,trivial⟩<|ag rfl<|ag rfl<|dn<|aK (cY 4 310 106 1 rfl rfl T)<|aK (bh (i:=310) (E1:=106) (n:=1) (e:=ak) (l:=[]) rfl)<|aj<|aD.r<|ae.r ?_
 obtain rfl:=O h
 exact R2 rfl rfl
end Go.Proofs.YtfoldppidpmchaaGreat
namespace Go.Proofs.YtfoldppidpmchaaGreat
open Go.Fw Go.Fw.Z Go.RowKit
theorem c9{x0:Int}{r:Zr}(h:bF x0=some r):Pure Tryz.prog 93 [.v (.int .i64 x0)] (.agg (eZ r)):=by
 refine ah Tryz.func93 rfl (Nat.le_of_ble_eq_true rfl) (fun b9 M vs hvs=>?_)
 unfold bF at h
 refine sr<|al (cs:=[.v (.bool false),slc 1 (List.map ak [])]) (by exact⟨SV.aa _,imp_nil,trivial⟩) rfl<|dn<|sr<|mv rfl<|lE h fun x5 h5 h=>cv _ rfl (UK.conv h5)<|ag rfl<|dn<|qq<|sr<|mv rfl<|lE h fun x7 h7 h=>ls _ rfl rfl h7<|dn ?_
 refine aH h (fun j2=>AS.bw 14 [(0,.sv (.v (.int .i64 x0))),(2,.ptr 2 0),(3,.sv (.v (.int .u64 ((j2:Nat):Int))))] [(2,⟨34,[.sv (.v (.bool false)),.sv (slc 1 (List.map ak []))]⟩)] []) (fun h=>?_) (fun HE h=>?_)
 cases x7
 exact fs<|⟨x5,(F h),wR []⟩
 exact cT<|af<|mv rfl<|lE (V h) fun x9 h9 h=>RT.neg .none _ rfl T (UK.neg h9)<|ag rfl<|dn<|⟨x9,h,wR []⟩
 try dsimp only
 refine ae.n<|sr<|mv rfl<|lE h fun eE jS h=>ls _ rfl rfl jS<|mv rfl ?_
 obtain⟨⟨rF,rG⟩,jn,h⟩:=bS h
 refine cl (jx jn) ⟨rfl,rfl,trivial⟩<|so rfl rfl rfl<|dn<|aj ?_
 obtain rfl:=O h
 exact RZ (.agg rfl rfl (.cons rfl (.cons rfl (.nil))) rfl (.nil))
theorem fJ{x0:Zr}{r:Int×Bool}(h:cL x0=some r):Pure Tryz.prog 100 [.agg (eZ x0)] (.xV [.v (.int .i64 r.1),.v (.bool r.2)]):=by
 obtain⟨az,aA⟩:=x0
 refine ah Tryz.func100 rfl (Nat.le_of_ble_eq_true rfl) (fun b9 M vs hvs=>?_)
 unfold cL at h
 refine sr<|bx rfl<|ag rfl<|ag rfl<|dn<|sr<|fa rfl rfl<|lV rfl rfl rfl<|bE h fun x8 h8 h=>cl (bC h8) ⟨rfl,trivial⟩<|ag rfl<|dn<|qq<|sr<|mv rfl<|lE h fun cn ep h=>ln rfl ep<|lE h fun eE jS h=>gt _ rfl rfl jS<|dn ?_
 cases eE
 refine fs<|sr<|mv rfl<|bE (F h) fun fR jn h=>cl (iE jn) ⟨rfl,trivial⟩<|ag rfl<|dn<|qq<|sr<|fa rfl rfl<|lV rfl rfl rfl<|dn ?_
 cases az
 refine fs<|qq<|sr<|mv rfl<|lE (F h) fun fu kM h=>ge _ rfl rfl (leN (p:=9223372036854775808) (q:=fR) kM)<|dn ?_
 cases fu
 refine fs<|sr<|mv rfl<|lE (F h) fun eI mI h=>cv _ rfl mI<|ag rfl<|ag rfl<|dn<|aj ?_
 obtain rfl:=O h
 exact R2 rfl rfl
 refine cT<|sr<|ag rfl<|ag rfl<|dn<|aj<|ae.r ?_
 obtain rfl:=O (V h)
 exact R2 rfl rfl
 refine cT<|qq<|sr<|mv rfl<|lE (V h) fun cX jd h=>gt _ rfl rfl (ltN (p:=9223372036854775808) (q:=fR) jd)<|dn ?_
 cases cX
 refine fs<|sr<|mv rfl<|lE (F h) fun iC kp h=>RT.neg .none _ rfl T (UK.neg kp)<|lE h fun ik nF h=>cv _ rfl nF<|ag rfl<|ag rfl<|dn<|aj<|ae.r ?_
 obtain rfl:=O h
 exact R2 rfl rfl
 refine cT<|sr<|ag rfl<|ag rfl<|dn<|aj<|ae.r<|ae.r ?_
 obtain rfl:=O (V h)
 exact R2 rfl rfl
 refine cT<|sr<|ag rfl<|ag rfl<|dn<|aj<|ae.r ?_
 obtain rfl:=O (V h)
 exact R2 rfl rfl
theorem pg{x0:Bool}{x1:List Nat}{x2:Bool}{x3:List Nat}{r:Zr}(h:cD x0 x1 x2 x3=some r):Pure Tryz.prog 149 [.v (.bool x0),slc 1 (List.map ak x1),.v (.bool x2),slc 1 (List.map ak x3)] (.agg (eZ r)):=by
 refine ah Tryz.func149 rfl (Nat.le_of_ble_eq_true rfl) (fun b9 M vs hvs=>?_)
 unfold cD at h
 refine sr<|al (cs:=[.v (.bool false),slc 1 (List.map ak [])]) (by exact⟨SV.aa _,imp_nil,trivial⟩) rfl<|dn<|qq<|sr<|mv rfl<|mv rfl<|lE h fun eE jS h=>RT.Y8 .none _ rfl rfl T jS<|dn ?_
 cases eE
 refine fs<|qq<|sr<|mv rfl<|mv rfl<|bE (F h) fun iC kp h=>cl (fN kp) ⟨rfl,rfl,trivial⟩<|lE h fun ik nF h=>ls _ rfl rfl nF<|dn ?_
 cases ik
 refine fs<|sr<|mv rfl<|mv rfl<|mv rfl<|bE (F h) fun fQ lJ h=>cl (lT lJ) ⟨rfl,rfl,trivial⟩ ?_
 obtain⟨⟨qp,qt⟩,zX,h⟩:=bS h
 refine cl (ew zX) ⟨rfl,rfl,trivial⟩<|so rfl rfl rfl<|dn<|aj ?_
 obtain rfl:=O h
 exact RZ (.agg rfl rfl (.cons rfl (.cons rfl (.nil))) rfl (.nil))
 refine cT<|sr<|mv rfl<|mv rfl<|mv rfl<|bE (V h) fun eI mI h=>cl (lT mI) ⟨rfl,rfl,trivial⟩ ?_
 obtain⟨⟨qo,o7⟩,lS,h⟩:=bS h
 refine cl (ew lS) ⟨rfl,rfl,trivial⟩<|so rfl rfl rfl<|dn<|aj<|ae.r ?_
 obtain rfl:=O h
 exact RZ (.agg rfl rfl (.cons rfl (.cons rfl (.nil))) rfl (.nil))
 refine cT<|sr<|mv rfl<|mv rfl<|mv rfl<|bE (V h) fun cE fS h=>cl (qu fS) ⟨rfl,rfl,trivial⟩ ?_
 obtain⟨⟨iq,ir⟩,gZ,h⟩:=bS h
 refine cl (ew gZ) ⟨rfl,rfl,trivial⟩<|so rfl rfl rfl<|dn<|aj<|ae.r ?_
 obtain rfl:=O h
 exact RZ (.agg rfl rfl (.cons rfl (.cons rfl (.nil))) rfl (.nil))
theorem FJ{x0:Zr}{x1:Zr}{r:Zr}(h:nC x0 x1=some r):Pure Tryz.prog 127 [.agg (eZ x0),.agg (eZ x1)] (.agg (eZ r)):=by
 obtain⟨az,aA⟩:=x0
 obtain⟨aZ,aY⟩:=x1
 refine ah Tryz.func127 rfl (Nat.le_of_ble_eq_true rfl) (fun b9 M vs hvs=>?_)
 unfold nC at h
 refine sr<|bx rfl<|bx rfl<|al (cs:=[.v (.bool false),slc 1 (List.map ak [])]) (by exact⟨SV.aa _,imp_nil,trivial⟩) rfl<|dn<|sr<|ld rfl rfl (.cons rfl (.cons rfl (.nil))) ?_
 obtain⟨⟨DY,JU⟩,dH,h⟩:=bS h
 refine cl (fJ dH) ⟨rfl,trivial⟩<|mv rfl<|ex rfl rfl<|ex rfl rfl<|ag rfl<|ag rfl<|dn<|sr<|ld rfl rfl (.cons rfl (.cons rfl (.nil))) ?_
 obtain⟨⟨FA,JV⟩,jd,h⟩:=bS h
 refine cl (fJ jd) ⟨rfl,trivial⟩<|mv rfl<|ex rfl rfl<|ex rfl rfl<|ag rfl<|ag rfl<|dn<|qq<|qq ?_
 refine aH h (fun j3=>AS.bw 48 [(2,.ptr 2 0),(3,.ptr 3 0),(4,.ptr 4 0),(5,.sv (.v (.int .i64 DY))),(7,.sv (.v (.int .i64 FA))),(23,.sv (.v (.bool j3)))] [(4,⟨34,[.sv (.v (.bool false)),.sv (slc 1 (List.map ak []))]⟩),(3,⟨34,[.sv (.v (.bool aZ)),.sv (slc 1 (List.map ak aY))]⟩),(2,⟨34,[.sv (.v (.bool az)),.sv (slc 1 (List.map ak aA))]⟩)] []) (fun h=>?_) (fun Ci h=>?_)
 refine af<|mv rfl<|mv rfl<|bE h fun HH AE h=>?_
 cases JU
 obtain rfl:=O (F AE)
 exact ww<|pF rfl<|dn<|⟨false,h,wR []⟩
 refine gm rfl ?_
 obtain rfl:=O (V AE)
 exact pT rfl<|dn<|⟨JV,h,wR []⟩
 try dsimp only
 refine ae.n ?_
 refine aH h (fun j5=>AS.bw 48 [(2,.ptr 2 0),(3,.ptr 3 0),(4,.ptr 4 0)] [(4,⟨34,[.sv (.v (.bool false)),.sv (slc 1 (List.map ak []))]⟩),(3,⟨34,[.sv (.v (.bool aZ)),.sv (slc 1 (List.map ak aY))]⟩),(2,⟨34,[.sv (.v (.bool az)),.sv (slc 1 (List.map ak aA))]⟩)] []) (fun h=>?_) (fun j5 h=>?_)
 cases Ci
 exact fs<|⟨(),(F h),wR []⟩
 refine cT<|sr<|mv rfl<|mv rfl<|lE (V h) fun gJ mY h=>ad _ rfl rfl mY<|ag rfl<|dn<|sr<|mv rfl<|mv rfl<|lE h fun fQ lJ h=>RT.xor .none _ rfl rfl T lJ<|mv rfl<|mv rfl<|lE h fun fI mZ h=>RT.xor .none _ rfl rfl T mZ<|lE h fun lI th h=>RT.and .none _ rfl rfl T th<|lE h fun oA tK h=>ge _ rfl rfl tK<|dn ?_
 cases oA
 exact fs<|⟨(),(F h),wR []⟩
 refine cT<|sr<|mv rfl ?_
 obtain⟨⟨um,uo⟩,vZ,h⟩:=bS (V h)
 refine cl (c9 vZ) ⟨rfl,trivial⟩<|so rfl rfl rfl<|dn<|aj<|ae.r<|ae.r ?_
 obtain rfl:=O h
 exact RZ (.agg rfl rfl (.cons rfl (.cons rfl (.nil))) rfl (.nil))
 try dsimp only
 refine ae.n<|qq<|ai mixed<|fa rfl rfl<|lV rfl rfl rfl<|fa rfl rfl<|lV rfl rfl rfl<|bE h fun wI FE h=>cl (bC FE) ⟨rfl,trivial⟩<|fa rfl rfl<|lV rfl rfl rfl<|fa rfl rfl<|lV rfl rfl rfl<|bE h fun q9 h46 h=>cl (bC h46) ⟨rfl,trivial⟩ ?_
 obtain⟨⟨HF,HG⟩,zY,h⟩:=bS h
 refine cl (pg zY) ⟨rfl,rfl,rfl,rfl,trivial⟩<|so rfl rfl rfl ?_
 refine RT.done ⟨by kernel_rfl,?_⟩
 refine ae.n<|aj ?_
 obtain rfl:=O h
 exact RZ (.agg rfl rfl (.cons rfl (.cons rfl (.nil))) rfl (.nil))
theorem FK{x0:Zr}{x1:Zr}{r:Zr}(h:nD x0 x1=some r):Pure Tryz.prog 129 [.agg (eZ x0),.agg (eZ x1)] (.agg (eZ r)):=by
 obtain⟨az,aA⟩:=x0
 obtain⟨aZ,aY⟩:=x1
 refine ah Tryz.func129 rfl (Nat.le_of_ble_eq_true rfl) (fun b9 M vs hvs=>?_)
 unfold nD at h
 refine sr<|bx rfl<|bx rfl<|al (cs:=[.v (.bool false),slc 1 (List.map ak [])]) (by exact⟨SV.aa _,imp_nil,trivial⟩) rfl<|dn<|sr<|ld rfl rfl (.cons rfl (.cons rfl (.nil))) ?_
 obtain⟨⟨DY,JU⟩,dH,h⟩:=bS h
 refine cl (fJ dH) ⟨rfl,trivial⟩<|mv rfl<|ex rfl rfl<|ex rfl rfl<|ag rfl<|ag rfl<|dn<|sr<|ld rfl rfl (.cons rfl (.cons rfl (.nil))) ?_
 obtain⟨⟨FA,JV⟩,jd,h⟩:=bS h
 refine cl (fJ jd) ⟨rfl,trivial⟩<|mv rfl<|ex rfl rfl<|ex rfl rfl<|ag rfl<|ag rfl<|dn<|qq<|qq ?_
 refine aH h (fun j3=>AS.bw 49 [(2,.ptr 2 0),(3,.ptr 3 0),(4,.ptr 4 0),(5,.sv (.v (.int .i64 DY))),(7,.sv (.v (.int .i64 FA))),(23,.sv (.v (.bool j3)))] [(4,⟨34,[.sv (.v (.bool false)),.sv (slc 1 (List.map ak []))]⟩),(3,⟨34,[.sv (.v (.bool aZ)),.sv (slc 1 (List.map ak aY))]⟩),(2,⟨34,[.sv (.v (.bool az)),.sv (slc 1 (List.map ak aA))]⟩)] []) (fun h=>?_) (fun Ci h=>?_)
 refine af<|mv rfl<|mv rfl<|bE h fun HH AE h=>?_
 cases JU
 obtain rfl:=O (F AE)
 exact ww<|pF rfl<|dn<|⟨false,h,wR []⟩
 refine gm rfl ?_
 obtain rfl:=O (V AE)
 exact pT rfl<|dn<|⟨JV,h,wR []⟩
 try dsimp only
 refine ae.n ?_
 refine aH h (fun j5=>AS.bw 49 [(2,.ptr 2 0),(3,.ptr 3 0),(4,.ptr 4 0)] [(4,⟨34,[.sv (.v (.bool false)),.sv (slc 1 (List.map ak []))]⟩),(3,⟨34,[.sv (.v (.bool aZ)),.sv (slc 1 (List.map ak aY))]⟩),(2,⟨34,[.sv (.v (.bool az)),.sv (slc 1 (List.map ak aA))]⟩)] []) (fun h=>?_) (fun j5 h=>?_)
 cases Ci
 exact fs<|⟨(),(F h),wR []⟩
 refine cT<|sr<|mv rfl<|mv rfl<|lE (V h) fun gJ mY h=>sb _ rfl rfl mY<|ag rfl<|dn<|sr<|mv rfl<|mv rfl<|lE h fun fQ lJ h=>RT.xor .none _ rfl rfl T lJ<|mv rfl<|mv rfl<|lE h fun fI mZ h=>RT.xor .none _ rfl rfl T mZ<|lE h fun lI th h=>RT.and .none _ rfl rfl T th<|lE h fun oA tK h=>ge _ rfl rfl tK<|dn ?_
 cases oA
 exact fs<|⟨(),(F h),wR []⟩
 refine cT<|sr<|mv rfl ?_
 obtain⟨⟨um,uo⟩,vZ,h⟩:=bS (V h)
 refine cl (c9 vZ) ⟨rfl,trivial⟩<|so rfl rfl rfl<|dn<|aj<|ae.r<|ae.r ?_
 obtain rfl:=O h
 exact RZ (.agg rfl rfl (.cons rfl (.cons rfl (.nil))) rfl (.nil))
 try dsimp only
 refine ae.n<|qq<|ai mixed<|fa rfl rfl<|lV rfl rfl rfl<|fa rfl rfl<|lV rfl rfl rfl<|bE h fun wI FE h=>cl (bC FE) ⟨rfl,trivial⟩<|fa rfl rfl<|lV rfl rfl rfl<|lE h fun yu FI h=>nt rfl _ FI<|fa rfl rfl<|lV rfl rfl rfl<|bE h fun tg zY h=>cl (bC zY) ⟨rfl,trivial⟩ ?_
 obtain⟨⟨Ue,Uf⟩,h48,h⟩:=bS h
 refine cl (pg h48) ⟨rfl,rfl,rfl,rfl,trivial⟩<|so rfl rfl rfl ?_
 refine RT.done ⟨by kernel_rfl,?_⟩
 refine ae.n<|aj ?_
 obtain rfl:=O h
 exact RZ (.agg rfl rfl (.cons rfl (.cons rfl (.nil))) rfl (.nil))
theorem dV{x0:Zr}{x1:Zr}{r:Zr}(h:cU x0 x1=some r):Pure Tryz.prog 84 [.agg (eZ x0),.agg (eZ x1)] (.agg (eZ r)):=by
 obtain⟨az,aA⟩:=x0
 obtain⟨aZ,aY⟩:=x1
 refine ah Tryz.func84 rfl (Nat.le_of_ble_eq_true rfl) (fun b9 M vs hvs=>?_)
 unfold cU at h
 refine sr<|bx rfl<|bx rfl<|al (cs:=[.v (.bool false),slc 1 (List.map ak [])]) (by exact⟨SV.aa _,imp_nil,trivial⟩) rfl<|dn<|qq<|ai mixed<|fa rfl rfl<|lV rfl rfl rfl<|bE h fun x9 h9 h=>cl (bC h9) ⟨rfl,trivial⟩<|fa rfl rfl<|lV rfl rfl rfl<|bE h fun bV dH h=>cl (bC dH) ⟨rfl,trivial⟩<|ag rfl<|ag rfl ?_
 refine RT.done ⟨by kernel_rfl,?_⟩
 refine ae.n<|qq<|qq ?_
 refine aH h (fun j3=>AS.bw 41 [(2,.ptr 2 0),(3,.ptr 3 0),(4,.ptr 4 0),(5,.sv (slc 1 (List.map ak x9))),(6,.sv (slc 1 (List.map ak bV))),(20,.sv (.v (.bool j3)))] [(4,⟨34,[.sv (.v (.bool false)),.sv (slc 1 (List.map ak []))]⟩),(3,⟨34,[.sv (.v (.bool aZ)),.sv (slc 1 (List.map ak aY))]⟩),(2,⟨34,[.sv (.v (.bool az)),.sv (slc 1 (List.map ak aA))]⟩)] []) (fun h=>?_) (fun OV h=>?_)
 refine af<|mv rfl<|lE h fun cG fT h=>ln rfl fT<|lE h fun cE fS h=>RT.leq .none _ rfl rfl T fS<|mv rfl<|bE h fun Ui lK h=>?_
 cases cE
 obtain rfl:=O (F lK)
 exact ww<|ww<|ww<|pF rfl<|dn<|⟨false,h,wR []⟩
 refine gm rfl<|lE (V lK) fun c6 iS lK=>gn rfl iS<|lE lK fun iC kp lK=>RT.leq (.some rfl rfl) _ rfl rfl T kp ?_
 obtain rfl:=O lK
 exact pT rfl<|dn<|⟨iC,h,wR []⟩
 try dsimp only
 refine ae.n ?_
 cases OV
 refine fs<|qq<|ai mixed<|fa rfl rfl<|lV rfl rfl rfl<|fa rfl rfl<|lV rfl rfl rfl<|lE (F h) fun qm vZ h=>RT.MM .none _ rfl rfl T vZ<|mv rfl<|mv rfl<|bE h fun nB xp h=>cl (yA xp) ⟨rfl,rfl,trivial⟩ ?_
 obtain⟨⟨ur,uu⟩,tO,h⟩:=bS h
 refine cl (ew tO) ⟨rfl,rfl,trivial⟩<|so rfl rfl rfl ?_
 refine RT.done ⟨by kernel_rfl,?_⟩
 refine ae.n<|aj ?_
 obtain rfl:=O h
 exact RZ (.agg rfl rfl (.cons rfl (.cons rfl (.nil))) rfl (.nil))
 refine cT<|qq<|ai mixed<|fa rfl rfl<|lV rfl rfl rfl<|fa rfl rfl<|lV rfl rfl rfl<|lE (V h) fun gC lS h=>RT.MM .none _ rfl rfl T lS<|mv rfl<|bE h fun fF mR h=>cl (iE mR) ⟨rfl,trivial⟩<|mv rfl<|bE h fun fQ lJ h=>cl (iE lJ) ⟨rfl,trivial⟩<|lE h fun uf zX h=>RT.mul .none _ rfl rfl T (UK.mul (a:=fF) (b:=fQ) zX) ?_
 obtain⟨⟨Ug,Uh⟩,xU,h⟩:=bS h
 refine cl (jx xU) ⟨rfl,rfl,trivial⟩<|so rfl rfl rfl ?_
 refine RT.done ⟨by kernel_rfl,?_⟩
 refine ae.n<|aj<|ae.r ?_
 obtain rfl:=O h
 exact RZ (.agg rfl rfl (.cons rfl (.cons rfl (.nil))) rfl (.nil))
theorem lU{x0:Zr}{r:Zr}(h:fW x0=some r):Pure Tryz.prog 95 [.agg (eZ x0)] (.agg (eZ r)):=by
 obtain⟨az,aA⟩:=x0
 refine ah Tryz.func95 rfl (Nat.le_of_ble_eq_true rfl) (fun b9 M vs hvs=>?_)
 unfold fW at h
 refine sr<|bx rfl<|al (cs:=[.v (.bool false),slc 1 (List.map ak [])]) (by exact⟨SV.aa _,imp_nil,trivial⟩) rfl<|dn<|qq<|ai mixed<|fa rfl rfl<|lV rfl rfl rfl<|lE h fun x5 h5 h=>nt rfl _ h5<|fa rfl rfl<|lV rfl rfl rfl<|bE h fun x8 h8 h=>cl (bC h8) ⟨rfl,trivial⟩<|bE h fun x9 h9 h=>cl (oa h9) ⟨rfl,trivial⟩ ?_
 obtain⟨⟨lP,lQ⟩,ep,h⟩:=bS h
 refine cl (ew ep) ⟨rfl,rfl,trivial⟩<|so rfl rfl rfl ?_
 refine RT.done ⟨by kernel_rfl,?_⟩
 refine ae.n<|aj ?_
 obtain rfl:=O h
 exact RZ (.agg rfl rfl (.cons rfl (.cons rfl (.nil))) rfl (.nil))
theorem dW{x0:Zr}{r:Int}(h:cg x0=some r):Pure Tryz.prog 64 [.agg (eZ x0)] (.v (.int .i64 r)):=by
 obtain⟨az,aA⟩:=x0
 refine ah Tryz.func64 rfl (Nat.le_of_ble_eq_true rfl) (fun b9 M vs hvs=>?_)
 unfold cg at h
 refine sr<|bx rfl<|ag rfl<|dn<|qq<|aq<|sr<|fa rfl rfl<|lV rfl rfl rfl<|bE h fun x6 h6 h=>cl (bC h6) ⟨rfl,trivial⟩<|lE h fun x7 h7 h=>ln rfl h7<|lE h fun x8 h8 h=>eq _ rfl rfl (Bb (p:=x7) (q:=0) h8)<|ag rfl<|dn ?_
 cases x8
 refine cF<|sr<|fa rfl rfl<|lV rfl rfl rfl<|ag rfl<|dn ?_
 replace h:=F h
 cases az
 refine cF<|aC<|aD.n<|ae.n<|sr<|ag rfl<|dn<|aj ?_
 obtain rfl:=O (F h)
 exact R1 rfl
 refine cT<|sr<|ag rfl<|dn<|aj<|aD.r<|ae.r ?_
 obtain rfl:=O (V h)
 exact R1 rfl
 refine cT<|sr<|ag rfl<|dn<|aj<|aD.r<|ae.r ?_
 obtain rfl:=O (V h)
 exact R1 rfl
theorem FL{x0:Zr}{x1:Zr}{r:Int}(h:nE x0 x1=some r):Pure Tryz.prog 83 [.agg (eZ x0),.agg (eZ x1)] (.v (.int .i64 r)):=by
 obtain⟨az,aA⟩:=x0
 obtain⟨aZ,aY⟩:=x1
 refine ah Tryz.func83 rfl (Nat.le_of_ble_eq_true rfl) (fun b9 M vs hvs=>?_)
 unfold nE at h
 refine sr<|bx rfl<|bx rfl<|ag rfl<|dn<|qq<|ai mixed<|ld rfl rfl (.cons rfl (.cons rfl (.nil)))<|bE h fun x8 h8 h=>cl (dW h8) ⟨rfl,trivial⟩<|ld rfl rfl (.cons rfl (.cons rfl (.nil)))<|bE h fun cn ep h=>cl (dW ep) ⟨rfl,trivial⟩<|ag rfl<|ag rfl ?_
 refine RT.done ⟨by kernel_rfl,?_⟩
 refine ae.n<|qq<|aq<|sr<|mv rfl<|mv rfl<|lE h fun cG fT h=>ls _ rfl rfl fT<|ag rfl<|dn ?_
 cases cG
 refine cF<|sr<|mv rfl<|mv rfl<|lE (F h) fun c6 iS h=>gt _ rfl rfl iS<|ag rfl<|dn ?_
 cases c6
 refine cF<|sr<|mv rfl<|lE (F h) fun eH jT h=>ls _ rfl rfl jT<|ag rfl<|dn ?_
 cases eH
 refine cF<|aC<|aD.n<|ae.n<|qq<|ai mixed<|fa rfl rfl<|lV rfl rfl rfl<|bE (F h) fun ny xU h=>cl (bC xU) ⟨rfl,trivial⟩<|fa rfl rfl<|lV rfl rfl rfl<|bE h fun oA tK h=>cl (bC tK) ⟨rfl,trivial⟩<|bE h fun oB xm h=>cl (fN xm) ⟨rfl,rfl,trivial⟩<|ag rfl ?_
 refine RT.done ⟨by kernel_rfl,?_⟩
 refine ae.n<|aj ?_
 obtain rfl:=O h
 exact R1 rfl
 refine cT<|qq<|ai mixed<|fa rfl rfl<|lV rfl rfl rfl<|bE (V h) fun eI mI h=>cl (bC mI) ⟨rfl,trivial⟩<|fa rfl rfl<|lV rfl rfl rfl<|bE h fun fF mR h=>cl (bC mR) ⟨rfl,trivial⟩<|bE h fun jr o9 h=>cl (fN o9) ⟨rfl,rfl,trivial⟩<|ag rfl ?_
 refine RT.done ⟨by kernel_rfl,?_⟩
 refine ae.n<|aj<|aD.r<|ae.r ?_
 obtain rfl:=O h
 exact R1 rfl
 refine cT<|sr<|ag rfl<|dn<|aj<|aD.r<|ae.r ?_
 obtain rfl:=O (V h)
 exact R1 rfl
 refine cT<|sr<|ag rfl<|dn<|aj<|aD.r<|ae.r ?_
 obtain rfl:=O (V h)
 exact R1 rfl
theorem tj{x0:Zr}{x1:Zr}{r:Zr×Zr×Int}(h:eu x0 x1=some r):Pure Tryz.prog 125 [.agg (eZ x0),.agg (eZ x1)] (.xV [.agg (eZ r.1),.agg (eZ r.2.1),.v (.int .i64 r.2.2)]):=by
 obtain⟨az,aA⟩:=x0
 obtain⟨aZ,aY⟩:=x1
 refine ah Tryz.func125 rfl (Nat.le_of_ble_eq_true rfl) (fun b9 M vs hvs=>?_)
 unfold eu at h
 refine sr<|bx rfl<|bx rfl<|al (cs:=[.v (.bool false),slc 1 (List.map ak [])]) (by exact⟨SV.aa _,imp_nil,trivial⟩) rfl<|al (cs:=[.v (.bool false),slc 1 (List.map ak [])]) (by exact⟨SV.aa _,imp_nil,trivial⟩) rfl<|ag rfl<|dn<|qq<|ai mixed<|fa rfl rfl<|lV rfl rfl rfl<|bE h fun fR jn h=>cl (bC jn) ⟨rfl,trivial⟩<|fa rfl rfl<|lV rfl rfl rfl ?_
 refine bE h fun dz gZ h=>cl (bC gZ) ⟨rfl,trivial⟩<|ag rfl<|ag rfl ?_
 refine RT.done ⟨by kernel_rfl,?_⟩
 refine ae.n<|qq<|sr<|mv rfl<|lE h fun c6 iS h=>ln rfl iS<|lE h fun iC kp h=>eq _ rfl rfl (Bb (p:=c6) (q:=0) kp)<|dn ?_
 cases iC
 refine fs<|sr<|mv rfl<|mv rfl ?_
 obtain⟨⟨Cj,FB⟩,lS,h⟩:=bS (F h)
 refine cl (qw lS) ⟨rfl,rfl,trivial⟩<|mv rfl<|ex rfl rfl<|ex rfl rfl<|ag rfl<|ag rfl<|dn<|sr<|mv rfl<|bE h fun fQ lJ h=>cl (bC lJ) ⟨rfl,trivial⟩<|ag rfl<|dn<|qq<|qq ?_
 refine aH h (fun j3=>AS.bw 52 [(2,.ptr 2 0),(3,.ptr 3 0),(4,.ptr 4 0),(5,.ptr 5 0),(8,.sv (slc 1 (List.map ak dz))),(9,.sv (slc 1 (List.map ak Cj))),(10,.sv (slc 1 (List.map ak fQ))),(36,.sv (.v (.bool j3.1)))] [(5,⟨34,[.sv (.v (.bool false)),.sv (slc 1 (List.map ak []))]⟩),(4,⟨34,[.sv (.v (.bool false)),.sv (slc 1 (List.map ak []))]⟩),(3,⟨34,[.sv (.v (.bool aZ)),.sv (slc 1 (List.map ak aY))]⟩),(2,⟨34,[.sv (.v (.bool j3.2)),.sv (slc 1 (List.map ak aA))]⟩)] []) (fun h=>?_) (fun j3 h=>?_)
 refine af<|fa rfl rfl<|lV rfl rfl rfl<|mv rfl<|bE h fun Ul AE h=>?_
 cases az
 obtain rfl:=O (F AE)
 exact ww<|ww<|ww<|pF rfl<|dn<|⟨(false,false),h,wR []⟩
 refine gm rfl<|lE (V AE) fun oA tK AE=>gn rfl tK<|lE AE fun oB xm AE=>gg _ rfl rfl xm ?_
 obtain rfl:=O AE
 exact pT rfl<|dn<|⟨(oB,true),h,wR []⟩
 obtain⟨OW,xh⟩:=j3
 try dsimp only
 refine ae.n ?_
 refine aH h (fun j5=>AS.bw 52 [(2,.ptr 2 0),(3,.ptr 3 0),(4,.ptr 4 0),(5,.ptr 5 0),(9,.sv (slc 1 (List.map ak j5.1))),(10,.sv (slc 1 (List.map ak j5.2)))] [(5,⟨34,[.sv (.v (.bool false)),.sv (slc 1 (List.map ak []))]⟩),(4,⟨34,[.sv (.v (.bool false)),.sv (slc 1 (List.map ak []))]⟩),(3,⟨34,[.sv (.v (.bool aZ)),.sv (slc 1 (List.map ak aY))]⟩),(2,⟨34,[.sv (.v (.bool xh)),.sv (slc 1 (List.map ak aA))]⟩)] []) (fun h=>?_) (fun j5 h=>?_)
 cases OW
 exact fs<|⟨(Cj,fQ),(F h),wR []⟩
 exact cT<|sr<|mv rfl<|bl (l:=[1]) (e:=ak) (.one rfl (.nil)) rfl rfl rfl rfl rfl rfl<|bE (V h) fun nB xp h=>cl (qu xp) ⟨rfl,rfl,trivial⟩<|ag rfl<|dn<|af<|mv rfl<|mv rfl<|bE h fun rV D0 h=>cl (lT D0) ⟨rfl,rfl,trivial⟩<|ag rfl<|dn<|⟨(nB,rV),h,wR []⟩
 obtain⟨OX,HI⟩:=j5
 try dsimp only
 refine ae.n<|sr<|fa rfl rfl<|lV rfl rfl rfl<|fa rfl rfl<|lV rfl rfl rfl<|lE h fun tg zY h=>RT.MM .none _ rfl rfl T zY<|mv rfl ?_
 obtain⟨⟨HJ,HK⟩,WN,h⟩:=bS h
 refine cl (ew WN) ⟨rfl,rfl,trivial⟩<|mv rfl ?_
 obtain⟨⟨Uj,Uk⟩,WO,h⟩:=bS h
 refine cl (ew WO) ⟨rfl,rfl,trivial⟩<|so rfl rfl rfl<|so rfl rfl rfl<|ag rfl<|dn<|aj ?_
 obtain rfl:=O h
 exact RZ (.agg rfl rfl (.cons rfl (.cons rfl (.nil))) rfl (.agg rfl rfl (.cons rfl (.cons rfl (.nil))) rfl (.tmp rfl (.nil))))
 refine cT<|sr<|bI (cs:=[_,_]) (cs':=[.v (.bool false),slc 1 (List.map ak [])]) (.nil) ⟨SV.aa _,imp_nil,trivial⟩<|bI (cs:=[_,_]) (cs':=[.v (.bool false),slc 1 (List.map ak [])]) (.nil) ⟨SV.aa _,imp_nil,trivial⟩<|so rfl rfl rfl<|so rfl rfl rfl<|ag rfl<|dn<|aj<|ae.r ?_
 obtain rfl:=O (V h)
 exact RZ (.agg rfl rfl (.cons rfl (.cons rfl (.nil))) rfl (.agg rfl rfl (.cons rfl (.cons rfl (.nil))) rfl (.tmp rfl (.nil))))
theorem FM{x0:Zr}{x1:Zr}{r:Zr}(h:kY x0 x1=some r):Pure Tryz.prog 124 [.agg (eZ x0),.agg (eZ x1)] (.agg (eZ r)):=by
 obtain⟨az,aA⟩:=x0
 obtain⟨aZ,aY⟩:=x1
 refine ah Tryz.func124 rfl (Nat.le_of_ble_eq_true rfl) (fun b9 M vs hvs=>?_)
 unfold kY at h
 refine sr<|bx rfl<|bx rfl<|al (cs:=[.v (.bool false),slc 1 (List.map ak [])]) (by exact⟨SV.aa _,imp_nil,trivial⟩) rfl<|dn<|qq<|ai mixed<|fa rfl rfl<|lV rfl rfl rfl<|bE h fun fR jn h=>cl (bC jn) ⟨rfl,trivial⟩<|fa rfl rfl<|lV rfl rfl rfl<|bE h fun dz gZ h=>cl (bC gZ) ⟨rfl,trivial⟩<|ag rfl<|ag rfl ?_
 refine RT.done ⟨by kernel_rfl,?_⟩
 refine ae.n<|qq<|bE h fun Lw FF jo=>?_
 refine aL (fun(zZ:(List Nat)×(List Nat))=>AS.bw 57 [(4,.ptr 4 0),(5,.sv (slc 1 (List.map ak zZ.1))),(6,.sv (slc 1 (List.map ak zZ.2)))] [(4,⟨34,[.sv (.v (.bool false)),.sv (slc 1 (List.map ak []))]⟩)] []) (fun zZ=>zZ=Lw) ?_ (fun zZ J0=>?_)
 refine aq ?_
 refine aM FF (fun xT=>AS.bw 57 [(4,.ptr 4 0),(5,.sv (slc 1 (List.map ak xT.1))),(6,.sv (slc 1 (List.map ak xT.2)))] [(4,⟨34,[.sv (.v (.bool false)),.sv (slc 1 (List.map ak []))]⟩)] []) (wR []) (fun xT y12 G12 h FG FH=>?_)
 obtain⟨Bc,FC⟩:=xT
 try dsimp only
 refine qq<|qq ?_
 refine aH h (fun j16=>AS.bw 57 [(4,.ptr 4 0),(5,.sv (slc 1 (List.map ak Bc))),(6,.sv (slc 1 (List.map ak FC))),(29,.sv (.v (.bool j16)))] [(4,⟨34,[.sv (.v (.bool false)),.sv (slc 1 (List.map ak []))]⟩)] []) (fun h=>?_) (fun JW h=>?_)
 refine af<|mv rfl<|lE h fun c6 iS h=>ln rfl iS<|lE h fun iC kp h=>gt _ rfl rfl kp<|mv rfl<|bE h fun OZ pq h=>?_
 cases iC
 obtain rfl:=O (F pq)
 exact ww<|ww<|ww<|ww<|wu<|wu<|wu<|ww<|pF rfl<|dn<|⟨false,h,wR []⟩
 refine gm rfl<|lE (V pq) fun fu kM pq=>gn rfl kM<|lE pq fun fy kN pq=>gg _ rfl rfl kN<|gm rfl<|bE pq fun OY rH pq=>?_
 cases fy
 refine gm rfl<|lE (F rH) fun gJ mY rH=>gn rfl mY<|lE rH fun fF mR rH=>gg _ rfl rfl mR ?_
 obtain rfl:=O rH
 refine gF rfl ?_
 obtain rfl:=O pq
 exact pT rfl<|dn<|⟨fF,h,wR []⟩
 obtain rfl:=O (V rH)
 refine ww<|ww<|ww<|gT rfl ?_
 obtain rfl:=O pq
 exact pT rfl<|dn<|⟨true,h,wR []⟩
 try dsimp only
 refine ae.n ?_
 cases JW
 refine cF<|aS<|ae.x<|ae.x<|aD.x<|ae.n ?_
 obtain rfl:=O (F h)
 exact⟨(Bc,FC),FH _ rfl,wR []⟩
 refine cT<|aC<|ae.n<|aq<|sr<|mv rfl<|mv rfl ?_
 obtain⟨⟨adP,M8⟩,th,h⟩:=bS (V h)
 refine cl (qw th) ⟨rfl,rfl,trivial⟩<|mv rfl<|ex rfl rfl<|ex rfl rfl<|ag rfl<|ag rfl<|dn<|af<|mv rfl<|mv rfl<|bE h fun wH FD h=>cl (bC FD) ⟨rfl,trivial⟩<|ag rfl<|ag rfl<|RT.done<|aD.n ?_
 obtain rfl:=O h
 exact ae.n ⟨(FC,wH),FG _ rfl,wR []⟩
 subst J0
 obtain⟨O0,O1⟩:=zZ
 try dsimp only
 refine ae.n<|qq<|sr<|mv rfl<|lE jo fun nA tO jo=>ln rfl tO<|lE jo fun wI FE jo=>eq _ rfl rfl (Bb (p:=nA) (q:=0) FE)<|dn ?_
 cases wI
 refine fs<|sr<|mv rfl<|bE (F jo) fun q9 h46 jo=>cl (iE h46) ⟨rfl,trivial⟩<|mv rfl<|bE jo fun ug h48 jo=>cl (iE h48) ⟨rfl,trivial⟩<|ag rfl<|ag rfl<|dn<|qq<|bE jo fun e24 aeE WZ=>?_
 refine aL (fun(Ez:Nat)=>AS.bw 57 [(4,.ptr 4 0),(9,.sv (.v (.int .u64 ((Ez:Nat):Int))))] [(4,⟨34,[.sv (.v (.bool false)),.sv (slc 1 (List.map ak []))]⟩)] []) (fun Ez=>Ez=e24) ?_ (fun Ez aeF=>?_)
 refine aq ?_
 refine aM aeE (fun YX=>AS.bw 57 [(4,.ptr 4 0),(9,.sv (.v (.int .u64 ((YX.1:Nat):Int)))),(10,.sv (.v (.int .u64 ((YX.2:Nat):Int))))] [(4,⟨34,[.sv (.v (.bool false)),.sv (slc 1 (List.map ak []))]⟩)] []) (wR []) (fun YX y24 G24 h aeG aeH=>?_)
 obtain⟨Lx,zT⟩:=YX
 try dsimp only
 refine qq<|sr<|mv rfl<|lE h fun xb HM h=>gt _ rfl rfl (ltN (p:=0) (q:=zT) HM)<|dn ?_
 cases xb
 refine cF<|aS<|ae.x<|ae.x<|aD.x<|ae.n ?_
 obtain rfl:=O (F h)
 exact⟨Lx,aeH _ rfl,wR []⟩
 refine cT<|aC<|ae.n<|aq<|ai mixed<|mv rfl<|mv rfl<|mv rfl<|bE (V h) fun DZ GW h=>RT.rem .none _ rfl rfl T (nzR GW) (Si GW)<|ag rfl<|ag rfl ?_
 refine RT.done ⟨by kernel_rfl,?_⟩
 refine aD.n ?_
 obtain rfl:=O h
 exact ae.n ⟨(zT,DZ),aeG _ rfl,wR []⟩
 subst aeF
 try dsimp only
 refine ae.n<|sr<|mv rfl ?_
 obtain⟨⟨Um,Uo⟩,WQ,WZ⟩:=bS WZ
 refine cl (jx WQ) ⟨rfl,rfl,trivial⟩<|so rfl rfl rfl<|dn<|aj ?_
 obtain rfl:=O WZ
 exact RZ (.agg rfl rfl (.cons rfl (.cons rfl (.nil))) rfl (.nil))
 refine cT<|sr<|mv rfl<|bE (V jo) fun zQ Jt jo=>cl (oa Jt) ⟨rfl,trivial⟩ ?_
 obtain⟨⟨Ey,HL⟩,FI,jo⟩:=bS jo
 refine cl (ew FI) ⟨rfl,rfl,trivial⟩<|so rfl rfl rfl<|dn<|aj<|ae.r ?_
 obtain rfl:=O jo
 exact RZ (.agg rfl rfl (.cons rfl (.cons rfl (.nil))) rfl (.nil))
end Go.Proofs.YtfoldppidpmchaaGreat
namespace Go.Proofs.YtfoldppidpmchaaGreat
open Go.Fw
noncomputable def gL(x0:Zr)(x1:Zr)(x2:Zr)(x3:Zr):Option (Zr×Zr):=match x0 with|⟨az,aA⟩=>match x1 with|⟨aZ,aY⟩=>match x2 with|⟨jy,jz⟩=>match x3 with|⟨mM,mN⟩=>(cU ⟨az,aA⟩ ⟨mM,mN⟩).bind fun⟨jA,ji⟩=>(cU ⟨jy,jz⟩ ⟨aZ,aY⟩).bind fun⟨kZ,k7⟩=>(nC ⟨jA,ji⟩ ⟨kZ,k7⟩).bind fun⟨iq,ir⟩=>(cU ⟨aZ,aY⟩ ⟨mM,mN⟩).bind fun⟨jk,jl⟩=>some (⟨iq,ir⟩,⟨jk,jl⟩)
noncomputable def gM(x0:Zr)(x1:Zr)(x2:Zr)(x3:Zr):Option (Zr×Zr):=match x0 with|⟨az,aA⟩=>match x1 with|⟨aZ,aY⟩=>match x2 with|⟨jy,jz⟩=>match x3 with|⟨mM,mN⟩=>(cU ⟨az,aA⟩ ⟨mM,mN⟩).bind fun⟨jA,ji⟩=>(cU ⟨jy,jz⟩ ⟨aZ,aY⟩).bind fun⟨kZ,k7⟩=>(nD ⟨jA,ji⟩ ⟨kZ,k7⟩).bind fun⟨iq,ir⟩=>(cU ⟨aZ,aY⟩ ⟨mM,mN⟩).bind fun⟨jk,jl⟩=>some (⟨iq,ir⟩,⟨jk,jl⟩)
noncomputable def gN(x0:Zr)(x1:Zr)(x2:Zr)(x3:Zr):Option (Zr×Zr):=match x0 with|⟨az,aA⟩=>match x1 with|⟨aZ,aY⟩=>match x2 with|⟨jy,jz⟩=>match x3 with|⟨mM,mN⟩=>(cU ⟨az,aA⟩ ⟨jy,jz⟩).bind fun⟨jA,ji⟩=>(cU ⟨aZ,aY⟩ ⟨mM,mN⟩).bind fun⟨kZ,k7⟩=>some (⟨jA,ji⟩,⟨kZ,k7⟩)
noncomputable def cM(x0:Qr):Option (Zr×Zr):=match x0 with|⟨⟨az,aA⟩,⟨aE,aF⟩⟩=>(cg ⟨aE,aF⟩).bind fun x6=>(some (decide ((x6:Int)=0))).bind fun x8=>(bif x8 then(bF 1).bind fun⟨uA,uB⟩=>some (⟨az,aA⟩,⟨uA,uB⟩)else(some (decide ((x6:Int)=(-1)))).bind fun fR=>(bif fR then(fW ⟨az,aA⟩).bind fun⟨iq,ir⟩=>(fW ⟨aE,aF⟩).bind fun⟨jk,jl⟩=>some (⟨iq,ir⟩,⟨jk,jl⟩)else some (⟨az,aA⟩,⟨aE,aF⟩)))
noncomputable def ff(x0:Zr)(x1:Zr):Option (Qr):=match x0 with|⟨az,aA⟩=>match x1 with|⟨aZ,aY⟩=>(cg ⟨aZ,aY⟩).bind fun x9=>(some (decide ((x9:Int)<0))).bind fun cn=>bD (fun(j2:Bool×(List Nat)×Bool×(List Nat))=>match j2 with|⟨J1,J2,J3,J4⟩=>(kY ⟨J3,J4⟩ ⟨J1,J2⟩).bind fun⟨nH,nI⟩=>(eu ⟨J3,J4⟩ ⟨nH,nI⟩).bind fun⟨⟨uC,uD⟩,⟨W0,W2⟩,aeI⟩=>(eu ⟨J1,J2⟩ ⟨nH,nI⟩).bind fun⟨⟨sy,sB⟩,⟨W4,W5⟩,aeJ⟩=>(cL ⟨sy,sB⟩).bind fun⟨W6,W7⟩=>bD (fun(O4:Bool)=>bD (fun(j7:Bool×(List Nat))=>match j7 with|⟨J5,J6⟩=>some ⟨⟨uC,uD⟩,⟨J5,J6⟩⟩) fun K7=>(bif O4 then K7 (false,[])else K7 (sy,sB))) fun K5=>(bif W7 then(some (decide ((W6:Int)=1))).bind fun nA=>some nA else some false).bind fun Uq=>K5 Uq) fun K2=>(bif cn then(fW ⟨az,aA⟩).bind fun⟨jA,ji⟩=>(fW ⟨aZ,aY⟩).bind fun⟨wL,wM⟩=>K2 (wL,wM,jA,ji)else K2 (aZ,aY,az,aA))
noncomputable def dx(x0:Qr):Option (Int×Int×Bool):=match x0 with|⟨⟨az,aA⟩,⟨aE,aF⟩⟩=>(cL ⟨az,aA⟩).bind fun⟨FN,Nd⟩=>(cL ⟨aE,aF⟩).bind fun⟨D1,aap⟩=>bD (fun(J7:Bool)=>(bif J7 then some (0,0,false)else(some (decide ((D1:Int)=0))).bind fun zQ=>bD (fun(Ur:Int×Int)=>match Ur with|⟨HN,Us⟩=>some (HN,Us,true)) fun K24=>(bif zQ then K24 (FN,1)else(some (decide ((D1:Int)<0))).bind fun q9=>bD (fun(YY:Int×Int)=>match YY with|⟨O5,O6⟩=>K24 (O5,O6)) fun K26=>(bif q9 then(some (IntKind.i64.wrap (0-FN))).bind fun ug=>(some (IntKind.i64.wrap (0-D1))).bind fun xb=>K26 (ug,xb)else K26 (FN,D1))))) fun K21=>(some (!Nd)).bind fun ik=>(bif ik then some true else(some (!aap)).bind fun fy=>some fy).bind fun O7=>(bif O7 then some true else(some (decide ((FN:Int)≤(-2147483648)))).bind fun fF=>some fF).bind fun W8=>(bif W8 then some true else(some (decide ((2147483648:Int)≤FN))).bind fun ny=>some ny).bind fun W9=>(bif W9 then some true else(some (decide ((D1:Int)≤(-2147483648)))).bind fun oB=>some oB).bind fun Xa=>(bif Xa then some true else(some (decide ((2147483648:Int)≤D1))).bind fun nB=>some nB).bind fun Xb=>K21 Xb
noncomputable def fX(x0:Int)(x1:Int):Option (Qr):=(bk (fun(s6:Int×Int)=>match s6 with|⟨kL,pz⟩=>(show Option ((Int×Int)⊕(Int))from(some (decide ((pz:Int)≠0))).bind fun cn=>(bif cn then(DQ kL pz).bind fun cG=>some (.inl (pz,cG))else some (.inr kL)))) (x0,x1)).bind fun v5=>(some (decide ((v5:Int)<0))).bind fun dz=>bD (fun(Nf:Int)=>(some (decide ((Nf:Int)=x1))).bind fun eH=>(bif eH then(tG x0 Nf).bind fun eI=>(bF eI).bind fun⟨qo,o7⟩=>some ⟨⟨qo,o7⟩,⟨false,[]⟩⟩else(tG x0 Nf).bind fun fQ=>(bF fQ).bind fun⟨qp,qt⟩=>(tG x1 Nf).bind fun lI=>(bF lI).bind fun⟨AF,AG⟩=>some ⟨⟨qp,qt⟩,⟨AF,AG⟩⟩)) fun K8=>(bif dz then(some (IntKind.i64.wrap (0-v5))).bind fun c6=>K8 c6 else K8 v5)
noncomputable def qx(x0:Int):Option (Int):=(some (decide ((x0:Int)<0))).bind fun x5=>(bif x5 then some (-1)else(some (decide ((0:Int)<x0))).bind fun x8=>(bif x8 then some 1 else some 0))
noncomputable def jB(x1:Qr)(x2:Qr):Option (Qr):=match x1 with|⟨⟨aZ,aY⟩,⟨cI,cJ⟩⟩=>match x2 with|⟨⟨jy,jz⟩,⟨nJ,nK⟩⟩=>(cM ⟨⟨aZ,aY⟩,⟨cI,cJ⟩⟩).bind fun⟨⟨kg,kj⟩,⟨oc,oe⟩⟩=>(cM ⟨⟨jy,jz⟩,⟨nJ,nK⟩⟩).bind fun⟨⟨iF,iG⟩,⟨lW,lX⟩⟩=>(gL ⟨kg,kj⟩ ⟨oc,oe⟩ ⟨iF,iG⟩ ⟨lW,lX⟩).bind fun⟨⟨uE,uF⟩,⟨uG,uH⟩⟩=>(ff ⟨uE,uF⟩ ⟨uG,uH⟩).bind fun⟨⟨wK,uj⟩,⟨AH,AI⟩⟩=>some ⟨⟨wK,uj⟩,⟨AH,AI⟩⟩
noncomputable def jC(x1:Qr)(x2:Qr):Option (Qr):=match x1 with|⟨⟨aZ,aY⟩,⟨cI,cJ⟩⟩=>match x2 with|⟨⟨jy,jz⟩,⟨nJ,nK⟩⟩=>(cM ⟨⟨aZ,aY⟩,⟨cI,cJ⟩⟩).bind fun⟨⟨kg,kj⟩,⟨oc,oe⟩⟩=>(cM ⟨⟨jy,jz⟩,⟨nJ,nK⟩⟩).bind fun⟨⟨iF,iG⟩,⟨lW,lX⟩⟩=>(gM ⟨kg,kj⟩ ⟨oc,oe⟩ ⟨iF,iG⟩ ⟨lW,lX⟩).bind fun⟨⟨uE,uF⟩,⟨uG,uH⟩⟩=>(ff ⟨uE,uF⟩ ⟨uG,uH⟩).bind fun⟨⟨wK,uj⟩,⟨AH,AI⟩⟩=>some ⟨⟨wK,uj⟩,⟨AH,AI⟩⟩
noncomputable def jD(x1:Qr)(x2:Qr):Option (Qr):=match x1 with|⟨⟨aZ,aY⟩,⟨cI,cJ⟩⟩=>match x2 with|⟨⟨jy,jz⟩,⟨nJ,nK⟩⟩=>(cM ⟨⟨aZ,aY⟩,⟨cI,cJ⟩⟩).bind fun⟨⟨kg,kj⟩,⟨oc,oe⟩⟩=>(cM ⟨⟨jy,jz⟩,⟨nJ,nK⟩⟩).bind fun⟨⟨iF,iG⟩,⟨lW,lX⟩⟩=>(gN ⟨kg,kj⟩ ⟨oc,oe⟩ ⟨iF,iG⟩ ⟨lW,lX⟩).bind fun⟨⟨uE,uF⟩,⟨uG,uH⟩⟩=>(ff ⟨uE,uF⟩ ⟨uG,uH⟩).bind fun⟨⟨wK,uj⟩,⟨AH,AI⟩⟩=>some ⟨⟨wK,uj⟩,⟨AH,AI⟩⟩
noncomputable def cu(x0:Int):Option (Qr):=(bF x0).bind fun⟨nL,nM⟩=>some ⟨⟨nL,nM⟩,⟨false,[]⟩⟩
noncomputable def b7(x0:Qr):Option (Qr):=match x0 with|⟨⟨az,aA⟩,⟨aE,aF⟩⟩=>(dx ⟨⟨az,aA⟩,⟨aE,aF⟩⟩).bind fun⟨x8a,x8b,x8c⟩=>(bif x8c then(fX x8a x8b).bind fun⟨⟨kZ,k7⟩,⟨AJ,AK⟩⟩=>some ⟨⟨kZ,k7⟩,⟨AJ,AK⟩⟩else(cM ⟨⟨az,aA⟩,⟨aE,aF⟩⟩).bind fun⟨⟨O8,O9⟩,⟨Pa,Pb⟩⟩=>(ff ⟨O8,O9⟩ ⟨Pa,Pb⟩).bind fun⟨⟨pA,pB⟩,⟨tq,tu⟩⟩=>some ⟨⟨pA,pB⟩,⟨tq,tu⟩⟩)
noncomputable def jE(x0:Qr):Option (Int):=match x0 with|⟨⟨az,aA⟩,⟨aE,aF⟩⟩=>(cg ⟨aE,aF⟩).bind fun x5=>(some (decide ((x5:Int)<0))).bind fun x6=>(bif x6 then(cg ⟨az,aA⟩).bind fun x9=>(some (IntKind.i64.wrap (0-x9))).bind fun cn=>some cn else(cg ⟨az,aA⟩).bind fun fR=>some fR)
noncomputable def pC(x0:Qr)(x1:Qr):Option (Qr):=match x0 with|⟨⟨az,aA⟩,⟨aE,aF⟩⟩=>match x1 with|⟨⟨aZ,aY⟩,⟨cI,cJ⟩⟩=>(dx ⟨⟨az,aA⟩,⟨aE,aF⟩⟩).bind fun⟨Cs,v7,Ct⟩=>(dx ⟨⟨aZ,aY⟩,⟨cI,cJ⟩⟩).bind fun⟨Cu,z5,Cv⟩=>bD (fun(uI:Bool)=>(bif uI then(some (IntKind.i64.wrap (Cs*z5))).bind fun fQ=>(some (IntKind.i64.wrap (Cu*v7))).bind fun fI=>(some (IntKind.i64.wrap (fQ+fI))).bind fun lI=>(some (IntKind.i64.wrap (v7*z5))).bind fun qm=>(fX lI qm).bind fun⟨⟨HO,HP⟩,⟨HQ,HR⟩⟩=>some ⟨⟨HO,HP⟩,⟨HQ,HR⟩⟩else(jB ⟨⟨az,aA⟩,⟨aE,aF⟩⟩ ⟨⟨aZ,aY⟩,⟨cI,cJ⟩⟩).bind fun⟨⟨ur,uu⟩,⟨AL,AM⟩⟩=>some ⟨⟨ur,uu⟩,⟨AL,AM⟩⟩)) fun K3=>(bif Ct then some Cv else some false).bind fun AN=>K3 AN
noncomputable def pD(x0:Qr)(x1:Qr):Option (Qr):=match x0 with|⟨⟨az,aA⟩,⟨aE,aF⟩⟩=>match x1 with|⟨⟨aZ,aY⟩,⟨cI,cJ⟩⟩=>(dx ⟨⟨az,aA⟩,⟨aE,aF⟩⟩).bind fun⟨Cs,v7,Ct⟩=>(dx ⟨⟨aZ,aY⟩,⟨cI,cJ⟩⟩).bind fun⟨Cu,z5,Cv⟩=>bD (fun(uI:Bool)=>(bif uI then(some (IntKind.i64.wrap (Cs*z5))).bind fun fQ=>(some (IntKind.i64.wrap (Cu*v7))).bind fun fI=>(some (IntKind.i64.wrap (fQ-fI))).bind fun lI=>(some (IntKind.i64.wrap (v7*z5))).bind fun qm=>(fX lI qm).bind fun⟨⟨HO,HP⟩,⟨HQ,HR⟩⟩=>some ⟨⟨HO,HP⟩,⟨HQ,HR⟩⟩else(jC ⟨⟨az,aA⟩,⟨aE,aF⟩⟩ ⟨⟨aZ,aY⟩,⟨cI,cJ⟩⟩).bind fun⟨⟨ur,uu⟩,⟨AL,AM⟩⟩=>some ⟨⟨ur,uu⟩,⟨AL,AM⟩⟩)) fun K3=>(bif Ct then some Cv else some false).bind fun AN=>K3 AN
noncomputable def kO(x0:Qr)(x1:Qr):Option (Qr):=match x0 with|⟨⟨az,aA⟩,⟨aE,aF⟩⟩=>match x1 with|⟨⟨aZ,aY⟩,⟨cI,cJ⟩⟩=>(dx ⟨⟨az,aA⟩,⟨aE,aF⟩⟩).bind fun⟨Cs,v7,Ct⟩=>(dx ⟨⟨aZ,aY⟩,⟨cI,cJ⟩⟩).bind fun⟨Cu,z5,Cv⟩=>bD (fun(uI:Bool)=>(bif uI then(some (IntKind.i64.wrap (Cs*Cu))).bind fun fQ=>(some (IntKind.i64.wrap (v7*z5))).bind fun fI=>(fX fQ fI).bind fun⟨⟨HS,HT⟩,⟨Ut,Uu⟩⟩=>some ⟨⟨HS,HT⟩,⟨Ut,Uu⟩⟩else(jD ⟨⟨az,aA⟩,⟨aE,aF⟩⟩ ⟨⟨aZ,aY⟩,⟨cI,cJ⟩⟩).bind fun⟨⟨um,uo⟩,⟨HU,HV⟩⟩=>some ⟨⟨um,uo⟩,⟨HU,HV⟩⟩)) fun K3=>(bif Ct then some Cv else some false).bind fun AN=>K3 AN
noncomputable def iH(x0:Qr):Option (Qr):=match x0 with|⟨⟨az,aA⟩,⟨aE,aF⟩⟩=>(b7 ⟨⟨az,aA⟩,⟨aE,aF⟩⟩).bind fun⟨⟨v8,yD⟩,⟨z6,Bg⟩⟩=>(fW ⟨v8,yD⟩).bind fun⟨og,oh⟩=>some ⟨⟨og,oh⟩,⟨z6,Bg⟩⟩
noncomputable def jF(x0:Qr)(x1:Qr):Option (Int):=match x0 with|⟨⟨az,aA⟩,⟨aE,aF⟩⟩=>match x1 with|⟨⟨aZ,aY⟩,⟨cI,cJ⟩⟩=>(cM ⟨⟨az,aA⟩,⟨aE,aF⟩⟩).bind fun⟨⟨kg,kj⟩,⟨oc,oe⟩⟩=>(cM ⟨⟨aZ,aY⟩,⟨cI,cJ⟩⟩).bind fun⟨⟨iF,iG⟩,⟨lW,lX⟩⟩=>(cg ⟨kg,kj⟩).bind fun fu=>(cg ⟨iF,iG⟩).bind fun eI=>bD (fun(Pc:Bool)=>(bif Pc then(some (IntKind.i64.wrap (fu-eI))).bind fun oA=>(qx oA).bind fun oB=>some oB else(cU ⟨kg,kj⟩ ⟨lW,lX⟩).bind fun⟨Uv,Uw⟩=>(cU ⟨iF,iG⟩ ⟨oc,oe⟩).bind fun⟨EB,EC⟩=>(nE ⟨Uv,Uw⟩ ⟨EB,EC⟩).bind fun rV=>some rV)) fun K3=>(some (decide ((fu:Int)≠eI))).bind fun fF=>(bif fF then some true else(some (decide ((fu:Int)=0))).bind fun uf=>some uf).bind fun Ux=>K3 Ux
noncomputable def yE(x0:Qr)(x1:Qr):Option (Bool):=match x0 with|⟨⟨az,aA⟩,⟨aE,aF⟩⟩=>match x1 with|⟨⟨aZ,aY⟩,⟨cI,cJ⟩⟩=>(jF ⟨⟨az,aA⟩,⟨aE,aF⟩⟩ ⟨⟨aZ,aY⟩,⟨cI,cJ⟩⟩).bind fun x7=>(some (decide ((x7:Int)=0))).bind fun x8=>some x8
noncomputable def Cw(x0:Qr)(x1:Qr):Option (Qr):=match x0 with|⟨⟨az,aA⟩,⟨aE,aF⟩⟩=>match x1 with|⟨⟨aZ,aY⟩,⟨cI,cJ⟩⟩=>(jF ⟨⟨aZ,aY⟩,⟨cI,cJ⟩⟩ ⟨⟨az,aA⟩,⟨aE,aF⟩⟩).bind fun x7=>(some (decide ((0:Int)<x7))).bind fun x8=>(bif x8 then(b7 ⟨⟨aZ,aY⟩,⟨cI,cJ⟩⟩).bind fun⟨⟨lP,lQ⟩,⟨Cx,Cy⟩⟩=>some ⟨⟨lP,lQ⟩,⟨Cx,Cy⟩⟩else(b7 ⟨⟨az,aA⟩,⟨aE,aF⟩⟩).bind fun⟨⟨jA,ji⟩,⟨Pd,Pe⟩⟩=>some ⟨⟨jA,ji⟩,⟨Pd,Pe⟩⟩)
end Go.Proofs.YtfoldppidpmchaaGreat
namespace Go.Proofs.YtfoldppidpmchaaGreat
open Go.Fw Go.Fw.Z Go.RowKit
abbrev Pf:List (Value×Value):=[(.int .u8 43,.agg #[.func (.func 126) #[] #[]]),(.int .u8 45,.agg #[.func (.func 128) #[] #[]]),(.int .u8 42,.agg #[.func (.func 130) #[] #[]]),(.int .u8 47,.agg #[.func (.func 131) #[] #[]])]
theorem kP:Pure Tryz.prog 102 [] (OB Pf):=by
 refine ah Tryz.func102 rfl (Nat.le_of_ble_eq_true rfl) (fun b9 M vs hvs=>?_)
 refine aO<|af<|RT.BV .none rfl T<|RT.done<|ae.n<|aO<|Sl (Nat.le_of_ble_eq_true rfl) rfl rfl rfl (fun S' h0=>?_)
 exact aj (R1 h0)
theorem uJ{x0:Zr}{x1:Zr}{x2:Zr}{x3:Zr}{r:Zr×Zr}(h:gL x0 x1 x2 x3=some r):Pure Tryz.prog 126 [.agg (eZ x0),.agg (eZ x1),.agg (eZ x2),.agg (eZ x3)] (.xV [.agg (eZ r.1),.agg (eZ r.2)]):=by
 obtain⟨az,aA⟩:=x0
 obtain⟨aZ,aY⟩:=x1
 obtain⟨jy,jz⟩:=x2
 obtain⟨mM,mN⟩:=x3
 refine ah Tryz.func126 rfl (Nat.le_of_ble_eq_true rfl) (fun b9 M vs hvs=>?_)
 unfold gL at h
 refine sr<|bx rfl<|bx rfl<|bx rfl<|bx rfl<|al (cs:=[.v (.bool false),slc 1 (List.map ak [])]) (by exact⟨SV.aa _,imp_nil,trivial⟩) rfl<|al (cs:=[.v (.bool false),slc 1 (List.map ak [])]) (by exact⟨SV.aa _,imp_nil,trivial⟩) rfl<|dn<|qq<|ai mixed<|ld rfl rfl (.cons rfl (.cons rfl (.nil)))<|ld rfl rfl (.cons rfl (.cons rfl (.nil))) ?_
 obtain⟨⟨jA,ji⟩,dH,h⟩:=bS h
 refine cl (dV dH) ⟨rfl,rfl,trivial⟩<|ld rfl rfl (.cons rfl (.cons rfl (.nil)))<|ld rfl rfl (.cons rfl (.cons rfl (.nil))) ?_
 obtain⟨⟨kZ,k7⟩,fS,h⟩:=bS h
 refine cl (dV fS) ⟨rfl,rfl,trivial⟩ ?_
 obtain⟨⟨iq,ir⟩,gZ,h⟩:=bS h
 refine cl (FJ gZ) ⟨rfl,rfl,trivial⟩<|ld rfl rfl (.cons rfl (.cons rfl (.nil)))<|ld rfl rfl (.cons rfl (.cons rfl (.nil))) ?_
 obtain⟨⟨jk,jl⟩,kp,h⟩:=bS h
 refine cl (dV kp) ⟨rfl,rfl,trivial⟩<|so rfl rfl rfl<|so rfl rfl rfl ?_
 refine RT.done ⟨by kernel_rfl,?_⟩
 refine ae.n<|aj ?_
 obtain rfl:=O h
 exact RZ (.agg rfl rfl (.cons rfl (.cons rfl (.nil))) rfl (.agg rfl rfl (.cons rfl (.cons rfl (.nil))) rfl (.nil)))
theorem uK{x0:Zr}{x1:Zr}{x2:Zr}{x3:Zr}{r:Zr×Zr}(h:gM x0 x1 x2 x3=some r):Pure Tryz.prog 128 [.agg (eZ x0),.agg (eZ x1),.agg (eZ x2),.agg (eZ x3)] (.xV [.agg (eZ r.1),.agg (eZ r.2)]):=by
 obtain⟨az,aA⟩:=x0
 obtain⟨aZ,aY⟩:=x1
 obtain⟨jy,jz⟩:=x2
 obtain⟨mM,mN⟩:=x3
 refine ah Tryz.func128 rfl (Nat.le_of_ble_eq_true rfl) (fun b9 M vs hvs=>?_)
 unfold gM at h
 refine sr<|bx rfl<|bx rfl<|bx rfl<|bx rfl<|al (cs:=[.v (.bool false),slc 1 (List.map ak [])]) (by exact⟨SV.aa _,imp_nil,trivial⟩) rfl<|al (cs:=[.v (.bool false),slc 1 (List.map ak [])]) (by exact⟨SV.aa _,imp_nil,trivial⟩) rfl<|dn<|qq<|ai mixed<|ld rfl rfl (.cons rfl (.cons rfl (.nil)))<|ld rfl rfl (.cons rfl (.cons rfl (.nil))) ?_
 obtain⟨⟨jA,ji⟩,dH,h⟩:=bS h
 refine cl (dV dH) ⟨rfl,rfl,trivial⟩<|ld rfl rfl (.cons rfl (.cons rfl (.nil)))<|ld rfl rfl (.cons rfl (.cons rfl (.nil))) ?_
 obtain⟨⟨kZ,k7⟩,fS,h⟩:=bS h
 refine cl (dV fS) ⟨rfl,rfl,trivial⟩ ?_
 obtain⟨⟨iq,ir⟩,gZ,h⟩:=bS h
 refine cl (FK gZ) ⟨rfl,rfl,trivial⟩<|ld rfl rfl (.cons rfl (.cons rfl (.nil)))<|ld rfl rfl (.cons rfl (.cons rfl (.nil))) ?_
 obtain⟨⟨jk,jl⟩,kp,h⟩:=bS h
 refine cl (dV kp) ⟨rfl,rfl,trivial⟩<|so rfl rfl rfl<|so rfl rfl rfl ?_
 refine RT.done ⟨by kernel_rfl,?_⟩
 refine ae.n<|aj ?_
 obtain rfl:=O h
 exact RZ (.agg rfl rfl (.cons rfl (.cons rfl (.nil))) rfl (.agg rfl rfl (.cons rfl (.cons rfl (.nil))) rfl (.nil)))
theorem uL{x0:Zr}{x1:Zr}{x2:Zr}{x3:Zr}{r:Zr×Zr}(h:gN x0 x1 x2 x3=some r):Pure Tryz.prog 130 [.agg (eZ x0),.agg (eZ x1),.agg (eZ x2),.agg (eZ x3)] (.xV [.agg (eZ r.1),.agg (eZ r.2)]):=by
 obtain⟨az,aA⟩:=x0
 obtain⟨aZ,aY⟩:=x1
 obtain⟨jy,jz⟩:=x2
 obtain⟨mM,mN⟩:=x3
 refine ah Tryz.func130 rfl (Nat.le_of_ble_eq_true rfl) (fun b9 M vs hvs=>?_)
 unfold gN at h
 refine sr<|bx rfl<|bx rfl<|bx rfl<|bx rfl<|al (cs:=[.v (.bool false),slc 1 (List.map ak [])]) (by exact⟨SV.aa _,imp_nil,trivial⟩) rfl<|al (cs:=[.v (.bool false),slc 1 (List.map ak [])]) (by exact⟨SV.aa _,imp_nil,trivial⟩) rfl<|dn<|qq<|ai mixed<|ld rfl rfl (.cons rfl (.cons rfl (.nil)))<|ld rfl rfl (.cons rfl (.cons rfl (.nil))) ?_
 obtain⟨⟨jA,ji⟩,dH,h⟩:=bS h
 refine cl (dV dH) ⟨rfl,rfl,trivial⟩<|ld rfl rfl (.cons rfl (.cons rfl (.nil)))<|ld rfl rfl (.cons rfl (.cons rfl (.nil))) ?_
 obtain⟨⟨kZ,k7⟩,fS,h⟩:=bS h
 refine cl (dV fS) ⟨rfl,rfl,trivial⟩<|so rfl rfl rfl<|so rfl rfl rfl ?_
 refine RT.done ⟨by kernel_rfl,?_⟩
 refine ae.n<|aj ?_
 obtain rfl:=O h
 exact RZ (.agg rfl rfl (.cons rfl (.cons rfl (.nil))) rfl (.agg rfl rfl (.cons rfl (.cons rfl (.nil))) rfl (.nil)))
theorem dX{x0:Qr}{r:Zr×Zr}(h:cM x0=some r):Pure Tryz.prog 81 [.agg (eQ x0)] (.xV [.agg (eZ r.1),.agg (eZ r.2)]):=by
 obtain⟨⟨az,aA⟩,⟨aE,aF⟩⟩:=x0
 refine ah Tryz.func81 rfl (Nat.le_of_ble_eq_true rfl) (fun b9 M vs hvs=>?_)
 unfold cM at h
 refine sr<|bx rfl<|al (cs:=[.v (.bool false),slc 1 (List.map ak [])]) (by exact⟨SV.aa _,imp_nil,trivial⟩) rfl<|al (cs:=[.v (.bool false),slc 1 (List.map ak [])]) (by exact⟨SV.aa _,imp_nil,trivial⟩) rfl<|dn<|qq<|sr<|fa rfl rfl<|ld rfl rfl (.cons rfl (.cons rfl (.nil)))<|bE h fun x6 h6 h=>cl (dW h6) ⟨rfl,trivial⟩<|dn<|aq<|sr<|lE h fun x8 h8 h=>eq _ rfl rfl (Bb (p:=x6) (q:=0) h8) ?_
 refine ag rfl<|dn ?_
 cases x8
 refine cF<|sr<|lE (F h) fun fR jn h=>eq _ rfl rfl (Bb (p:=x6) (q:=(-1)) jn)<|ag rfl<|dn ?_
 cases fR
 refine cF<|aC<|aD.n<|ae.n<|qq<|ai mixed<|fa rfl rfl<|ld rfl rfl (.cons rfl (.cons rfl (.nil)))<|fa rfl rfl<|ld rfl rfl (.cons rfl (.cons rfl (.nil)))<|so rfl rfl rfl<|so rfl rfl rfl ?_
 refine RT.done ⟨by kernel_rfl,?_⟩
 refine ae.n<|aj ?_
 obtain rfl:=O (F h)
 exact RZ (.agg rfl rfl (.cons rfl (.cons rfl (.nil))) rfl (.agg rfl rfl (.cons rfl (.cons rfl (.nil))) rfl (.nil)))
 refine cT<|qq<|ai mixed<|fa rfl rfl<|ld rfl rfl (.cons rfl (.cons rfl (.nil))) ?_
 obtain⟨⟨iq,ir⟩,gZ,h⟩:=bS (V h)
 refine cl (lU gZ) ⟨rfl,trivial⟩<|fa rfl rfl<|ld rfl rfl (.cons rfl (.cons rfl (.nil))) ?_
 obtain⟨⟨jk,jl⟩,kp,h⟩:=bS h
 refine cl (lU kp) ⟨rfl,trivial⟩<|so rfl rfl rfl<|so rfl rfl rfl ?_
 refine RT.done ⟨by kernel_rfl,?_⟩
 refine ae.n<|aj<|aD.r<|ae.r ?_
 obtain rfl:=O h
 exact RZ (.agg rfl rfl (.cons rfl (.cons rfl (.nil))) rfl (.agg rfl rfl (.cons rfl (.cons rfl (.nil))) rfl (.nil)))
 refine cT<|qq<|ai mixed<|fa rfl rfl<|ld rfl rfl (.cons rfl (.cons rfl (.nil))) ?_
 obtain⟨⟨uA,uB⟩,jS,h⟩:=bS (V h)
 refine cl (c9 jS) ⟨rfl,trivial⟩<|so rfl rfl rfl<|so rfl rfl rfl ?_
 refine RT.done ⟨by kernel_rfl,?_⟩
 refine ae.n<|aj<|aD.r<|ae.r ?_
 obtain rfl:=O h
 exact RZ (.agg rfl rfl (.cons rfl (.cons rfl (.nil))) rfl (.agg rfl rfl (.cons rfl (.cons rfl (.nil))) rfl (.nil)))
theorem lY{x0:Zr}{x1:Zr}{r:Qr}(h:ff x0 x1=some r):Pure Tryz.prog 101 [.agg (eZ x0),.agg (eZ x1)] (.agg (eQ r)):=by
 obtain⟨az,aA⟩:=x0
 obtain⟨aZ,aY⟩:=x1
 refine ah Tryz.func101 rfl (Nat.le_of_ble_eq_true rfl) (fun b9 M vs hvs=>?_)
 unfold ff at h
 refine sr<|bx rfl<|bx rfl<|al (cs:=[.v (.bool false),slc 1 (List.map ak []),.v (.bool false),slc 1 (List.map ak [])]) (by exact⟨SV.aa _,imp_nil,SV.aa _,imp_nil,trivial⟩) rfl<|dn<|qq<|sr<|ld rfl rfl (.cons rfl (.cons rfl (.nil)))<|bE h fun x9 h9 h=>cl (dW h9) ⟨rfl,trivial⟩<|lE h fun cn ep h=>ls _ rfl rfl ep<|dn ?_
 refine aH h (fun j2=>AS.bw 46 [(2,.ptr 2 0),(3,.ptr 3 0),(4,.ptr 4 0)] [(4,⟨36,[.sv (.v (.bool false)),.sv (slc 1 (List.map ak [])),.sv (.v (.bool false)),.sv (slc 1 (List.map ak []))]⟩),(3,⟨34,[.sv (.v (.bool j2.1)),.sv (slc 1 (List.map ak j2.2.1))]⟩),(2,⟨34,[.sv (.v (.bool j2.2.2.1)),.sv (slc 1 (List.map ak j2.2.2.2))]⟩)] []) (fun h=>?_) (fun j2 h=>?_)
 cases cn
 exact fs<|⟨(aZ,aY,az,aA),(F h),wR []⟩
 refine cT<|ai mixed<|ld rfl rfl (.cons rfl (.cons rfl (.nil))) ?_
 obtain⟨⟨jA,ji⟩,dH,h⟩:=bS (V h)
 refine cl (lU dH) ⟨rfl,trivial⟩<|ld rfl rfl (.cons rfl (.cons rfl (.nil))) ?_
 obtain⟨⟨wL,wM⟩,fT,h⟩:=bS h
 refine cl (lU fT) ⟨rfl,trivial⟩<|so rfl rfl rfl<|so rfl rfl rfl ?_
 refine RT.done ⟨by kernel_rfl,?_⟩
 exact ae.n<|⟨(wL,wM,jA,ji),h,wR []⟩
 obtain⟨J1,J2,J3,J4⟩:=j2
 try dsimp only
 refine ae.n<|sr<|ld rfl rfl (.cons rfl (.cons rfl (.nil)))<|ld rfl rfl (.cons rfl (.cons rfl (.nil))) ?_
 obtain⟨⟨nH,nI⟩,jd,h⟩:=bS h
 refine cl (FM jd) ⟨rfl,rfl,trivial⟩<|al (cs:=[.v (.bool false),slc 1 (List.map ak [])]) (by exact⟨SV.aa _,imp_nil,trivial⟩) rfl<|so rfl rfl rfl<|dn<|sr<|ld rfl rfl (.cons rfl (.cons rfl (.nil)))<|ld rfl rfl (.cons rfl (.cons rfl (.nil))) ?_
 obtain⟨⟨⟨uC,uD⟩,⟨W0,W2⟩,aeI⟩,jT,h⟩:=bS h
 refine cl (tj jT) ⟨rfl,rfl,trivial⟩<|mv rfl<|ex rfl rfl<|ex rfl rfl<|ex rfl rfl<|so rfl rfl rfl<|dn<|sr<|ld rfl rfl (.cons rfl (.cons rfl (.nil)))<|ld rfl rfl (.cons rfl (.cons rfl (.nil))) ?_
 obtain⟨⟨⟨sy,sB⟩,⟨W4,W5⟩,aeJ⟩,o9,h⟩:=bS h
 refine cl (tj o9) ⟨rfl,rfl,trivial⟩<|mv rfl<|ex rfl rfl<|ex rfl rfl<|ex rfl rfl<|so rfl rfl rfl<|dn<|qq<|sr<|ld rfl rfl (.cons rfl (.cons rfl (.nil))) ?_
 obtain⟨⟨W6,W7⟩,tK,h⟩:=bS h
 refine cl (fJ tK) ⟨rfl,trivial⟩<|mv rfl<|ex rfl rfl<|ex rfl rfl<|ag rfl<|ag rfl<|dn<|qq ?_
 refine aH h (fun j5=>AS.bw 46 [(2,.ptr 2 0),(3,.ptr 3 0),(4,.ptr 4 0),(41,.sv (.v (.bool j5)))] [(4,⟨36,[.sv (.v (.bool false)),.sv (slc 1 (List.map ak [])),.sv (.v (.bool false)),.sv (slc 1 (List.map ak []))]⟩),(3,⟨34,[.sv (.v (.bool sy)),.sv (slc 1 (List.map ak sB))]⟩),(2,⟨34,[.sv (.v (.bool uC)),.sv (slc 1 (List.map ak uD))]⟩)] []) (fun h=>?_) (fun O4 h=>?_)
 refine af<|mv rfl<|mv rfl<|bE h fun Uq Cz h=>?_
 cases W7
 obtain rfl:=O (F Cz)
 exact ww<|ww<|pF rfl<|dn<|⟨false,h,wR []⟩
 refine gm rfl<|lE (V Cz) fun nA tO Cz=>Wp _ rfl rfl (Bb (p:=W6) (q:=1) tO) ?_
 obtain rfl:=O Cz
 exact pT rfl<|dn<|⟨nA,h,wR []⟩
 try dsimp only
 refine ae.n ?_
 refine aH h (fun j7=>AS.bw 46 [(2,.ptr 2 0),(3,.ptr 3 0),(4,.ptr 4 0)] [(4,⟨36,[.sv (.v (.bool false)),.sv (slc 1 (List.map ak [])),.sv (.v (.bool false)),.sv (slc 1 (List.map ak []))]⟩),(3,⟨34,[.sv (.v (.bool j7.1)),.sv (slc 1 (List.map ak j7.2))]⟩),(2,⟨34,[.sv (.v (.bool uC)),.sv (slc 1 (List.map ak uD))]⟩)] []) (fun h=>?_) (fun j7 h=>?_)
 cases O4
 exact fs<|⟨(sy,sB),(F h),wR []⟩
 exact cT<|af<|bI (cs:=[_,_]) (cs':=[.v (.bool false),slc 1 (List.map ak [])]) (.nil) ⟨SV.aa _,imp_nil,trivial⟩<|so rfl rfl rfl<|dn<|⟨(false,[]),(V h),wR []⟩
 obtain⟨J5,J6⟩:=j7
 try dsimp only
 refine ae.n<|sr<|ld rfl rfl (.cons rfl (.cons rfl (.nil)))<|ld rfl rfl (.cons rfl (.cons rfl (.nil)))<|bI (cs:=[_,_,_,_]) (cs':=[.v (.bool uC),slc 1 (List.map ak uD),.v (.bool J5),slc 1 (List.map ak J6)]) (.agg rfl (.agg rfl (.nil))) ⟨SV.aa _,SV.aa _,SV.aa _,SV.aa _,trivial⟩<|so rfl rfl rfl<|dn<|aj ?_
 obtain rfl:=O h
 exact RZ (.agg rfl rfl (.cons rfl (.cons rfl (.cons rfl (.cons rfl (.nil))))) rfl (.nil))
theorem gD{x0:Qr}{r:Int×Int×Bool}(h:dx x0=some r):Pure Tryz.prog 65 [.agg (eQ x0)] (.xV [.v (.int .i64 r.1),.v (.int .i64 r.2.1),.v (.bool r.2.2)]):=by
 obtain⟨⟨az,aA⟩,⟨aE,aF⟩⟩:=x0
 refine ah Tryz.func65 rfl (Nat.le_of_ble_eq_true rfl) (fun b9 M vs hvs=>?_)
 unfold dx at h
 refine sr<|bx rfl<|ag rfl<|ag rfl<|ag rfl<|dn<|sr<|fa rfl rfl<|ld rfl rfl (.cons rfl (.cons rfl (.nil))) ?_
 obtain⟨⟨FN,Nd⟩,ep,h⟩:=bS h
 refine cl (fJ ep) ⟨rfl,trivial⟩<|mv rfl<|ex rfl rfl<|ex rfl rfl<|ag rfl<|ag rfl<|dn<|sr<|fa rfl rfl<|ld rfl rfl (.cons rfl (.cons rfl (.nil))) ?_
 obtain⟨⟨D1,aap⟩,gZ,h⟩:=bS h
 refine cl (fJ gZ) ⟨rfl,trivial⟩<|mv rfl<|ex rfl rfl<|ex rfl rfl<|ag rfl<|ag rfl<|dn<|qq<|qq ?_
 refine aH h (fun j21=>AS.bw 53 [(2,.sv (.v (.int .i64 FN))),(3,.sv (.v (.int .i64 D1))),(40,.sv (.v (.bool j21)))] [] []) (fun h=>?_) (fun J7 h=>?_)
 refine af<|mv rfl<|lE h fun ik nF h=>nt rfl _ nF<|mv rfl<|bE h fun O7 wc h=>?_
 cases ik
 refine gm rfl<|lE (F wc) fun fy kN wc=>gt_ rfl _ kN ?_
 obtain rfl:=O wc
 refine pF rfl<|mv rfl<|bE h fun aeL we h=>?_
 cases fy
 refine gm rfl<|lE (F we) fun fF mR we=>RT.leq (.some rfl rfl) _ rfl rfl T mR ?_
 obtain rfl:=O we
 refine pF rfl<|mv rfl<|bE h fun aeM pE h=>?_
 cases fF
 refine gm rfl<|lE (F pE) fun ny xU pE=>RT.geq (.some rfl rfl) _ rfl rfl T xU ?_
 obtain rfl:=O pE
 refine pF rfl<|mv rfl<|bE h fun aeN pG h=>?_
 cases ny
 refine gm rfl<|lE (F pG) fun oB xm pG=>RT.leq (.some rfl rfl) _ rfl rfl T xm ?_
 obtain rfl:=O pG
 refine pF rfl<|mv rfl<|bE h fun aeO D2 h=>?_
 cases oB
 refine gm rfl<|lE (F D2) fun nB xp D2=>RT.geq (.some rfl rfl) _ rfl rfl T xp ?_
 obtain rfl:=O D2
 exact pF rfl<|dn<|⟨nB,h,wR []⟩
 obtain rfl:=O (V D2)
 exact ww<|ww<|pT rfl<|dn<|⟨true,h,wR []⟩
 obtain rfl:=O (V pG)
 refine ww<|ww<|pT rfl<|mv rfl<|bE h fun aeP Xc h=>?_
 obtain rfl:=O (V Xc)
 exact ww<|ww<|pT rfl<|dn<|⟨true,h,wR []⟩
 obtain rfl:=O (V pE)
 refine ww<|ww<|pT rfl<|mv rfl<|bE h fun aeQ Xd h=>?_
 obtain rfl:=O (V Xd)
 refine ww<|ww<|pT rfl<|mv rfl<|bE h fun aeR Xe h=>?_
 obtain rfl:=O (V Xe)
 exact ww<|ww<|pT rfl<|dn<|⟨true,h,wR []⟩
 obtain rfl:=O (V we)
 refine ww<|ww<|pT rfl<|mv rfl<|bE h fun aeS Xf h=>?_
 obtain rfl:=O (V Xf)
 refine ww<|ww<|pT rfl<|mv rfl<|bE h fun aeT Xg h=>?_
 obtain rfl:=O (V Xg)
 refine ww<|ww<|pT rfl<|mv rfl<|bE h fun aeU xq h=>?_
 obtain rfl:=O (V xq)
 exact ww<|ww<|pT rfl<|dn<|⟨true,h,wR []⟩
 obtain rfl:=O (V wc)
 refine ww<|ww<|pT rfl<|mv rfl<|bE h fun aeV uM h=>?_
 obtain rfl:=O (V uM)
 refine ww<|ww<|pT rfl<|mv rfl<|bE h fun aeW yF h=>?_
 obtain rfl:=O (V yF)
 refine ww<|ww<|pT rfl<|mv rfl<|bE h fun aeX HW h=>?_
 obtain rfl:=O (V HW)
 refine ww<|ww<|pT rfl<|mv rfl<|bE h fun aeY Ng h=>?_
 obtain rfl:=O (V Ng)
 exact ww<|ww<|pT rfl<|dn<|⟨true,h,wR []⟩
 try dsimp only
 refine ae.n ?_
 cases J7
 refine fs<|qq<|aq<|sr<|mv rfl<|lE (F h) fun zQ Jt h=>eq _ rfl rfl (Bb (p:=D1) (q:=0) Jt)<|ag rfl<|dn ?_
 refine aH h (fun Ur=>AS.bw 53 [(2,.sv (.v (.int .i64 Ur.1))),(3,.sv (.v (.int .i64 Ur.2)))] [] []) (fun h=>?_) (fun Ur h=>?_)
 cases zQ
 refine cF<|sr<|mv rfl<|lE (F h) fun q9 h46 h=>ls _ rfl rfl h46<|ag rfl<|dn ?_
 refine aH h (fun YY=>AS.bw 53 [(2,.sv (.v (.int .i64 YY.1))),(3,.sv (.v (.int .i64 YY.2)))] [] []) (fun h=>?_) (fun YY h=>?_)
 cases q9
 exact fs<|⟨(FN,D1),(F h),wR []⟩
 exact cT<|af<|mv rfl<|lE (V h) fun ug h48 h=>RT.neg .none _ rfl T h48<|mv rfl<|lE h fun xb HM h=>RT.neg .none _ rfl T HM<|ag rfl<|ag rfl<|dn<|⟨(ug,xb),h,wR []⟩
 obtain⟨O5,O6⟩:=YY
 try dsimp only
 exact ae.n<|⟨(O5,O6),h,wR []⟩
 exact cT<|af<|ag rfl<|dn<|⟨(FN,1),(V h),wR []⟩
 obtain⟨HN,Us⟩:=Ur
 try dsimp only
 refine aD.n<|ae.n<|sr<|mv rfl<|mv rfl<|ag rfl<|ag rfl<|ag rfl<|dn<|aj ?_
 obtain rfl:=O h
 exact RZ (.tmp rfl (.tmp rfl (.tmp rfl (.nil))))
 refine cT<|sr<|ag rfl<|ag rfl<|ag rfl<|dn<|aj<|ae.r ?_
 obtain rfl:=O (V h)
 exact RZ (.tmp rfl (.tmp rfl (.tmp rfl (.nil))))
theorem ni{x0:Int}{x1:Int}{r:Qr}(h:fX x0 x1=some r):Pure Tryz.prog 66 [.v (.int .i64 x0),.v (.int .i64 x1)] (.agg (eQ r)):=by
 refine ah Tryz.func66 rfl (Nat.le_of_ble_eq_true rfl) (fun b9 M vs hvs=>?_)
 unfold fX at h
 refine sr<|al (cs:=[.v (.bool false),slc 1 (List.map ak []),.v (.bool false),slc 1 (List.map ak [])]) (by exact⟨SV.aa _,imp_nil,SV.aa _,imp_nil,trivial⟩) rfl<|dn<|sr<|mv rfl<|mv rfl<|ag rfl<|ag rfl<|dn<|qq<|bE h fun e6 xj jh=>?_
 refine aL (fun(v5:Int)=>AS.bw 36 [(0,.sv (.v (.int .i64 x0))),(1,.sv (.v (.int .i64 x1))),(4,.ptr 4 0),(5,.sv (.v (.int .i64 v5)))] [(4,⟨36,[.sv (.v (.bool false)),.sv (slc 1 (List.map ak [])),.sv (.v (.bool false)),.sv (slc 1 (List.map ak []))]⟩)] []) (fun v5=>v5=e6) ?_ (fun v5 xk=>?_)
 refine aq ?_
 refine aM xj (fun s6=>AS.bw 36 [(0,.sv (.v (.int .i64 x0))),(1,.sv (.v (.int .i64 x1))),(4,.ptr 4 0),(5,.sv (.v (.int .i64 s6.1))),(6,.sv (.v (.int .i64 s6.2)))] [(4,⟨36,[.sv (.v (.bool false)),.sv (slc 1 (List.map ak [])),.sv (.v (.bool false)),.sv (slc 1 (List.map ak []))]⟩)] []) (wR []) (fun s6 y6 G6 h xl sx=>?_)
 obtain⟨kL,pz⟩:=s6
 try dsimp only
 refine qq<|sr<|mv rfl<|lE h fun cn ep h=>ne _ rfl rfl (DJ (p:=pz) (q:=0) ep)<|dn ?_
 cases cn
 refine cF<|aS<|ae.x<|ae.x<|aD.x<|ae.n ?_
 obtain rfl:=O (F h)
 exact⟨kL,sx _ rfl,wR []⟩
 refine cT<|aC<|ae.n<|aq<|ai mixed<|mv rfl<|mv rfl<|mv rfl<|bE (V h) fun cG fT h=>RT.rem .none _ rfl rfl T (Wd fT) (We fT)<|ag rfl<|ag rfl ?_
 refine RT.done ⟨by kernel_rfl,?_⟩
 refine aD.n ?_
 obtain rfl:=O h
 exact ae.n ⟨(pz,cG),xl _ rfl,wR []⟩
 subst xk
 try dsimp only
 refine ae.n<|qq<|sr<|mv rfl<|lE jh fun dz gZ jh=>ls _ rfl rfl gZ<|dn ?_
 refine aH jh (fun j8=>AS.bw 36 [(0,.sv (.v (.int .i64 x0))),(1,.sv (.v (.int .i64 x1))),(4,.ptr 4 0),(5,.sv (.v (.int .i64 j8)))] [(4,⟨36,[.sv (.v (.bool false)),.sv (slc 1 (List.map ak [])),.sv (.v (.bool false)),.sv (slc 1 (List.map ak []))]⟩)] []) (fun jh=>?_) (fun Nf jh=>?_)
 cases dz
 exact fs<|⟨v5,(F jh),wR []⟩
 exact cT<|af<|mv rfl<|lE (V jh) fun c6 iS jh=>RT.neg .none _ rfl T iS<|ag rfl<|dn<|⟨c6,jh,wR []⟩
 try dsimp only
 refine ae.n<|qq<|sr<|mv rfl<|mv rfl<|lE jh fun eH jT jh=>eq _ rfl rfl (Bb (p:=Nf) (q:=x1) jT)<|dn ?_
 cases eH
 refine fs<|qq<|ai mixed<|mv rfl<|mv rfl<|bE (F jh) fun fQ lJ jh=>RT.quo .none _ rfl rfl T (ZC lJ) (Ox lJ) ?_
 obtain⟨⟨qp,qt⟩,zX,jh⟩:=bS jh
 refine cl (c9 zX) ⟨rfl,trivial⟩<|mv rfl<|mv rfl<|bE jh fun lI th jh=>RT.quo .none _ rfl rfl T (ZC th) (Ox th) ?_
 obtain⟨⟨AF,AG⟩,tK,jh⟩:=bS jh
 refine cl (c9 tK) ⟨rfl,trivial⟩<|bI (cs:=[_,_,_,_]) (cs':=[.v (.bool qp),slc 1 (List.map ak qt),.v (.bool AF),slc 1 (List.map ak AG)]) (.agg rfl (.agg rfl (.nil))) ⟨SV.aa _,SV.aa _,SV.aa _,SV.aa _,trivial⟩<|so rfl rfl rfl ?_
 refine RT.done ⟨by kernel_rfl,?_⟩
 refine ae.n<|aj ?_
 obtain rfl:=O jh
 exact RZ (.agg rfl rfl (.cons rfl (.cons rfl (.cons rfl (.cons rfl (.nil))))) rfl (.nil))
 refine cT<|sr<|mv rfl<|mv rfl<|bE (V jh) fun eI mI jh=>RT.quo .none _ rfl rfl T (ZC mI) (Ox mI) ?_
 obtain⟨⟨qo,o7⟩,lS,jh⟩:=bS jh
 refine cl (c9 lS) ⟨rfl,trivial⟩<|bI (cs:=[_,_,_,_]) (cs':=[.v (.bool qo),slc 1 (List.map ak o7),.v (.bool false),slc 1 (List.map ak [])]) (.agg rfl (.nil)) ⟨SV.aa _,SV.aa _,SV.aa _,imp_nil,trivial⟩<|so rfl rfl rfl<|dn<|aj<|ae.r ?_
 obtain rfl:=O jh
 exact RZ (.agg rfl rfl (.cons rfl (.cons rfl (.cons rfl (.cons rfl (.nil))))) rfl (.nil))
theorem FO{x0:Int}{r:Int}(h:qx x0=some r):Pure Tryz.prog 82 [.v (.int .i64 x0)] (.v (.int .i64 r)):=by
 refine ah Tryz.func82 rfl (Nat.le_of_ble_eq_true rfl) (fun b9 M vs hvs=>?_)
 unfold qx at h
 refine sr<|ag rfl<|dn<|qq<|aq<|sr<|mv rfl<|lE h fun x5 h5 h=>ls _ rfl rfl h5<|ag rfl<|dn ?_
 cases x5
 refine cF<|sr<|mv rfl<|lE (F h) fun x8 h8 h=>gt _ rfl rfl h8<|ag rfl<|dn ?_
 cases x8
 refine cF<|aC<|aD.n<|ae.n<|sr<|ag rfl<|dn<|aj ?_
 obtain rfl:=O (F h)
 exact R1 rfl
 refine cT<|sr<|ag rfl<|dn<|aj<|aD.r<|ae.r ?_
 obtain rfl:=O (V h)
 exact R1 rfl
 refine cT<|sr<|ag rfl<|dn<|aj<|aD.r<|ae.r ?_
 obtain rfl:=O (V h)
 exact R1 rfl
theorem Bh{x1:Qr}{x2:Qr}{r:Qr}(h:jB x1 x2=some r):Pure Tryz.prog 67 [.v (.int .u8 ((43:Nat):Int)),.agg (eQ x1),.agg (eQ x2)] (.agg (eQ r)):=by
 obtain⟨⟨aZ,aY⟩,⟨cI,cJ⟩⟩:=x1
 obtain⟨⟨jy,jz⟩,⟨nJ,nK⟩⟩:=x2
 refine ah Tryz.func67 rfl (Nat.le_of_ble_eq_true rfl) (fun b9 M vs hvs=>?_)
 unfold jB at h
 refine sr<|bx rfl<|bx rfl<|al (cs:=[.v (.bool false),slc 1 (List.map ak []),.v (.bool false),slc 1 (List.map ak [])]) (by exact⟨SV.aa _,imp_nil,SV.aa _,imp_nil,trivial⟩) rfl<|dn<|sr<|ld rfl rfl (.cons rfl (.cons rfl (.cons rfl (.cons rfl (.nil))))) ?_
 obtain⟨⟨⟨kg,kj⟩,⟨oc,oe⟩⟩,jn,h⟩:=bS h
 refine cl (dX jn) ⟨rfl,trivial⟩<|mv rfl<|ex rfl rfl<|ex rfl rfl<|al (cs:=[.v (.bool false),slc 1 (List.map ak [])]) (by exact⟨SV.aa _,imp_nil,trivial⟩) rfl<|al (cs:=[.v (.bool false),slc 1 (List.map ak [])]) (by exact⟨SV.aa _,imp_nil,trivial⟩) rfl<|so rfl rfl rfl<|so rfl rfl rfl<|dn<|sr<|ld rfl rfl (.cons rfl (.cons rfl (.cons rfl (.cons rfl (.nil))))) ?_
 obtain⟨⟨⟨iF,iG⟩,⟨lW,lX⟩⟩,iS,h⟩:=bS h
 refine cl (dX iS) ⟨rfl,trivial⟩<|mv rfl<|ex rfl rfl<|ex rfl rfl<|al (cs:=[.v (.bool false),slc 1 (List.map ak [])]) (by exact⟨SV.aa _,imp_nil,trivial⟩) rfl<|al (cs:=[.v (.bool false),slc 1 (List.map ak [])]) (by exact⟨SV.aa _,imp_nil,trivial⟩) rfl<|so rfl rfl rfl<|so rfl rfl rfl<|dn<|qq<|ai mixed<|cl kP trivial<|mv rfl ?_
 refine RT.look .none [.func (.func 126) #[] #[]] rfl rfl rfl T<|fl rfl rfl<|ld rfl rfl (.cons rfl (.cons rfl (.nil)))<|ld rfl rfl (.cons rfl (.cons rfl (.nil)))<|ld rfl rfl (.cons rfl (.cons rfl (.nil)))<|ld rfl rfl (.cons rfl (.cons rfl (.nil))) ?_
 obtain⟨⟨⟨uE,uF⟩,⟨uG,uH⟩⟩,lJ,h⟩:=bS h
 refine cl (uJ lJ) ⟨rfl,rfl,rfl,rfl,trivial⟩<|ex rfl rfl<|ex rfl rfl ?_
 obtain⟨⟨⟨wK,uj⟩,⟨AH,AI⟩⟩,mZ,h⟩:=bS h
 refine cl (lY mZ) ⟨rfl,rfl,trivial⟩<|so rfl rfl rfl ?_
 refine RT.done ⟨by kernel_rfl,?_⟩
 refine ae.n<|aj ?_
 obtain rfl:=O h
 exact RZ (.agg rfl rfl (.cons rfl (.cons rfl (.cons rfl (.cons rfl (.nil))))) rfl (.nil))
theorem Bi{x1:Qr}{x2:Qr}{r:Qr}(h:jC x1 x2=some r):Pure Tryz.prog 67 [.v (.int .u8 ((45:Nat):Int)),.agg (eQ x1),.agg (eQ x2)] (.agg (eQ r)):=by
 obtain⟨⟨aZ,aY⟩,⟨cI,cJ⟩⟩:=x1
 obtain⟨⟨jy,jz⟩,⟨nJ,nK⟩⟩:=x2
 refine ah Tryz.func67 rfl (Nat.le_of_ble_eq_true rfl) (fun b9 M vs hvs=>?_)
 unfold jC at h
 refine sr<|bx rfl<|bx rfl<|al (cs:=[.v (.bool false),slc 1 (List.map ak []),.v (.bool false),slc 1 (List.map ak [])]) (by exact⟨SV.aa _,imp_nil,SV.aa _,imp_nil,trivial⟩) rfl<|dn<|sr<|ld rfl rfl (.cons rfl (.cons rfl (.cons rfl (.cons rfl (.nil))))) ?_
 obtain⟨⟨⟨kg,kj⟩,⟨oc,oe⟩⟩,jn,h⟩:=bS h
 refine cl (dX jn) ⟨rfl,trivial⟩<|mv rfl<|ex rfl rfl<|ex rfl rfl<|al (cs:=[.v (.bool false),slc 1 (List.map ak [])]) (by exact⟨SV.aa _,imp_nil,trivial⟩) rfl<|al (cs:=[.v (.bool false),slc 1 (List.map ak [])]) (by exact⟨SV.aa _,imp_nil,trivial⟩) rfl<|so rfl rfl rfl<|so rfl rfl rfl<|dn<|sr<|ld rfl rfl (.cons rfl (.cons rfl (.cons rfl (.cons rfl (.nil))))) ?_
 obtain⟨⟨⟨iF,iG⟩,⟨lW,lX⟩⟩,iS,h⟩:=bS h
 refine cl (dX iS) ⟨rfl,trivial⟩<|mv rfl<|ex rfl rfl<|ex rfl rfl<|al (cs:=[.v (.bool false),slc 1 (List.map ak [])]) (by exact⟨SV.aa _,imp_nil,trivial⟩) rfl<|al (cs:=[.v (.bool false),slc 1 (List.map ak [])]) (by exact⟨SV.aa _,imp_nil,trivial⟩) rfl<|so rfl rfl rfl<|so rfl rfl rfl<|dn<|qq<|ai mixed<|cl kP trivial<|mv rfl ?_
 refine RT.look .none [.func (.func 128) #[] #[]] rfl rfl rfl T<|fl rfl rfl<|ld rfl rfl (.cons rfl (.cons rfl (.nil)))<|ld rfl rfl (.cons rfl (.cons rfl (.nil)))<|ld rfl rfl (.cons rfl (.cons rfl (.nil)))<|ld rfl rfl (.cons rfl (.cons rfl (.nil))) ?_
 obtain⟨⟨⟨uE,uF⟩,⟨uG,uH⟩⟩,lJ,h⟩:=bS h
 refine cl (uK lJ) ⟨rfl,rfl,rfl,rfl,trivial⟩<|ex rfl rfl<|ex rfl rfl ?_
 obtain⟨⟨⟨wK,uj⟩,⟨AH,AI⟩⟩,mZ,h⟩:=bS h
 refine cl (lY mZ) ⟨rfl,rfl,trivial⟩<|so rfl rfl rfl ?_
 refine RT.done ⟨by kernel_rfl,?_⟩
 refine ae.n<|aj ?_
 obtain rfl:=O h
 exact RZ (.agg rfl rfl (.cons rfl (.cons rfl (.cons rfl (.cons rfl (.nil))))) rfl (.nil))
theorem Bj{x1:Qr}{x2:Qr}{r:Qr}(h:jD x1 x2=some r):Pure Tryz.prog 67 [.v (.int .u8 ((42:Nat):Int)),.agg (eQ x1),.agg (eQ x2)] (.agg (eQ r)):=by
 obtain⟨⟨aZ,aY⟩,⟨cI,cJ⟩⟩:=x1
 obtain⟨⟨jy,jz⟩,⟨nJ,nK⟩⟩:=x2
 refine ah Tryz.func67 rfl (Nat.le_of_ble_eq_true rfl) (fun b9 M vs hvs=>?_)
 unfold jD at h
 refine sr<|bx rfl<|bx rfl<|al (cs:=[.v (.bool false),slc 1 (List.map ak []),.v (.bool false),slc 1 (List.map ak [])]) (by exact⟨SV.aa _,imp_nil,SV.aa _,imp_nil,trivial⟩) rfl<|dn<|sr<|ld rfl rfl (.cons rfl (.cons rfl (.cons rfl (.cons rfl (.nil))))) ?_
 obtain⟨⟨⟨kg,kj⟩,⟨oc,oe⟩⟩,jn,h⟩:=bS h
 refine cl (dX jn) ⟨rfl,trivial⟩<|mv rfl<|ex rfl rfl<|ex rfl rfl<|al (cs:=[.v (.bool false),slc 1 (List.map ak [])]) (by exact⟨SV.aa _,imp_nil,trivial⟩) rfl<|al (cs:=[.v (.bool false),slc 1 (List.map ak [])]) (by exact⟨SV.aa _,imp_nil,trivial⟩) rfl<|so rfl rfl rfl<|so rfl rfl rfl<|dn<|sr<|ld rfl rfl (.cons rfl (.cons rfl (.cons rfl (.cons rfl (.nil))))) ?_
 obtain⟨⟨⟨iF,iG⟩,⟨lW,lX⟩⟩,iS,h⟩:=bS h
 refine cl (dX iS) ⟨rfl,trivial⟩<|mv rfl<|ex rfl rfl<|ex rfl rfl<|al (cs:=[.v (.bool false),slc 1 (List.map ak [])]) (by exact⟨SV.aa _,imp_nil,trivial⟩) rfl<|al (cs:=[.v (.bool false),slc 1 (List.map ak [])]) (by exact⟨SV.aa _,imp_nil,trivial⟩) rfl<|so rfl rfl rfl<|so rfl rfl rfl<|dn<|qq<|ai mixed<|cl kP trivial<|mv rfl ?_
 refine RT.look .none [.func (.func 130) #[] #[]] rfl rfl rfl T<|fl rfl rfl<|ld rfl rfl (.cons rfl (.cons rfl (.nil)))<|ld rfl rfl (.cons rfl (.cons rfl (.nil)))<|ld rfl rfl (.cons rfl (.cons rfl (.nil)))<|ld rfl rfl (.cons rfl (.cons rfl (.nil))) ?_
 obtain⟨⟨⟨uE,uF⟩,⟨uG,uH⟩⟩,lJ,h⟩:=bS h
 refine cl (uL lJ) ⟨rfl,rfl,rfl,rfl,trivial⟩<|ex rfl rfl<|ex rfl rfl ?_
 obtain⟨⟨⟨wK,uj⟩,⟨AH,AI⟩⟩,mZ,h⟩:=bS h
 refine cl (lY mZ) ⟨rfl,rfl,trivial⟩<|so rfl rfl rfl ?_
 refine RT.done ⟨by kernel_rfl,?_⟩
 refine ae.n<|aj ?_
 obtain rfl:=O h
 exact RZ (.agg rfl rfl (.cons rfl (.cons rfl (.cons rfl (.cons rfl (.nil))))) rfl (.nil))
end Go.Proofs.YtfoldppidpmchaaGreat
namespace Go.Proofs.YtfoldppidpmchaaGreat
open Go.Fw Go.Fw.Z Go.RowKit
theorem fY{x0:Int}{r:Qr}(h:cu x0=some r):Pure Tryz.prog 54 [.v (.int .i64 x0)] (.agg (eQ r)):=by
 refine ah Tryz.func54 rfl (Nat.le_of_ble_eq_true rfl) (fun b9 M vs hvs=>?_)
 unfold cu at h
 refine sr<|al (cs:=[.v (.bool false),slc 1 (List.map ak []),.v (.bool false),slc 1 (List.map ak [])]) (by exact⟨SV.aa _,imp_nil,SV.aa _,imp_nil,trivial⟩) rfl<|dn<|sr<|mv rfl ?_
 obtain⟨⟨nL,nM⟩,h4,h⟩:=bS h
 refine cl (c9 h4) ⟨rfl,trivial⟩<|bI (cs:=[_,_,_,_]) (cs':=[.v (.bool nL),slc 1 (List.map ak nM),.v (.bool false),slc 1 (List.map ak [])]) (.agg rfl (.nil)) ⟨SV.aa _,SV.aa _,SV.aa _,imp_nil,trivial⟩<|so rfl rfl rfl<|dn<|aj ?_
 obtain rfl:=O h
 exact RZ (.agg rfl rfl (.cons rfl (.cons rfl (.cons rfl (.cons rfl (.nil))))) rfl (.nil))
theorem jm{x0:Qr}{r:Qr}(h:b7 x0=some r):Pure Tryz.prog 94 [.agg (eQ x0)] (.agg (eQ r)):=by
 obtain⟨⟨az,aA⟩,⟨aE,aF⟩⟩:=x0
 refine ah Tryz.func94 rfl (Nat.le_of_ble_eq_true rfl) (fun b9 M vs hvs=>?_)
 unfold b7 at h
 refine sr<|bx rfl<|al (cs:=[.v (.bool false),slc 1 (List.map ak []),.v (.bool false),slc 1 (List.map ak [])]) (by exact⟨SV.aa _,imp_nil,SV.aa _,imp_nil,trivial⟩) rfl<|dn<|qq<|sr<|ld rfl rfl (.cons rfl (.cons rfl (.cons rfl (.cons rfl (.nil))))) ?_
 obtain⟨⟨x8a,x8b,x8c⟩,h8,h⟩:=bS h
 refine cl (gD h8) ⟨rfl,trivial⟩<|mv rfl<|ex rfl rfl<|ex rfl rfl<|ex rfl rfl<|ag rfl<|ag rfl<|ag rfl<|dn<|sr<|mv rfl<|dn ?_
 cases x8c
 refine fs<|sr<|ld rfl rfl (.cons rfl (.cons rfl (.cons rfl (.cons rfl (.nil))))) ?_
 obtain⟨⟨⟨O8,O9⟩,⟨Pa,Pb⟩⟩,jd,h⟩:=bS (F h)
 refine cl (dX jd) ⟨rfl,trivial⟩<|ex rfl rfl<|ex rfl rfl ?_
 obtain⟨⟨⟨pA,pB⟩,⟨tq,tu⟩⟩,nF,h⟩:=bS h
 refine cl (lY nF) ⟨rfl,rfl,trivial⟩<|so rfl rfl rfl<|dn<|aj ?_
 obtain rfl:=O h
 exact RZ (.agg rfl rfl (.cons rfl (.cons rfl (.cons rfl (.cons rfl (.nil))))) rfl (.nil))
 refine cT<|sr<|mv rfl<|mv rfl ?_
 obtain⟨⟨⟨kZ,k7⟩,⟨AJ,AK⟩⟩,fS,h⟩:=bS (V h)
 refine cl (ni fS) ⟨rfl,rfl,trivial⟩<|so rfl rfl rfl<|dn<|aj<|ae.r ?_
 obtain rfl:=O h
 exact RZ (.agg rfl rfl (.cons rfl (.cons rfl (.cons rfl (.cons rfl (.nil))))) rfl (.nil))
theorem sD{x0:Qr}{r:Int}(h:jE x0=some r):Pure Tryz.prog 22 [.agg (eQ x0)] (.v (.int .i64 r)):=by
 obtain⟨⟨az,aA⟩,⟨aE,aF⟩⟩:=x0
 refine ah Tryz.func22 rfl (Nat.le_of_ble_eq_true rfl) (fun b9 M vs hvs=>?_)
 unfold jE at h
 refine sr<|bx rfl<|ag rfl<|dn<|qq<|sr<|fa rfl rfl<|ld rfl rfl (.cons rfl (.cons rfl (.nil)))<|bE h fun x5 h5 h=>cl (dW h5) ⟨rfl,trivial⟩<|lE h fun x6 h6 h=>ls _ rfl rfl h6<|dn ?_
 cases x6
 refine fs<|sr<|fa rfl rfl<|ld rfl rfl (.cons rfl (.cons rfl (.nil)))<|bE (F h) fun fR jn h=>cl (dW jn) ⟨rfl,trivial⟩<|ag rfl<|dn<|aj ?_
 obtain rfl:=O h
 exact R1 rfl
 refine cT<|sr<|fa rfl rfl<|ld rfl rfl (.cons rfl (.cons rfl (.nil)))<|bE (V h) fun x9 h9 h=>cl (dW h9) ⟨rfl,trivial⟩<|lE h fun cn ep h=>RT.neg .none _ rfl T ep<|ag rfl<|dn<|aj<|ae.r ?_
 obtain rfl:=O h
 exact R1 rfl
theorem HX{x0:Qr}{x1:Qr}{r:Qr}(h:pC x0 x1=some r):Pure Tryz.prog 23 [.agg (eQ x0),.agg (eQ x1)] (.agg (eQ r)):=by
 obtain⟨⟨az,aA⟩,⟨aE,aF⟩⟩:=x0
 obtain⟨⟨aZ,aY⟩,⟨cI,cJ⟩⟩:=x1
 refine ah Tryz.func23 rfl (Nat.le_of_ble_eq_true rfl) (fun b9 M vs hvs=>?_)
 unfold pC at h
 refine sr<|bx rfl<|bx rfl<|al (cs:=[.v (.bool false),slc 1 (List.map ak []),.v (.bool false),slc 1 (List.map ak [])]) (by exact⟨SV.aa _,imp_nil,SV.aa _,imp_nil,trivial⟩) rfl<|dn<|sr<|ld rfl rfl (.cons rfl (.cons rfl (.cons rfl (.cons rfl (.nil))))) ?_
 obtain⟨⟨Cs,v7,Ct⟩,jn,h⟩:=bS h
 refine cl (gD jn) ⟨rfl,trivial⟩<|mv rfl<|ex rfl rfl<|ex rfl rfl<|ex rfl rfl<|ag rfl<|ag rfl<|ag rfl<|dn<|sr<|ld rfl rfl (.cons rfl (.cons rfl (.cons rfl (.cons rfl (.nil))))) ?_
 obtain⟨⟨Cu,z5,Cv⟩,kp,h⟩:=bS h
 refine cl (gD kp) ⟨rfl,trivial⟩<|mv rfl<|ex rfl rfl<|ex rfl rfl<|ex rfl rfl<|ag rfl<|ag rfl<|ag rfl<|dn<|qq<|qq ?_
 refine aH h (fun j3=>AS.bw 41 [(2,.ptr 2 0),(3,.ptr 3 0),(4,.ptr 4 0),(5,.sv (.v (.int .i64 Cs))),(6,.sv (.v (.int .i64 v7))),(8,.sv (.v (.int .i64 Cu))),(9,.sv (.v (.int .i64 z5))),(26,.sv (.v (.bool j3)))] [(4,⟨36,[.sv (.v (.bool false)),.sv (slc 1 (List.map ak [])),.sv (.v (.bool false)),.sv (slc 1 (List.map ak []))]⟩),(3,⟨36,[.sv (.v (.bool aZ)),.sv (slc 1 (List.map ak aY)),.sv (.v (.bool cI)),.sv (slc 1 (List.map ak cJ))]⟩),(2,⟨36,[.sv (.v (.bool az)),.sv (slc 1 (List.map ak aA)),.sv (.v (.bool aE)),.sv (slc 1 (List.map ak aF))]⟩)] []) (fun h=>?_) (fun uI h=>?_)
 refine af<|mv rfl<|mv rfl<|bE h fun AN lK h=>?_
 cases Ct
 obtain rfl:=O (F lK)
 exact ww<|pF rfl<|dn<|⟨false,h,wR []⟩
 refine gm rfl ?_
 obtain rfl:=O (V lK)
 exact pT rfl<|dn<|⟨Cv,h,wR []⟩
 try dsimp only
 refine ae.n ?_
 cases uI
 refine fs<|sr<|ld rfl rfl (.cons rfl (.cons rfl (.cons rfl (.cons rfl (.nil)))))<|ld rfl rfl (.cons rfl (.cons rfl (.cons rfl (.cons rfl (.nil))))) ?_
 obtain⟨⟨⟨ur,uu⟩,⟨AL,AM⟩⟩,tO,h⟩:=bS (F h)
 refine cl (Bh tO) ⟨rfl,rfl,rfl,trivial⟩<|so rfl rfl rfl<|dn<|aj ?_
 obtain rfl:=O h
 exact RZ (.agg rfl rfl (.cons rfl (.cons rfl (.cons rfl (.cons rfl (.nil))))) rfl (.nil))
 refine cT<|sr<|mv rfl<|mv rfl<|lE (V h) fun fQ lJ h=>RT.mul .none _ rfl rfl T lJ<|mv rfl<|mv rfl<|lE h fun fI mZ h=>RT.mul .none _ rfl rfl T mZ<|lE h fun lI th h=>ad _ rfl rfl th<|mv rfl<|mv rfl<|lE h fun qm vZ h=>RT.mul .none _ rfl rfl T vZ ?_
 obtain⟨⟨⟨HO,HP⟩,⟨HQ,HR⟩⟩,Bf,h⟩:=bS h
 refine cl (ni Bf) ⟨rfl,rfl,trivial⟩<|so rfl rfl rfl<|dn<|aj<|ae.r ?_
 obtain rfl:=O h
 exact RZ (.agg rfl rfl (.cons rfl (.cons rfl (.cons rfl (.cons rfl (.nil))))) rfl (.nil))
theorem HY{x0:Qr}{x1:Qr}{r:Qr}(h:pD x0 x1=some r):Pure Tryz.prog 85 [.agg (eQ x0),.agg (eQ x1)] (.agg (eQ r)):=by
 obtain⟨⟨az,aA⟩,⟨aE,aF⟩⟩:=x0
 obtain⟨⟨aZ,aY⟩,⟨cI,cJ⟩⟩:=x1
 refine ah Tryz.func85 rfl (Nat.le_of_ble_eq_true rfl) (fun b9 M vs hvs=>?_)
 unfold pD at h
 refine sr<|bx rfl<|bx rfl<|al (cs:=[.v (.bool false),slc 1 (List.map ak []),.v (.bool false),slc 1 (List.map ak [])]) (by exact⟨SV.aa _,imp_nil,SV.aa _,imp_nil,trivial⟩) rfl<|dn<|sr<|ld rfl rfl (.cons rfl (.cons rfl (.cons rfl (.cons rfl (.nil))))) ?_
 obtain⟨⟨Cs,v7,Ct⟩,jn,h⟩:=bS h
 refine cl (gD jn) ⟨rfl,trivial⟩<|mv rfl<|ex rfl rfl<|ex rfl rfl<|ex rfl rfl<|ag rfl<|ag rfl<|ag rfl<|dn<|sr<|ld rfl rfl (.cons rfl (.cons rfl (.cons rfl (.cons rfl (.nil))))) ?_
 obtain⟨⟨Cu,z5,Cv⟩,kp,h⟩:=bS h
 refine cl (gD kp) ⟨rfl,trivial⟩<|mv rfl<|ex rfl rfl<|ex rfl rfl<|ex rfl rfl<|ag rfl<|ag rfl<|ag rfl<|dn<|qq<|qq ?_
 refine aH h (fun j3=>AS.bw 41 [(2,.ptr 2 0),(3,.ptr 3 0),(4,.ptr 4 0),(5,.sv (.v (.int .i64 Cs))),(6,.sv (.v (.int .i64 v7))),(8,.sv (.v (.int .i64 Cu))),(9,.sv (.v (.int .i64 z5))),(26,.sv (.v (.bool j3)))] [(4,⟨36,[.sv (.v (.bool false)),.sv (slc 1 (List.map ak [])),.sv (.v (.bool false)),.sv (slc 1 (List.map ak []))]⟩),(3,⟨36,[.sv (.v (.bool aZ)),.sv (slc 1 (List.map ak aY)),.sv (.v (.bool cI)),.sv (slc 1 (List.map ak cJ))]⟩),(2,⟨36,[.sv (.v (.bool az)),.sv (slc 1 (List.map ak aA)),.sv (.v (.bool aE)),.sv (slc 1 (List.map ak aF))]⟩)] []) (fun h=>?_) (fun uI h=>?_)
 refine af<|mv rfl<|mv rfl<|bE h fun AN lK h=>?_
 cases Ct
 obtain rfl:=O (F lK)
 exact ww<|pF rfl<|dn<|⟨false,h,wR []⟩
 refine gm rfl ?_
 obtain rfl:=O (V lK)
 exact pT rfl<|dn<|⟨Cv,h,wR []⟩
 try dsimp only
 refine ae.n ?_
 cases uI
 refine fs<|sr<|ld rfl rfl (.cons rfl (.cons rfl (.cons rfl (.cons rfl (.nil)))))<|ld rfl rfl (.cons rfl (.cons rfl (.cons rfl (.cons rfl (.nil))))) ?_
 obtain⟨⟨⟨ur,uu⟩,⟨AL,AM⟩⟩,tO,h⟩:=bS (F h)
 refine cl (Bi tO) ⟨rfl,rfl,rfl,trivial⟩<|so rfl rfl rfl<|dn<|aj ?_
 obtain rfl:=O h
 exact RZ (.agg rfl rfl (.cons rfl (.cons rfl (.cons rfl (.cons rfl (.nil))))) rfl (.nil))
 refine cT<|sr<|mv rfl<|mv rfl<|lE (V h) fun fQ lJ h=>RT.mul .none _ rfl rfl T lJ<|mv rfl<|mv rfl<|lE h fun fI mZ h=>RT.mul .none _ rfl rfl T mZ<|lE h fun lI th h=>sb _ rfl rfl th<|mv rfl<|mv rfl<|lE h fun qm vZ h=>RT.mul .none _ rfl rfl T vZ ?_
 obtain⟨⟨⟨HO,HP⟩,⟨HQ,HR⟩⟩,Bf,h⟩:=bS h
 refine cl (ni Bf) ⟨rfl,rfl,trivial⟩<|so rfl rfl rfl<|dn<|aj<|ae.r ?_
 obtain rfl:=O h
 exact RZ (.agg rfl rfl (.cons rfl (.cons rfl (.cons rfl (.cons rfl (.nil))))) rfl (.nil))
theorem uN{x0:Qr}{x1:Qr}{r:Qr}(h:kO x0 x1=some r):Pure Tryz.prog 79 [.agg (eQ x0),.agg (eQ x1)] (.agg (eQ r)):=by
 obtain⟨⟨az,aA⟩,⟨aE,aF⟩⟩:=x0
 obtain⟨⟨aZ,aY⟩,⟨cI,cJ⟩⟩:=x1
 refine ah Tryz.func79 rfl (Nat.le_of_ble_eq_true rfl) (fun b9 M vs hvs=>?_)
 unfold kO at h
 refine sr<|bx rfl<|bx rfl<|al (cs:=[.v (.bool false),slc 1 (List.map ak []),.v (.bool false),slc 1 (List.map ak [])]) (by exact⟨SV.aa _,imp_nil,SV.aa _,imp_nil,trivial⟩) rfl<|dn<|sr<|ld rfl rfl (.cons rfl (.cons rfl (.cons rfl (.cons rfl (.nil))))) ?_
 obtain⟨⟨Cs,v7,Ct⟩,jn,h⟩:=bS h
 refine cl (gD jn) ⟨rfl,trivial⟩<|mv rfl<|ex rfl rfl<|ex rfl rfl<|ex rfl rfl<|ag rfl<|ag rfl<|ag rfl<|dn<|sr<|ld rfl rfl (.cons rfl (.cons rfl (.cons rfl (.cons rfl (.nil))))) ?_
 obtain⟨⟨Cu,z5,Cv⟩,kp,h⟩:=bS h
 refine cl (gD kp) ⟨rfl,trivial⟩<|mv rfl<|ex rfl rfl<|ex rfl rfl<|ex rfl rfl<|ag rfl<|ag rfl<|ag rfl<|dn<|qq<|qq ?_
 refine aH h (fun j3=>AS.bw 37 [(2,.ptr 2 0),(3,.ptr 3 0),(4,.ptr 4 0),(5,.sv (.v (.int .i64 Cs))),(6,.sv (.v (.int .i64 v7))),(8,.sv (.v (.int .i64 Cu))),(9,.sv (.v (.int .i64 z5))),(26,.sv (.v (.bool j3)))] [(4,⟨36,[.sv (.v (.bool false)),.sv (slc 1 (List.map ak [])),.sv (.v (.bool false)),.sv (slc 1 (List.map ak []))]⟩),(3,⟨36,[.sv (.v (.bool aZ)),.sv (slc 1 (List.map ak aY)),.sv (.v (.bool cI)),.sv (slc 1 (List.map ak cJ))]⟩),(2,⟨36,[.sv (.v (.bool az)),.sv (slc 1 (List.map ak aA)),.sv (.v (.bool aE)),.sv (slc 1 (List.map ak aF))]⟩)] []) (fun h=>?_) (fun uI h=>?_)
 refine af<|mv rfl<|mv rfl<|bE h fun AN lK h=>?_
 cases Ct
 obtain rfl:=O (F lK)
 exact ww<|pF rfl<|dn<|⟨false,h,wR []⟩
 refine gm rfl ?_
 obtain rfl:=O (V lK)
 exact pT rfl<|dn<|⟨Cv,h,wR []⟩
 try dsimp only
 refine ae.n ?_
 cases uI
 refine fs<|sr<|ld rfl rfl (.cons rfl (.cons rfl (.cons rfl (.cons rfl (.nil)))))<|ld rfl rfl (.cons rfl (.cons rfl (.cons rfl (.cons rfl (.nil))))) ?_
 obtain⟨⟨⟨um,uo⟩,⟨HU,HV⟩⟩,vZ,h⟩:=bS (F h)
 refine cl (Bj vZ) ⟨rfl,rfl,rfl,trivial⟩<|so rfl rfl rfl<|dn<|aj ?_
 obtain rfl:=O h
 exact RZ (.agg rfl rfl (.cons rfl (.cons rfl (.cons rfl (.cons rfl (.nil))))) rfl (.nil))
 refine cT<|sr<|mv rfl<|mv rfl<|lE (V h) fun fQ lJ h=>RT.mul .none _ rfl rfl T lJ<|mv rfl<|mv rfl<|lE h fun fI mZ h=>RT.mul .none _ rfl rfl T mZ ?_
 obtain⟨⟨⟨HS,HT⟩,⟨Ut,Uu⟩⟩,th,h⟩:=bS h
 refine cl (ni th) ⟨rfl,rfl,trivial⟩<|so rfl rfl rfl<|dn<|aj<|ae.r ?_
 obtain rfl:=O h
 exact RZ (.agg rfl rfl (.cons rfl (.cons rfl (.cons rfl (.cons rfl (.nil))))) rfl (.nil))
theorem uO{x0:Qr}{r:Qr}(h:iH x0=some r):Pure Tryz.prog 56 [.agg (eQ x0)] (.agg (eQ r)):=by
 obtain⟨⟨az,aA⟩,⟨aE,aF⟩⟩:=x0
 refine ah Tryz.func56 rfl (Nat.le_of_ble_eq_true rfl) (fun b9 M vs hvs=>?_)
 unfold iH at h
 refine sr<|bx rfl<|al (cs:=[.v (.bool false),slc 1 (List.map ak []),.v (.bool false),slc 1 (List.map ak [])]) (by exact⟨SV.aa _,imp_nil,SV.aa _,imp_nil,trivial⟩) rfl<|dn<|sr<|ld rfl rfl (.cons rfl (.cons rfl (.cons rfl (.cons rfl (.nil))))) ?_
 obtain⟨⟨⟨v8,yD⟩,⟨z6,Bg⟩⟩,h5,h⟩:=bS h
 refine cl (jm h5) ⟨rfl,trivial⟩<|al (cs:=[.v (.bool false),slc 1 (List.map ak []),.v (.bool false),slc 1 (List.map ak [])]) (by exact⟨SV.aa _,imp_nil,SV.aa _,imp_nil,trivial⟩) rfl<|so rfl rfl rfl<|dn<|qq<|ai mixed<|fa rfl rfl<|ld rfl rfl (.cons rfl (.cons rfl (.nil))) ?_
 obtain⟨⟨og,oh⟩,h8,h⟩:=bS h
 refine cl (lU h8) ⟨rfl,trivial⟩<|fa rfl rfl<|ld rfl rfl (.cons rfl (.cons rfl (.nil)))<|bI (cs:=[_,_,_,_]) (cs':=[.v (.bool og),slc 1 (List.map ak oh),.v (.bool z6),slc 1 (List.map ak Bg)]) (.agg rfl (.agg rfl (.nil))) ⟨SV.aa _,SV.aa _,SV.aa _,SV.aa _,trivial⟩<|so rfl rfl rfl ?_
 refine RT.done ⟨by kernel_rfl,?_⟩
 refine ae.n<|aj ?_
 obtain rfl:=O h
 exact RZ (.agg rfl rfl (.cons rfl (.cons rfl (.cons rfl (.cons rfl (.nil))))) rfl (.nil))
theorem AO{x0:Qr}{x1:Qr}{r:Int}(h:jF x0 x1=some r):Pure Tryz.prog 33 [.agg (eQ x0),.agg (eQ x1)] (.v (.int .i64 r)):=by
 obtain⟨⟨az,aA⟩,⟨aE,aF⟩⟩:=x0
 obtain⟨⟨aZ,aY⟩,⟨cI,cJ⟩⟩:=x1
 refine ah Tryz.func33 rfl (Nat.le_of_ble_eq_true rfl) (fun b9 M vs hvs=>?_)
 unfold jF at h
 refine sr<|bx rfl<|bx rfl<|ag rfl<|dn<|sr<|ld rfl rfl (.cons rfl (.cons rfl (.cons rfl (.cons rfl (.nil))))) ?_
 obtain⟨⟨⟨kg,kj⟩,⟨oc,oe⟩⟩,jn,h⟩:=bS h
 refine cl (dX jn) ⟨rfl,trivial⟩<|mv rfl<|ex rfl rfl<|ex rfl rfl<|al (cs:=[.v (.bool false),slc 1 (List.map ak [])]) (by exact⟨SV.aa _,imp_nil,trivial⟩) rfl<|al (cs:=[.v (.bool false),slc 1 (List.map ak [])]) (by exact⟨SV.aa _,imp_nil,trivial⟩) rfl<|so rfl rfl rfl<|so rfl rfl rfl<|dn<|sr<|ld rfl rfl (.cons rfl (.cons rfl (.cons rfl (.cons rfl (.nil))))) ?_
 obtain⟨⟨⟨iF,iG⟩,⟨lW,lX⟩⟩,iS,h⟩:=bS h
 refine cl (dX iS) ⟨rfl,trivial⟩<|mv rfl<|ex rfl rfl<|ex rfl rfl<|al (cs:=[.v (.bool false),slc 1 (List.map ak [])]) (by exact⟨SV.aa _,imp_nil,trivial⟩) rfl<|al (cs:=[.v (.bool false),slc 1 (List.map ak [])]) (by exact⟨SV.aa _,imp_nil,trivial⟩) rfl<|so rfl rfl rfl<|so rfl rfl rfl<|dn<|qq<|qq<|ai mixed<|ld rfl rfl (.cons rfl (.cons rfl (.nil)))<|bE h fun fu kM h=>?_
 refine cl (dW kM) ⟨rfl,trivial⟩<|ld rfl rfl (.cons rfl (.cons rfl (.nil)))<|bE h fun eI mI h=>cl (dW mI) ⟨rfl,trivial⟩<|ag rfl<|ag rfl ?_
 refine RT.done ⟨by kernel_rfl,?_⟩
 refine ae.n<|qq ?_
 refine aH h (fun j3=>AS.bw 43 [(5,.ptr 5 0),(6,.ptr 6 0),(7,.ptr 7 0),(8,.ptr 8 0),(9,.sv (.v (.int .i64 fu))),(10,.sv (.v (.int .i64 eI))),(31,.sv (.v (.bool j3)))] [(8,⟨34,[.sv (.v (.bool lW)),.sv (slc 1 (List.map ak lX))]⟩),(7,⟨34,[.sv (.v (.bool iF)),.sv (slc 1 (List.map ak iG))]⟩),(6,⟨34,[.sv (.v (.bool oc)),.sv (slc 1 (List.map ak oe))]⟩),(5,⟨34,[.sv (.v (.bool kg)),.sv (slc 1 (List.map ak kj))]⟩)] []) (fun h=>?_) (fun Pc h=>?_)
 refine af<|mv rfl<|mv rfl<|lE h fun fF mR h=>ne _ rfl rfl (DJ (p:=fu) (q:=eI) mR)<|mv rfl<|bE h fun Ux lK h=>?_
 cases fF
 refine gm rfl<|lE (F lK) fun uf zX lK=>Wp _ rfl rfl (Bb (p:=fu) (q:=0) zX) ?_
 obtain rfl:=O lK
 exact pF rfl<|dn<|⟨uf,h,wR []⟩
 obtain rfl:=O (V lK)
 exact ww<|ww<|pT rfl<|dn<|⟨true,h,wR []⟩
 try dsimp only
 refine ae.n ?_
 cases Pc
 refine fs<|qq<|ai mixed<|ld rfl rfl (.cons rfl (.cons rfl (.nil)))<|ld rfl rfl (.cons rfl (.cons rfl (.nil))) ?_
 obtain⟨⟨Uv,Uw⟩,FD,h⟩:=bS (F h)
 refine cl (dV FD) ⟨rfl,rfl,trivial⟩<|ld rfl rfl (.cons rfl (.cons rfl (.nil)))<|ld rfl rfl (.cons rfl (.cons rfl (.nil))) ?_
 obtain⟨⟨EB,EC⟩,FE,h⟩:=bS h
 refine cl (dV FE) ⟨rfl,rfl,trivial⟩<|bE h fun rV D0 h=>cl (FL D0) ⟨rfl,rfl,trivial⟩<|ag rfl ?_
 refine RT.done ⟨by kernel_rfl,?_⟩
 refine ae.n<|aj ?_
 obtain rfl:=O h
 exact R1 rfl
 refine cT<|sr<|mv rfl<|mv rfl<|lE (V h) fun oA tK h=>sb _ rfl rfl tK<|bE h fun oB xm h=>cl (FO xm) ⟨rfl,trivial⟩<|ag rfl<|dn<|aj<|ae.r ?_
 obtain rfl:=O h
 exact R1 rfl
end Go.Proofs.YtfoldppidpmchaaGreat
namespace Go.Proofs.YtfoldppidpmchaaGreat
open Go.Fw
noncomputable def nN(x0:Qr)(x1:Qr)(c0:Qr):Option (Qr):=match x0 with|⟨⟨az,aA⟩,⟨aE,aF⟩⟩=>match x1 with|⟨⟨aZ,aY⟩,⟨cI,cJ⟩⟩=>match c0 with|⟨⟨Pg,Ph⟩,⟨Pj,Pk⟩⟩=>bD (fun(uP:Bool)=>bD (fun(j5:Bool×(List Nat)×Bool×(List Nat))=>match j5 with|⟨ED,EE,EF,EG⟩=>some ⟨⟨ED,EE⟩,⟨EF,EG⟩⟩) fun K5=>(bif uP then(kO ⟨⟨az,aA⟩,⟨aE,aF⟩⟩ ⟨⟨aZ,aY⟩,⟨cI,cJ⟩⟩).bind fun⟨⟨iq,ir⟩,⟨uQ,uR⟩⟩=>(pC ⟨⟨Pg,Ph⟩,⟨Pj,Pk⟩⟩ ⟨⟨iq,ir⟩,⟨uQ,uR⟩⟩).bind fun⟨⟨nH,nI⟩,⟨tv,tw⟩⟩=>K5 (nH,nI,tv,tw)else K5 (Pg,Ph,Pj,Pk))) fun K3=>(jE ⟨⟨az,aA⟩,⟨aE,aF⟩⟩).bind fun x6=>(some (decide ((x6:Int)≠0))).bind fun x7=>(bif x7 then(jE ⟨⟨aZ,aY⟩,⟨cI,cJ⟩⟩).bind fun cn=>(some (decide ((cn:Int)≠0))).bind fun eE=>some eE else some false).bind fun Uy=>K3 Uy
noncomputable def fZ(x0:Qr)(x1:List Qr):Option (List Qr):=match x0 with|⟨⟨az,aA⟩,⟨aE,aF⟩⟩=>(some (x1.length:Int)).bind fun x9=>(Ep 64 x9 (⟨⟨false,[]⟩,⟨false,[]⟩⟩:Qr)).bind fun cn=>(some (x1.length:Int)).bind fun bV=>(bk (fun(s8:Int×(List Qr))=>match s8 with|⟨ga,gb⟩=>(show Option ((Int×(List Qr))⊕((List Qr)))from(some (decide ((ga:Int)<bV))).bind fun cG=>(bif cG then(bR x1 ga).bind fun⟨⟨iq,ir⟩,⟨uQ,uR⟩⟩=>(kO ⟨⟨az,aA⟩,⟨aE,aF⟩⟩ ⟨⟨iq,ir⟩,⟨uQ,uR⟩⟩).bind fun⟨⟨k8,lf⟩,⟨lj,lp⟩⟩=>(wC gb ga).bind fun fy=>(stM gb fy ⟨⟨k8,lf⟩,⟨lj,lp⟩⟩).bind fun tJ=>(some (IntKind.i64.wrap (ga+1))).bind fun eI=>some (.inl (eI,tJ))else some (.inr gb)))) (0,cn)).bind fun dI=>some dI
noncomputable def iW(x0:List Qr)(x1:List Qr):Option (Qr):=(some (x0.length:Int)).bind fun bV=>(some (x1.length:Int)).bind fun cG=>(some (min (bV:Int) cG)).bind fun cE=>(vX x0 0 cE).bind fun c6=>(vX x1 0 cE).bind fun eH=>(qP (fun(k:Nat) (s7:Bool×(List Nat)×Bool×(List Nat))=>match s7 with|⟨CA,CB,CC,CD⟩=>(show Option (Bool×(List Nat)×Bool×(List Nat))from(some (c6.getD k (⟨⟨false,[]⟩,⟨false,[]⟩⟩:Qr))).bind fun⟨⟨Uz,UA⟩,⟨UB,UC⟩⟩=>(some (eH.getD k (⟨⟨false,[]⟩,⟨false,[]⟩⟩:Qr))).bind fun⟨⟨UD,UE⟩,⟨UF,UG⟩⟩=>(nN ⟨⟨Uz,UA⟩,⟨UB,UC⟩⟩ ⟨⟨UD,UE⟩,⟨UF,UG⟩⟩ ⟨⟨CA,CB⟩,⟨CC,CD⟩⟩).bind fun⟨⟨aas,aat⟩,⟨aau,aav⟩⟩=>some (aas,aat,aau,aav))) (max c6.length eH.length) (false,[],false,[])).bind fun e7=>match e7 with|⟨CA,CB,CC,CD⟩=>some ⟨⟨CA,CB⟩,⟨CC,CD⟩⟩
noncomputable def kq(x0:List Qr)(x1:List Qr):Option (Int):=(n9 (fun(k:Nat) (s3:Unit)=>(show Option ((Unit)⊕(Int))from(some (x0.getD k (⟨⟨false,[]⟩,⟨false,[]⟩⟩:Qr))).bind fun⟨⟨HZ,H6⟩,⟨H7,H8⟩⟩=>(some (x1.getD k (⟨⟨false,[]⟩,⟨false,[]⟩⟩:Qr))).bind fun⟨⟨UH,UI⟩,⟨UJ,UL⟩⟩=>(jF ⟨⟨HZ,H6⟩,⟨H7,H8⟩⟩ ⟨⟨UH,UI⟩,⟨UJ,UL⟩⟩).bind fun cE=>(some (decide ((cE:Int)≠0))).bind fun cX=>(bif cX then some (.inr cE)else some (.inl ())))) (max x0.length x1.length) ()).bind fun e3=>match e3 with|.inr v3=>some v3|.inl _=>some 0
noncomputable def fg(x0:List Qr)(x1:List Qr):Option (Bool):=(kq x0 x1).bind fun x7=>(some (decide ((x7:Int)=0))).bind fun x8=>some x8
noncomputable def jU(x0:List Qr)(x1:Int):Option (List Qr):=(some (decide ((x1:Int)<1))).bind fun x8=>(bif x8 then some []else(some (min (x1:Int) 65536)).bind fun cn=>(Ep 64 cn (⟨⟨false,[]⟩,⟨false,[]⟩⟩:Qr)).bind fun eE=>(some (x0.length:Int)).bind fun fR=>(some (eE.length:Int)).bind fun cE=>(some (min (fR:Int) cE)).bind fun dz=>(bk (fun(s8:Int×(List Qr))=>match s8 with|⟨H9,Ia⟩=>(show Option ((Int×(List Qr))⊕((List Qr)))from(some (decide ((H9:Int)<dz))).bind fun c6=>(bif c6 then(bR x0 H9).bind fun⟨⟨qy,qA⟩,⟨uS,uT⟩⟩=>(b7 ⟨⟨qy,qA⟩,⟨uS,uT⟩⟩).bind fun⟨⟨qB,qC⟩,⟨qD,qE⟩⟩=>(wC Ia H9).bind fun fF=>(stM Ia fF ⟨⟨qB,qC⟩,⟨qD,qE⟩⟩).bind fun tJ=>(some (IntKind.i64.wrap (H9+1))).bind fun jr=>some (.inl (jr,tJ))else some (.inr Ia)))) (0,eE)).bind fun CE=>some CE)
noncomputable def cK(x0:List Int):Option (List Qr):=(some (x0.length:Int)).bind fun x7=>(Ep 64 x7 (⟨⟨false,[]⟩,⟨false,[]⟩⟩:Qr)).bind fun x8=>(some (x0.length:Int)).bind fun cn=>(bk (fun(s8:Int×(List Qr))=>match s8 with|⟨uU,CF⟩=>(show Option ((Int×(List Qr))⊕((List Qr)))from(some (decide ((uU:Int)<cn))).bind fun bV=>(bif bV then(bR x0 uU).bind fun cG=>(cu cG).bind fun⟨⟨jk,jl⟩,⟨tB,tC⟩⟩=>(wC CF uU).bind fun ik=>(stM CF ik ⟨⟨jk,jl⟩,⟨tB,tC⟩⟩).bind fun tJ=>(some (IntKind.i64.wrap (uU+1))).bind fun eH=>some (.inl (eH,tJ))else some (.inr CF)))) (0,x8)).bind fun xu=>some xu
end Go.Proofs.YtfoldppidpmchaaGreat
namespace Go.Proofs.YtfoldppidpmchaaGreat
open Go.Fw Go.Fw.Z Go.RowKit
theorem yG(a b:List Qr):Pure Tryz.prog 80 [(slc 4 (List.map eQ a)),(slc 4 (List.map eQ b))] (rC 112 [ref [(slc 4 (List.map eQ a))],ref [(slc 4 (List.map eQ b))]]):=by
 refine ah Tryz.func80 rfl (Nat.le_of_ble_eq_true rfl) (fun b9 M vs hvs=>?_)
 refine sr<|RT.E8 .none (s:=.sv _) rfl T rfl rfl<|RT.E8 .none (s:=.sv _) rfl T rfl rfl<|ag rfl<|dn<|sr<|RT.makeFunc .none (.box rfl (.box rfl (.nil))) T<|an (s:=.fE _ _) rfl<|dn<|aK (mW (i:=2) rfl [(slc 4 (List.map eQ a))] (.cons rfl .nil) .any 0 [(4,.fE 112 [.val (ref [(slc 4 (List.map eQ a))]),.box 3])] (fun _ _ _=>trivial) (wV.h (l:=[(slc 4 (List.map eQ a))])) ⟨@FT.fE _ _ _ _ _ 4 112 [.box 2,.box 3] rfl,trivial⟩) ?_
 exact aK (mW (i:=3) rfl [(slc 4 (List.map eQ b))] (.cons rfl .nil) .any 0 [(4,.fE 112 [.val (ref [(slc 4 (List.map eQ a))]),.val (ref [(slc 4 (List.map eQ b))])])] (fun _ _ _=>trivial) (wV.h (l:=[(slc 4 (List.map eQ b))])) ⟨@FT.fE _ _ _ _ _ 4 112 [.val (ref [(slc 4 (List.map eQ a))]),.box 3] rfl,trivial⟩)<|aK (Fm 4 (rC 112 [ref [(slc 4 (List.map eQ a))],ref [(slc 4 (List.map eQ b))]]) (fun _ _ h=>Fo h))<|aj<|⟨.inr rfl,Fh (.tmp rfl (.nil)) rfl⟩
theorem yH(a b:List Qr):Iter Tryz.prog 112 [ref [(slc 4 (List.map eQ a))],ref [(slc 4 (List.map eQ b))]] (max a.length b.length) (fun k=>[.agg (eQ (a.getD k (⟨⟨false,[]⟩,⟨false,[]⟩⟩:Qr))),.agg (eQ (b.getD k (⟨⟨false,[]⟩,⟨false,[]⟩⟩:Qr)))]):=by
 refine r8 Tryz.func112 rfl rfl (Nat.le_of_ble_eq_true rfl) (fun b9 M O l J hJ zA hr=>?_)
 obtain⟨tF,zA⟩:=zA
 have hla:a.length≤9223372036854775807:=by cases tF with|nil=>exact zA.elim|cons _ tF=>exact vA zA.1
 have hlb:b.length≤9223372036854775807:=by cases tF with|nil=>exact zA.elim|cons _ tF=>cases tF with|nil=>exact zA.2.elim|cons _ _=>exact vA zA.2.1
 refine aO ?_
 refine af ?_
 refine RT.b8 .none rfl rfl (tl rfl) ?_
 refine RT.len .none rfl (tl rfl) ?_
 refine RT.b8 .none rfl rfl (tl rfl) ?_
 refine RT.len .none rfl (tl rfl) ?_
 refine RT.max .none (((max a.length b.length:Nat):Int)) rfl rfl (tl rfl) (by simp only[List.length_map];split<;>omega) ?_
 refine RT.mv .none rfl (tl rfl) ?_
 refine RT.done ?_
 refine ae.n ?_
 refine aq ?_
 refine xX (I:=fun x:{i:Nat//i≤max a.length b.length}=>AS.bw 37 [(0,.sv (.v (.func (.yield l) #[] #[]))),(1,.sv (ref [(slc 4 (List.map eQ a))])),(2,.sv (ref [(slc 4 (List.map eQ b))])),(11,.sv (.v (.int .i64 ((max a.length b.length:Nat):Int)))),(12,.sv (.v (.int .i64 ((x.1:Nat):Int))))] [] [] (x.1)) (μ:=fun x=>max a.length b.length-x.1) ⟨0,by omega⟩ (by(try dsimp only);exact bK id rfl rfl rfl rfl rfl ⟨.sv (by first|exact SV.aa _|exact SV.au (by omega)|exact SV.au (by push_cast;omega)|exact SV.au (by dsimp only;omega)|exact SV.imp_eq (by simp)),.sv (by first|exact SV.aa _|exact SV.au (by omega)|exact SV.au (by push_cast;omega)|exact SV.au (by dsimp only;omega)|exact SV.imp_eq (by simp)),.sv (by first|exact SV.aa _|exact SV.au (by omega)|exact SV.au (by push_cast;omega)|exact SV.au (by dsimp only;omega)|exact SV.imp_eq (by simp)),.sv (by first|exact SV.aa _|exact SV.au (by omega)|exact SV.au (by push_cast;omega)|exact SV.au (by dsimp only;omega)|exact SV.imp_eq (by simp)),.sv (by first|exact SV.aa _|exact SV.au (by omega)|exact SV.au (by push_cast;omega)|exact SV.au (by dsimp only;omega)|exact SV.imp_eq (by simp)),trivial⟩ trivial trivial (fun _ _=>rfl)) ?_
 rintro⟨i,Ua⟩
 try dsimp only
 rcases Cb a b i Ua with⟨hi,zG,Ff⟩|⟨hi,zG,Ff⟩|⟨hi,zG,Ff⟩|hi
 ·
  refine aO ?_
  refine af ?_
  refine RT.lss .none (true) rfl rfl (tl rfl) (by simp;omega) ?_
  refine RT.done ?_
  refine ae.n ?_
  refine aO ?_
  refine bX rfl ?_
  refine aC ?_
  refine ae.n ?_
  refine aO ?_
  refine aq ?_
  refine aO ?_
  refine af ?_
  refine RT.mv .none rfl (tl rfl) ?_
  refine RT.BV .none rfl (tl rfl) ?_
  refine RT.done ?_
  refine ae.n ?_
  refine aO ?_
  refine af ?_
  refine RT.r9 .none (cs:=eQ ⟨⟨false,[]⟩,⟨false,[]⟩⟩) (by exact⟨SV.aa _,imp_nil,SV.aa _,imp_nil,trivial⟩) rfl (tl rfl) rfl rfl ?_
  refine RT.r9 .none (cs:=eQ ⟨⟨false,[]⟩,⟨false,[]⟩⟩) (by exact⟨SV.aa _,imp_nil,SV.aa _,imp_nil,trivial⟩) rfl (tl rfl) rfl rfl ?_
  refine RT.done ?_
  refine ae.n ?_
  refine aO ?_
  refine aO ?_
  refine af ?_
  refine RT.mv .none rfl (tl rfl) ?_
  refine RT.b8 .none rfl rfl (tl rfl) ?_
  refine RT.len .none rfl (tl rfl) ?_
  refine RT.lss .none (true) rfl rfl (tl rfl) (by simp only[List.length_map];simp;omega) ?_
  refine RT.done ?_
  refine ae.n ?_
  refine bX rfl ?_
  refine af ?_
  refine RT.b8 .none rfl rfl (tl rfl) ?_
  refine RT.mv .none rfl (tl rfl) ?_
  refine RT.Od .none [.v (.bool (a.getD i (⟨⟨false,[]⟩,⟨false,[]⟩⟩:Qr)).num.neg),slc 1 ((a.getD i (⟨⟨false,[]⟩,⟨false,[]⟩⟩:Qr)).num.w.map ak),.v (.bool (a.getD i (⟨⟨false,[]⟩,⟨false,[]⟩⟩:Qr)).den.neg),slc 1 ((a.getD i (⟨⟨false,[]⟩,⟨false,[]⟩⟩:Qr)).den.w.map ak)] (Int.natCast_nonneg i) (by rw[Int.toNat_natCast,List.getElem?_map,bz zG];rfl) rfl rfl (tl rfl) ?_
  refine RT.nv .none rfl (tl rfl) (cs:=[.v (.bool (a.getD i (⟨⟨false,[]⟩,⟨false,[]⟩⟩:Qr)).num.neg),slc 1 ((a.getD i (⟨⟨false,[]⟩,⟨false,[]⟩⟩:Qr)).num.w.map ak),.v (.bool (a.getD i (⟨⟨false,[]⟩,⟨false,[]⟩⟩:Qr)).den.neg),slc 1 ((a.getD i (⟨⟨false,[]⟩,⟨false,[]⟩⟩:Qr)).den.w.map ak)]) rfl rfl ?_
  refine RT.store .none rfl rfl rfl rfl rfl ?_
  refine RT.done ?_
  refine ae.n ?_
  refine aO ?_
  refine aO ?_
  refine af ?_
  refine RT.mv .none rfl (tl rfl) ?_
  refine RT.b8 .none rfl rfl (tl rfl) ?_
  refine RT.len .none rfl (tl rfl) ?_
  refine RT.lss .none (true) rfl rfl (tl rfl) (by simp only[List.length_map];simp;omega) ?_
  refine RT.done ?_
  refine ae.n ?_
  refine bX rfl ?_
  refine af ?_
  refine RT.b8 .none rfl rfl (tl rfl) ?_
  refine RT.mv .none rfl (tl rfl) ?_
  refine RT.Od .none [.v (.bool (b.getD i (⟨⟨false,[]⟩,⟨false,[]⟩⟩:Qr)).num.neg),slc 1 ((b.getD i (⟨⟨false,[]⟩,⟨false,[]⟩⟩:Qr)).num.w.map ak),.v (.bool (b.getD i (⟨⟨false,[]⟩,⟨false,[]⟩⟩:Qr)).den.neg),slc 1 ((b.getD i (⟨⟨false,[]⟩,⟨false,[]⟩⟩:Qr)).den.w.map ak)] (Int.natCast_nonneg i) (by rw[Int.toNat_natCast,List.getElem?_map,bz Ff];rfl) rfl rfl (tl rfl) ?_
  refine RT.nv .none rfl (tl rfl) (cs:=[.v (.bool (b.getD i (⟨⟨false,[]⟩,⟨false,[]⟩⟩:Qr)).num.neg),slc 1 ((b.getD i (⟨⟨false,[]⟩,⟨false,[]⟩⟩:Qr)).num.w.map ak),.v (.bool (b.getD i (⟨⟨false,[]⟩,⟨false,[]⟩⟩:Qr)).den.neg),slc 1 ((b.getD i (⟨⟨false,[]⟩,⟨false,[]⟩⟩:Qr)).den.w.map ak)]) rfl rfl ?_
  refine RT.store .none rfl rfl rfl rfl rfl ?_
  refine RT.done ?_
  refine ae.n ?_
  refine aO ?_
  refine af ?_
  refine RT.mv .none rfl (tl rfl) ?_
  refine RT.load .none rfl rfl (.cons rfl (.cons rfl (.cons rfl (.cons rfl (.nil))))) rfl (tl rfl) ?_
  refine RT.load .none rfl rfl (.cons rfl (.cons rfl (.cons rfl (.cons rfl (.nil))))) rfl (tl rfl) ?_
  refine RT.yield .none hr rfl (fun _ h=>h) rfl (i) rfl rfl hi (by exact⟨rfl,rfl,trivial⟩) (tl rfl) (fun yb=>?_)
  cases yb
  ·
   refine RT.not .none rfl (tl rfl) true rfl ?_
   refine RT.done ?_
   refine ae.n ?_
   refine bX rfl ?_
   refine aj ?_
   refine aD.r ?_
   refine ae.r ?_
   refine ae.r ?_
   refine aD.r ?_
   exact⟨.inr rfl,(fun h=>by cases h)⟩
  ·
   refine RT.not .none rfl (tl rfl) false rfl ?_
   refine RT.done ?_
   refine ae.n ?_
   refine dg rfl ?_
   refine aC ?_
   refine aD.n ?_
   refine ae.n ?_
   refine af ?_
   refine RT.add .none (((i:Nat):Int)+1) rfl rfl (tl rfl) (lO (by omega)) ?_
   refine RT.mv .none rfl (tl rfl) ?_
   refine RT.done ?_
   refine ae.n ?_
   refine⟨⟨i+1,by omega⟩,(by dsimp only;omega),?_⟩
   try dsimp only
   exact bK id rfl rfl rfl rfl rfl ⟨.sv (by first|exact SV.aa _|exact SV.au (by omega)|exact SV.au (by push_cast;omega)|exact SV.au (by dsimp only;omega)|exact SV.imp_eq (by simp)),.sv (by first|exact SV.aa _|exact SV.au (by omega)|exact SV.au (by push_cast;omega)|exact SV.au (by dsimp only;omega)|exact SV.imp_eq (by simp)),.sv (by first|exact SV.aa _|exact SV.au (by omega)|exact SV.au (by push_cast;omega)|exact SV.au (by dsimp only;omega)|exact SV.imp_eq (by simp)),.sv (by first|exact SV.aa _|exact SV.au (by omega)|exact SV.au (by push_cast;omega)|exact SV.au (by dsimp only;omega)|exact SV.imp_eq (by simp)),.sv (by first|exact SV.aa _|exact SV.au (by omega)|exact SV.au (by push_cast;omega)|exact SV.au (by dsimp only;omega)|exact SV.imp_eq (by simp)),trivial⟩ trivial trivial (fun _ _=>rfl)
 ·
  refine aO ?_
  refine af ?_
  refine RT.lss .none (true) rfl rfl (tl rfl) (by simp;omega) ?_
  refine RT.done ?_
  refine ae.n ?_
  refine aO ?_
  refine bX rfl ?_
  refine aC ?_
  refine ae.n ?_
  refine aO ?_
  refine aq ?_
  refine aO ?_
  refine af ?_
  refine RT.mv .none rfl (tl rfl) ?_
  refine RT.BV .none rfl (tl rfl) ?_
  refine RT.done ?_
  refine ae.n ?_
  refine aO ?_
  refine af ?_
  refine RT.r9 .none (cs:=eQ ⟨⟨false,[]⟩,⟨false,[]⟩⟩) (by exact⟨SV.aa _,imp_nil,SV.aa _,imp_nil,trivial⟩) rfl (tl rfl) rfl rfl ?_
  refine RT.r9 .none (cs:=eQ ⟨⟨false,[]⟩,⟨false,[]⟩⟩) (by exact⟨SV.aa _,imp_nil,SV.aa _,imp_nil,trivial⟩) rfl (tl rfl) rfl rfl ?_
  refine RT.done ?_
  refine ae.n ?_
  refine aO ?_
  refine aO ?_
  refine af ?_
  refine RT.mv .none rfl (tl rfl) ?_
  refine RT.b8 .none rfl rfl (tl rfl) ?_
  refine RT.len .none rfl (tl rfl) ?_
  refine RT.lss .none (true) rfl rfl (tl rfl) (by simp only[List.length_map];simp;omega) ?_
  refine RT.done ?_
  refine ae.n ?_
  refine bX rfl ?_
  refine af ?_
  refine RT.b8 .none rfl rfl (tl rfl) ?_
  refine RT.mv .none rfl (tl rfl) ?_
  refine RT.Od .none [.v (.bool (a.getD i (⟨⟨false,[]⟩,⟨false,[]⟩⟩:Qr)).num.neg),slc 1 ((a.getD i (⟨⟨false,[]⟩,⟨false,[]⟩⟩:Qr)).num.w.map ak),.v (.bool (a.getD i (⟨⟨false,[]⟩,⟨false,[]⟩⟩:Qr)).den.neg),slc 1 ((a.getD i (⟨⟨false,[]⟩,⟨false,[]⟩⟩:Qr)).den.w.map ak)] (Int.natCast_nonneg i) (by rw[Int.toNat_natCast,List.getElem?_map,bz zG];rfl) rfl rfl (tl rfl) ?_
  refine RT.nv .none rfl (tl rfl) (cs:=[.v (.bool (a.getD i (⟨⟨false,[]⟩,⟨false,[]⟩⟩:Qr)).num.neg),slc 1 ((a.getD i (⟨⟨false,[]⟩,⟨false,[]⟩⟩:Qr)).num.w.map ak),.v (.bool (a.getD i (⟨⟨false,[]⟩,⟨false,[]⟩⟩:Qr)).den.neg),slc 1 ((a.getD i (⟨⟨false,[]⟩,⟨false,[]⟩⟩:Qr)).den.w.map ak)]) rfl rfl ?_
  refine RT.store .none rfl rfl rfl rfl rfl ?_
  refine RT.done ?_
  refine ae.n ?_
  refine aO ?_
  refine aO ?_
  refine af ?_
  refine RT.mv .none rfl (tl rfl) ?_
  refine RT.b8 .none rfl rfl (tl rfl) ?_
  refine RT.len .none rfl (tl rfl) ?_
  refine RT.lss .none (false) rfl rfl (tl rfl) (by simp only[List.length_map];simp;omega) ?_
  refine RT.done ?_
  refine ae.n ?_
  refine dg rfl ?_
  refine aC ?_
  refine ae.n ?_
  refine aO ?_
  refine af ?_
  refine RT.mv .none rfl (tl rfl) ?_
  refine RT.load .none rfl rfl (.cons rfl (.cons rfl (.cons rfl (.cons rfl (.nil))))) rfl (tl rfl) ?_
  refine RT.load .none rfl rfl (.cons rfl (.cons rfl (.cons rfl (.cons rfl (.nil))))) rfl (tl rfl) ?_
  refine RT.yield .none hr rfl (fun _ h=>h) rfl (i) rfl rfl hi (by exact⟨rfl,(by show AV.sv _=AV.sv _;rw[dB Ff]),trivial⟩) (tl rfl) (fun yb=>?_)
  cases yb
  ·
   refine RT.not .none rfl (tl rfl) true rfl ?_
   refine RT.done ?_
   refine ae.n ?_
   refine bX rfl ?_
   refine aj ?_
   refine aD.r ?_
   refine ae.r ?_
   refine ae.r ?_
   refine aD.r ?_
   exact⟨.inr rfl,(fun h=>by cases h)⟩
  ·
   refine RT.not .none rfl (tl rfl) false rfl ?_
   refine RT.done ?_
   refine ae.n ?_
   refine dg rfl ?_
   refine aC ?_
   refine aD.n ?_
   refine ae.n ?_
   refine af ?_
   refine RT.add .none (((i:Nat):Int)+1) rfl rfl (tl rfl) (lO (by omega)) ?_
   refine RT.mv .none rfl (tl rfl) ?_
   refine RT.done ?_
   refine ae.n ?_
   refine⟨⟨i+1,by omega⟩,(by dsimp only;omega),?_⟩
   try dsimp only
   exact bK id rfl rfl rfl rfl rfl ⟨.sv (by first|exact SV.aa _|exact SV.au (by omega)|exact SV.au (by push_cast;omega)|exact SV.au (by dsimp only;omega)|exact SV.imp_eq (by simp)),.sv (by first|exact SV.aa _|exact SV.au (by omega)|exact SV.au (by push_cast;omega)|exact SV.au (by dsimp only;omega)|exact SV.imp_eq (by simp)),.sv (by first|exact SV.aa _|exact SV.au (by omega)|exact SV.au (by push_cast;omega)|exact SV.au (by dsimp only;omega)|exact SV.imp_eq (by simp)),.sv (by first|exact SV.aa _|exact SV.au (by omega)|exact SV.au (by push_cast;omega)|exact SV.au (by dsimp only;omega)|exact SV.imp_eq (by simp)),.sv (by first|exact SV.aa _|exact SV.au (by omega)|exact SV.au (by push_cast;omega)|exact SV.au (by dsimp only;omega)|exact SV.imp_eq (by simp)),trivial⟩ trivial trivial (fun _ _=>rfl)
 ·
  refine aO ?_
  refine af ?_
  refine RT.lss .none (true) rfl rfl (tl rfl) (by simp;omega) ?_
  refine RT.done ?_
  refine ae.n ?_
  refine aO ?_
  refine bX rfl ?_
  refine aC ?_
  refine ae.n ?_
  refine aO ?_
  refine aq ?_
  refine aO ?_
  refine af ?_
  refine RT.mv .none rfl (tl rfl) ?_
  refine RT.BV .none rfl (tl rfl) ?_
  refine RT.done ?_
  refine ae.n ?_
  refine aO ?_
  refine af ?_
  refine RT.r9 .none (cs:=eQ ⟨⟨false,[]⟩,⟨false,[]⟩⟩) (by exact⟨SV.aa _,imp_nil,SV.aa _,imp_nil,trivial⟩) rfl (tl rfl) rfl rfl ?_
  refine RT.r9 .none (cs:=eQ ⟨⟨false,[]⟩,⟨false,[]⟩⟩) (by exact⟨SV.aa _,imp_nil,SV.aa _,imp_nil,trivial⟩) rfl (tl rfl) rfl rfl ?_
  refine RT.done ?_
  refine ae.n ?_
  refine aO ?_
  refine aO ?_
  refine af ?_
  refine RT.mv .none rfl (tl rfl) ?_
  refine RT.b8 .none rfl rfl (tl rfl) ?_
  refine RT.len .none rfl (tl rfl) ?_
  refine RT.lss .none (false) rfl rfl (tl rfl) (by simp only[List.length_map];simp;omega) ?_
  refine RT.done ?_
  refine ae.n ?_
  refine dg rfl ?_
  refine aC ?_
  refine ae.n ?_
  refine aO ?_
  refine aO ?_
  refine af ?_
  refine RT.mv .none rfl (tl rfl) ?_
  refine RT.b8 .none rfl rfl (tl rfl) ?_
  refine RT.len .none rfl (tl rfl) ?_
  refine RT.lss .none (true) rfl rfl (tl rfl) (by simp only[List.length_map];simp;omega) ?_
  refine RT.done ?_
  refine ae.n ?_
  refine bX rfl ?_
  refine af ?_
  refine RT.b8 .none rfl rfl (tl rfl) ?_
  refine RT.mv .none rfl (tl rfl) ?_
  refine RT.Od .none [.v (.bool (b.getD i (⟨⟨false,[]⟩,⟨false,[]⟩⟩:Qr)).num.neg),slc 1 ((b.getD i (⟨⟨false,[]⟩,⟨false,[]⟩⟩:Qr)).num.w.map ak),.v (.bool (b.getD i (⟨⟨false,[]⟩,⟨false,[]⟩⟩:Qr)).den.neg),slc 1 ((b.getD i (⟨⟨false,[]⟩,⟨false,[]⟩⟩:Qr)).den.w.map ak)] (Int.natCast_nonneg i) (by rw[Int.toNat_natCast,List.getElem?_map,bz Ff];rfl) rfl rfl (tl rfl) ?_
  refine RT.nv .none rfl (tl rfl) (cs:=[.v (.bool (b.getD i (⟨⟨false,[]⟩,⟨false,[]⟩⟩:Qr)).num.neg),slc 1 ((b.getD i (⟨⟨false,[]⟩,⟨false,[]⟩⟩:Qr)).num.w.map ak),.v (.bool (b.getD i (⟨⟨false,[]⟩,⟨false,[]⟩⟩:Qr)).den.neg),slc 1 ((b.getD i (⟨⟨false,[]⟩,⟨false,[]⟩⟩:Qr)).den.w.map ak)]) rfl rfl ?_
  refine RT.store .none rfl rfl rfl rfl rfl ?_
  refine RT.done ?_
  refine ae.n ?_
  refine aO ?_
  refine af ?_
  refine RT.mv .none rfl (tl rfl) ?_
  refine RT.load .none rfl rfl (.cons rfl (.cons rfl (.cons rfl (.cons rfl (.nil))))) rfl (tl rfl) ?_
  refine RT.load .none rfl rfl (.cons rfl (.cons rfl (.cons rfl (.cons rfl (.nil))))) rfl (tl rfl) ?_
  refine RT.yield .none hr rfl (fun _ h=>h) rfl (i) rfl rfl hi (by exact⟨(by show AV.sv _=AV.sv _;rw[dB zG]),rfl,trivial⟩) (tl rfl) (fun yb=>?_)
  cases yb
  ·
   refine RT.not .none rfl (tl rfl) true rfl ?_
   refine RT.done ?_
   refine ae.n ?_
   refine bX rfl ?_
   refine aj ?_
   refine aD.r ?_
   refine ae.r ?_
   refine ae.r ?_
   refine aD.r ?_
   exact⟨.inr rfl,(fun h=>by cases h)⟩
  ·
   refine RT.not .none rfl (tl rfl) false rfl ?_
   refine RT.done ?_
   refine ae.n ?_
   refine dg rfl ?_
   refine aC ?_
   refine aD.n ?_
   refine ae.n ?_
   refine af ?_
   refine RT.add .none (((i:Nat):Int)+1) rfl rfl (tl rfl) (lO (by omega)) ?_
   refine RT.mv .none rfl (tl rfl) ?_
   refine RT.done ?_
   refine ae.n ?_
   refine⟨⟨i+1,by omega⟩,(by dsimp only;omega),?_⟩
   try dsimp only
   exact bK id rfl rfl rfl rfl rfl ⟨.sv (by first|exact SV.aa _|exact SV.au (by omega)|exact SV.au (by push_cast;omega)|exact SV.au (by dsimp only;omega)|exact SV.imp_eq (by simp)),.sv (by first|exact SV.aa _|exact SV.au (by omega)|exact SV.au (by push_cast;omega)|exact SV.au (by dsimp only;omega)|exact SV.imp_eq (by simp)),.sv (by first|exact SV.aa _|exact SV.au (by omega)|exact SV.au (by push_cast;omega)|exact SV.au (by dsimp only;omega)|exact SV.imp_eq (by simp)),.sv (by first|exact SV.aa _|exact SV.au (by omega)|exact SV.au (by push_cast;omega)|exact SV.au (by dsimp only;omega)|exact SV.imp_eq (by simp)),.sv (by first|exact SV.aa _|exact SV.au (by omega)|exact SV.au (by push_cast;omega)|exact SV.au (by dsimp only;omega)|exact SV.imp_eq (by simp)),trivial⟩ trivial trivial (fun _ _=>rfl)
 ·
  subst hi
  refine aO ?_
  refine af ?_
  refine RT.lss .none (false) rfl rfl (tl rfl) (by simp) ?_
  refine RT.done ?_
  refine ae.n ?_
  refine aO ?_
  refine dg rfl ?_
  refine aS ?_
  refine ae.x ?_
  refine ae.x ?_
  refine aD.x ?_
  exact⟨.inl rfl,(fun _=>rfl)⟩
end Go.Proofs.YtfoldppidpmchaaGreat
namespace Go.Proofs.YtfoldppidpmchaaGreat
open Go.Fw Go.Fw.Z Go.RowKit
theorem FP{x0:Qr}{x1:Qr}{c0:Qr}{r:Qr}(h:nN x0 x1 c0=some r):Ol Tryz.prog 78 [.agg (eQ x0),.agg (eQ x1)] 36 (eQ c0) (.any) (eQ r):=by
 obtain⟨⟨az,aA⟩,⟨aE,aF⟩⟩:=x0
 obtain⟨⟨aZ,aY⟩,⟨cI,cJ⟩⟩:=x1
 obtain⟨⟨Pg,Ph⟩,⟨Pj,Pk⟩⟩:=c0
 refine B3 Tryz.func78 rfl (Nat.le_of_ble_eq_true rfl) (fun b9 M β=>?_)
 unfold nN at h
 refine sr<|bx rfl<|bx rfl<|dn<|qq ?_
 refine aH h (fun j3=>AS.bw 18 [(2,.ptr 1000 0),(3,.ptr 3 0),(4,.ptr 4 0),(12,.sv (.v (.bool j3)))] [(4,⟨36,[.sv (.v (.bool aZ)),.sv (slc 1 (List.map ak aY)),.sv (.v (.bool cI)),.sv (slc 1 (List.map ak cJ))]⟩),(3,⟨36,[.sv (.v (.bool az)),.sv (slc 1 (List.map ak aA)),.sv (.v (.bool aE)),.sv (slc 1 (List.map ak aF))]⟩),(1000,⟨36,[.sv (.v (.bool Pg)),.sv (slc 1 (List.map ak Ph)),.sv (.v (.bool Pj)),.sv (slc 1 (List.map ak Pk))]⟩)] []) (fun h=>?_) (fun uP h=>?_)
 refine af<|ld rfl rfl (.cons rfl (.cons rfl (.cons rfl (.cons rfl (.nil)))))<|bE h fun x6 h6 h=>cl (sD h6) ⟨rfl,trivial⟩<|lE h fun x7 h7 h=>ne _ rfl rfl (DJ (p:=x6) (q:=0) h7)<|mv rfl<|bE h fun Uy AE h=>?_
 cases x7
 obtain rfl:=O (F AE)
 exact ww<|ww<|ww<|pF rfl<|dn<|⟨false,h,wR []⟩
 refine gl rfl rfl (.cons rfl (.cons rfl (.cons rfl (.cons rfl (.nil)))))<|bE (V AE) fun cn ep AE=>gc (sD ep) ⟨rfl,trivial⟩<|lE AE fun eE jS AE=>gq _ rfl rfl (DJ (p:=cn) (q:=0) jS) ?_
 obtain rfl:=O AE
 exact pT rfl<|dn<|⟨eE,h,wR []⟩
 try dsimp only
 refine ae.n ?_
 refine aH h (fun j5=>AS.bw 18 [(2,.ptr 1000 0)] [(1000,⟨36,[.sv (.v (.bool j5.1)),.sv (slc 1 (List.map ak j5.2.1)),.sv (.v (.bool j5.2.2.1)),.sv (slc 1 (List.map ak j5.2.2.2))]⟩)] []) (fun h=>?_) (fun j5 h=>?_)
 cases uP
 exact fs<|⟨(Pg,Ph,Pj,Pk),(F h),wR []⟩
 refine cT<|ai mixed<|ld rfl rfl (.cons rfl (.cons rfl (.cons rfl (.cons rfl (.nil)))))<|ld rfl rfl (.cons rfl (.cons rfl (.cons rfl (.cons rfl (.nil)))))<|ld rfl rfl (.cons rfl (.cons rfl (.cons rfl (.cons rfl (.nil))))) ?_
 obtain⟨⟨⟨iq,ir⟩,⟨uQ,uR⟩⟩,gZ,h⟩:=bS (V h)
 refine cl (uN gZ) ⟨rfl,rfl,trivial⟩ ?_
 obtain⟨⟨⟨nH,nI⟩,⟨tv,tw⟩⟩,jd,h⟩:=bS h
 refine cl (HX jd) ⟨rfl,rfl,trivial⟩<|so rfl rfl rfl ?_
 refine RT.done ⟨by kernel_rfl,?_⟩
 exact ae.n<|⟨(nH,nI,tv,tw),h,wR []⟩
 obtain⟨ED,EE,EF,EG⟩:=j5
 try dsimp only
 obtain rfl:=O h
 exact⟨.inl rfl,oF .nil (fun _ _ _=>trivial),rfl⟩
theorem lZ{x0:Qr}{x1:List Qr}{r:List Qr}(h:fZ x0 x1=some r):Pure Tryz.prog 55 [.agg (eQ x0),slc 4 (List.map eQ x1)] (slc 4 (List.map eQ r)):=by
 obtain⟨⟨az,aA⟩,⟨aE,aF⟩⟩:=x0
 refine ah Tryz.func55 rfl (Nat.le_of_ble_eq_true rfl) (fun b9 M vs hvs=>?_)
 unfold fZ at h
 refine sr<|bx rfl<|aI rfl (imp_nil (n:=4) (e:=eQ))<|dn<|sr<|mv rfl<|lE h fun x9 h9 h=>ln rfl h9<|bE h fun cn ep h=>RT.rD (n:=4) (e:=eQ) .none rfl rfl T rfl T (by rfl) (by decide) (by exact⟨SV.aa _,imp_nil,SV.aa _,imp_nil,trivial⟩) ep<|an (s:=.row _) rfl<|dn<|qq<|sr<|mv rfl<|lE h fun bV dH h=>ln rfl dH<|mv rfl<|dn<|bE h fun e8 Co uy=>?_
 refine aL (fun(dI:(List Qr))=>AS.bw 26 [(5,.row 10)] [] [(10,TR 36 4 eQ dI)]) (fun dI=>dI=e8) ?_ (fun dI Cp=>?_)
 refine aq ?_
 refine aM Co (fun s8=>AS.bw 26 [(2,.ptr 2 0),(5,.row 10),(11,.sv (slc 4 (List.map eQ x1))),(12,.sv (.v (.int .i64 bV))),(13,.sv (.v (.int .i64 s8.1)))] [(2,⟨36,[.sv (.v (.bool az)),.sv (slc 1 (List.map ak aA)),.sv (.v (.bool aE)),.sv (slc 1 (List.map ak aF))]⟩)] [(10,TR 36 4 eQ s8.2)]) (wR []) (fun s8 y8 G8 h Cq Cr=>?_)
 obtain⟨ga,gb⟩:=s8
 try dsimp only
 refine sr<|lE h fun cG fT h=>ls _ rfl rfl fT<|dn<|qq ?_
 cases cG
 refine cF<|aS<|ae.x<|ae.x<|aD.x<|ae.n ?_
 obtain rfl:=O (F h)
 exact⟨gb,Cr _ rfl,wR []⟩
 refine cT<|aC<|ae.n<|qq<|aq<|sr<|mv rfl ?_
 obtain⟨⟨⟨iq,ir⟩,⟨uQ,uR⟩⟩,gZ,h⟩:=bS (V h)
 refine ix rfl rfl gZ<|RT.nv (cs:=[_,_,_,_]) .none rfl T rfl rfl<|al (cs:=[.v (.bool false),slc 1 (List.map ak []),.v (.bool false),slc 1 (List.map ak [])]) (by exact⟨SV.aa _,imp_nil,SV.aa _,imp_nil,trivial⟩) rfl<|ag rfl<|so rfl rfl rfl<|dn<|af<|mo (s:=.row _) rfl<|mv rfl<|ld rfl rfl (.cons rfl (.cons rfl (.cons rfl (.cons rfl (.nil)))))<|ld rfl rfl (.cons rfl (.cons rfl (.cons rfl (.cons rfl (.nil))))) ?_
 obtain⟨⟨⟨k8,lf⟩,⟨lj,lp⟩⟩,kM,h⟩:=bS h
 refine cl (uN kM) ⟨rfl,rfl,trivial⟩<|bE h fun fy kN h=>iR rfl rfl rfl kN<|bE h fun tJ nG h=>sA ⟨⟨k8,lf⟩,⟨lj,lp⟩⟩ rfl rfl rfl nG<|RT.done<|aD.n<|ae.n<|af<|lE h fun eI mI h=>ad _ rfl rfl mI<|mv rfl<|RT.done ?_
 obtain rfl:=O h
 exact ae.n ⟨(eI,tJ),Cq _ rfl,wR []⟩
 subst Cp
 try dsimp only
 refine ae.n<|sr<|mo (s:=.row _) rfl<|an (s:=.row _) rfl<|dn<|aK (bh (i:=10) (E1:=36) (n:=4) (e:=eQ) (l:=dI) rfl)<|aj ?_
 obtain rfl:=O uy
 exact R1 rfl
theorem xw{x0:List Qr}{x1:List Qr}{r:Qr}(h:iW x0 x1=some r):Pure Tryz.prog 32 [slc 4 (List.map eQ x0),slc 4 (List.map eQ x1)] (.agg (eQ r)):=by
 refine ah Tryz.func32 rfl (Nat.le_of_ble_eq_true rfl) (fun b9 M vs hvs=>?_)
 unfold iW at h
 refine sr<|al (cs:=[.v (.bool false),slc 1 (List.map ak []),.v (.bool false),slc 1 (List.map ak [])]) (by exact⟨SV.aa _,imp_nil,SV.aa _,imp_nil,trivial⟩) rfl<|dn<|sr<|al (cs:=[.v (.bool false),slc 1 (List.map ak []),.v (.bool false),slc 1 (List.map ak [])]) (by exact⟨SV.aa _,imp_nil,SV.aa _,imp_nil,trivial⟩) rfl<|dn<|sr<|RT.makeFunc .none (.box rfl (.nil)) T<|RT.alloc .none T rfl rfl<|RT.mU (cells:=[_]) .none (s:=.fE _ _) rfl rfl rfl T rfl ?_
 refine dn<|sr<|mv rfl<|lE h fun bV dH h=>ln rfl dH<|mv rfl<|lE h fun cG fT h=>ln rfl fT<|lE h fun cE fS h=>RT.min .none _ rfl rfl T (MW (p:=bV) (q:=cG) fS)<|ag rfl<|dn<|qq<|qq<|ai mixed<|mv rfl<|mv rfl<|bE h fun c6 iS h=>RT.ua .none 0 cE rfl rfl ⟨_,rfl⟩ T iS<|mv rfl<|mv rfl<|bE h fun eH jT h=>RT.ua .none 0 cE rfl rfl ⟨_,rfl⟩ T jT<|cl (yG c6 eH) ⟨rfl,rfl,trivial⟩ ?_
 refine RT.done ⟨by kernel_rfl,?_⟩
 refine ae.n<|aq<|bE h fun e7 Z8 Sw=>?_
 obtain⟨M9,Z9,ht7,hn7⟩:=rE Z8
 refine oG (yH c6 eH) (fun _ _ _ _ _=>trivial) rfl (fun k=>AS.bw 30 [(4,.ptr 4 0),(5,.ptr 5 0),(6,.ptr 6 0),(22,.sv (rC 112 [ref [slc 4 (List.map eQ c6)],ref [slc 4 (List.map eQ eH)]]))] [(6,⟨91,[.fE 78 [.box 5]]⟩),(5,⟨36,[.sv (.v (.bool (M9 k).1)),.sv (slc 1 (List.map ak (M9 k).2.1)),.sv (.v (.bool (M9 k).2.2.1)),.sv (slc 1 (List.map ak (M9 k).2.2.2))]⟩),(4,⟨36,[.sv (.v (.bool false)),.sv (slc 1 (List.map ak [])),.sv (.v (.bool false)),.sv (slc 1 (List.map ak []))]⟩)] []) [6,5,4] rfl (fun _=>⟨rfl,rfl⟩) (wY rfl) (fun _=>rfl) (wZ rfl) (by(try dsimp only);rw[Z9];(try dsimp only);exact bK id rfl rfl rfl rfl rfl ⟨.ptr,.ptr,.ptr,.sv (SV.aa _),trivial⟩ ⟨⟨_,rfl,⟨.fE,trivial⟩⟩,⟨_,rfl,⟨.sv (SV.aa _),.sv (SV.aa _),.sv (SV.aa _),.sv (SV.aa _),trivial⟩⟩,⟨_,rfl,⟨.sv (SV.aa _),.sv (SV.aa _),.sv (SV.aa _),.sv (SV.aa _),trivial⟩⟩,trivial⟩ trivial (fun _ _=>rfl)) (fun k hk D hD=>?_) ?_
 have h:=ht7 k hk
 obtain⟨sk,WI⟩:∃q,M9 k=q:=⟨_,rfl⟩
 rw[WI]at h⊢
 obtain⟨CA,CB,CC,CD⟩:=sk
 dsimp only[AS.Sc,wB]
 try dsimp only at h
 obtain⟨⟨⟨Uz,UA⟩,⟨UB,UC⟩⟩,aeZ,h⟩:=bS h
 rw[Option.some.inj aeZ]
 obtain⟨⟨⟨UD,UE⟩,⟨UF,UG⟩⟩,ae0,h⟩:=bS h
 rw[Option.some.inj ae0]
 refine sr<|al (cs:=[.v (.bool false),slc 1 (List.map ak []),.v (.bool false),slc 1 (List.map ak [])]) (by exact⟨SV.aa _,imp_nil,SV.aa _,imp_nil,trivial⟩) rfl<|so rfl rfl rfl<|dn<|af<|al (cs:=[.v (.bool false),slc 1 (List.map ak []),.v (.bool false),slc 1 (List.map ak [])]) (by exact⟨SV.aa _,imp_nil,SV.aa _,imp_nil,trivial⟩) rfl<|so rfl rfl rfl<|RT.done ?_
 refine ae.n ⟨rfl,?_⟩
 dsimp only[AS.Fl]
 refine aq<|af<|RT.ju .none (s:=.fE _ _) rfl rfl rfl T<|ld rfl rfl (.cons rfl (.cons rfl (.cons rfl (.cons rfl (.nil)))))<|ld rfl rfl (.cons rfl (.cons rfl (.cons rfl (.cons rfl (.nil))))) ?_
 obtain⟨⟨⟨aas,aat⟩,⟨aau,aav⟩⟩,o9,h⟩:=bS h
 refine cB (FP o9) 5 rfl ⟨rfl,rfl,trivial⟩<|RT.done<|aD.n ?_
 replace h:=Option.some.inj h
 refine⟨trivial,rfl,rfl,?_⟩
 try dsimp only
 rw[←h]
 try dsimp only
 exact wR []
 rw[hn7]
 obtain⟨CA,CB,CC,CD⟩:=e7
 try dsimp only
 refine aD.n<|ae.n<|sr<|ld rfl rfl (.cons rfl (.cons rfl (.cons rfl (.cons rfl (.nil)))))<|so rfl rfl rfl<|dn<|aj ?_
 obtain rfl:=O Sw
 exact RZ (.agg rfl rfl (.cons rfl (.cons rfl (.cons rfl (.cons rfl (.nil))))) rfl (.nil))
theorem CG{x0:List Qr}{x1:List Qr}{r:Int}(h:kq x0 x1=some r):Pure Tryz.prog 36 [slc 4 (List.map eQ x0),slc 4 (List.map eQ x1)] (.v (.int .i64 r)):=by
 refine ah Tryz.func36 rfl (Nat.le_of_ble_eq_true rfl) (fun b9 M vs hvs=>?_)
 unfold kq at h
 refine sr<|al (cs:=[.v (.int .i64 0)]) (by exact⟨SV.aa _,trivial⟩) rfl<|dn<|qq<|sr<|mv rfl<|mv rfl<|cl (yG x0 x1) ⟨rfl,rfl,trivial⟩<|dn<|aq<|bE h fun e3 Wc Xh=>?_
 obtain⟨m3,st3,hs3,ht3,hn3⟩:=zM Wc
 refine nh (yH x0 x1) (fun _ _ _ _ _=>trivial) rfl (fun k=>AS.bw 19 [(4,.ptr 4 0),(10,.sv (rC 112 [ref [slc 4 (List.map eQ x0)],ref [slc 4 (List.map eQ x1)]]))] [(4,⟨3,[.sv (.v (.int .i64 0))]⟩)] []) [4] rfl (fun _=>⟨rfl,rfl⟩) (wY rfl) (fun _=>rfl) (wZ rfl) (by(try dsimp only);(try dsimp only);exact bK id rfl rfl rfl rfl rfl ⟨.ptr,.sv (SV.aa _),trivial⟩ ⟨⟨_,rfl,⟨.sv (SV.aa _),trivial⟩⟩,trivial⟩ trivial (fun _ _=>rfl)) m3 (fun k hk hkm D hD=>?_) (fun hdn=>?_)
 obtain⟨y3,h,hG3,hE3⟩:=ht3 k hk hkm
 dsimp only[AS.Sc,wB]
 try dsimp only at h
 obtain⟨⟨⟨HZ,H6⟩,⟨H7,H8⟩⟩,Pm,h⟩:=bS h
 rw[Option.some.inj Pm]
 obtain⟨⟨⟨UH,UI⟩,⟨UJ,UL⟩⟩,ae6,h⟩:=bS h
 rw[Option.some.inj ae6]
 refine sr<|al (cs:=[.v (.bool false),slc 1 (List.map ak []),.v (.bool false),slc 1 (List.map ak [])]) (by exact⟨SV.aa _,imp_nil,SV.aa _,imp_nil,trivial⟩) rfl<|so rfl rfl rfl<|dn<|af<|al (cs:=[.v (.bool false),slc 1 (List.map ak []),.v (.bool false),slc 1 (List.map ak [])]) (by exact⟨SV.aa _,imp_nil,SV.aa _,imp_nil,trivial⟩) rfl<|so rfl rfl rfl<|RT.done ?_
 refine ae.n ⟨rfl,?_⟩
 dsimp only[AS.Fl]
 refine aq<|sr<|ld rfl rfl (.cons rfl (.cons rfl (.cons rfl (.cons rfl (.nil)))))<|ld rfl rfl (.cons rfl (.cons rfl (.cons rfl (.cons rfl (.nil)))))<|bE h fun cE fS h=>cl (AO fS) ⟨rfl,rfl,trivial⟩<|ag rfl<|dn<|sr<|mv rfl<|lE h fun cX jd h=>ne _ rfl rfl (DJ (p:=cE) (q:=0) jd)<|dn ?_
 cases cX
 refine cF<|aC<|aD.n ?_
 obtain rfl:=O (F h)
 obtain⟨hm3,hq3⟩:=hG3 _ rfl
 exact⟨hm3,rfl,rfl,wR []⟩
 refine cT<|sr<|mv rfl<|RT.mU (cells:=[_]) .none (s:=.sv _) rfl rfl rfl T rfl<|dn<|aj<|aD.r ?_
 obtain rfl:=O (V h)
 have he3:=hE3 _ rfl
 subst he3
 refine⟨rfl,rfl,?_⟩
 refine aD.r<|ae.r ?_
 obtain rfl:=O Xh
 exact RZ (.one rfl rfl rfl (.nil))
 have hd3:=hn3 hdn
 subst hd3
 obtain⟨ee3,Xi⟩:∃q,st3 (max x0.length x1.length)=q:=⟨_,rfl⟩
 rw[Xi]at Xh
 try dsimp only
 refine aD.n<|ae.n<|sr<|RT.mU (cells:=[_]) .none (s:=.sv _) rfl rfl rfl T rfl<|dn<|aj ?_
 obtain rfl:=O Xh
 exact RZ (.one rfl rfl rfl (.nil))
theorem l6{x0:List Qr}{x1:List Qr}{r:Bool}(h:fg x0 x1=some r):Pure Tryz.prog 37 [slc 4 (List.map eQ x0),slc 4 (List.map eQ x1)] (.v (.bool r)):=by
 refine ah Tryz.func37 rfl (Nat.le_of_ble_eq_true rfl) (fun b9 M vs hvs=>?_)
 unfold fg at h
 refine sr<|ag rfl<|dn<|sr<|mv rfl<|mv rfl<|bE h fun x7 h7 h=>cl (CG h7) ⟨rfl,rfl,trivial⟩<|lE h fun x8 h8 h=>eq _ rfl rfl (Bb (p:=x7) (q:=0) h8)<|ag rfl<|dn<|aj ?_
 obtain rfl:=O h
 exact R1 rfl
theorem D3{x0:List Qr}{x1:Int}{r:List Qr}(h:jU x0 x1=some r):Pure Tryz.prog 59 [slc 4 (List.map eQ x0),.v (.int .i64 x1)] (slc 4 (List.map eQ r)):=by
 refine ah Tryz.func59 rfl (Nat.le_of_ble_eq_true rfl) (fun b9 M vs hvs=>?_)
 unfold jU at h
 refine sr<|aI rfl (imp_nil (n:=4) (e:=eQ))<|dn<|qq<|sr<|mv rfl<|lE h fun x8 h8 h=>ls _ rfl rfl h8<|dn ?_
 cases x8
 refine fs<|sr<|mv rfl<|lE (F h) fun cn ep h=>RT.min .none _ rfl rfl T (MW (p:=x1) (q:=65536) ep)<|bE h fun eE jS h=>RT.rD (n:=4) (e:=eQ) .none rfl rfl T rfl T (by rfl) (by decide) (by exact⟨SV.aa _,imp_nil,SV.aa _,imp_nil,trivial⟩) jS<|an (s:=.row _) rfl<|dn<|qq<|sr<|mv rfl<|lE h fun fR jn h=>ln rfl jn<|mo (s:=.row _) rfl<|lE h fun cE fS h=>lL rfl rfl fS<|lE h fun dz gZ h=>?_
 refine RT.min .none _ rfl rfl T (MW (p:=fR) (q:=cE) gZ)<|mv rfl<|dn<|bE h fun e8 Co uy=>?_
 refine aL (fun(CE:(List Qr))=>AS.bw 30 [(5,.row 11)] [] [(11,TR 36 4 eQ CE)]) (fun CE=>CE=e8) ?_ (fun CE Cp=>?_)
 refine aq ?_
 refine aM Co (fun s8=>AS.bw 30 [(0,.sv (slc 4 (List.map eQ x0))),(5,.row 11),(16,.sv (.v (.int .i64 dz))),(17,.sv (.v (.int .i64 s8.1)))] [] [(11,TR 36 4 eQ s8.2)]) (wR []) (fun s8 y8 G8 h Cq Cr=>?_)
 obtain⟨H9,Ia⟩:=s8
 try dsimp only
 refine sr<|lE h fun c6 iS h=>ls _ rfl rfl iS<|dn<|qq ?_
 cases c6
 refine cF<|aS<|ae.x<|ae.x<|aD.x<|ae.n ?_
 obtain rfl:=O (F h)
 exact⟨Ia,Cr _ rfl,wR []⟩
 refine cT<|aC<|ae.n<|qq<|aq<|sr<|mv rfl<|ag rfl<|dn<|af<|mo (s:=.row _) rfl<|mv rfl<|mv rfl<|mv rfl ?_
 obtain⟨⟨⟨qy,qA⟩,⟨uS,uT⟩⟩,mI,h⟩:=bS (V h)
 refine ix rfl rfl mI<|RT.nv (cs:=[_,_,_,_]) .none rfl T rfl rfl ?_
 obtain⟨⟨⟨qB,qC⟩,⟨qD,qE⟩⟩,mY,h⟩:=bS h
 refine cl (jm mY) ⟨rfl,trivial⟩<|bE h fun fF mR h=>iR rfl rfl rfl mR<|bE h fun tJ nG h=>sA ⟨⟨qB,qC⟩,⟨qD,qE⟩⟩ rfl rfl rfl nG<|RT.done<|aD.n<|ae.n<|af<|lE h fun jr o9 h=>ad _ rfl rfl o9<|mv rfl<|RT.done ?_
 obtain rfl:=O h
 exact ae.n ⟨(jr,tJ),Cq _ rfl,wR []⟩
 subst Cp
 try dsimp only
 refine ae.n<|sr<|mo (s:=.row _) rfl<|an (s:=.row _) rfl<|dn<|aK (bh (i:=11) (E1:=36) (n:=4) (e:=eQ) (l:=CE) rfl)<|aj ?_
 obtain rfl:=O uy
 exact R1 rfl
 refine cT<|sr<|aI rfl (imp_nil (n:=4) (e:=eQ))<|dn<|aj<|ae.r ?_
 obtain rfl:=O (V h)
 exact R1 rfl
theorem eM{x0:List Int}{r:List Qr}(h:cK x0=some r):Pure Tryz.prog 42 [slc 1 (List.map aV x0)] (slc 4 (List.map eQ r)):=by
 refine ah Tryz.func42 rfl (Nat.le_of_ble_eq_true rfl) (fun b9 M vs hvs=>?_)
 unfold cK at h
 refine sr<|aI rfl (imp_nil (n:=4) (e:=eQ))<|dn<|sr<|mv rfl<|lE h fun x7 h7 h=>ln rfl h7<|bE h fun x8 h8 h=>RT.rD (n:=4) (e:=eQ) .none rfl rfl T rfl T (by rfl) (by decide) (by exact⟨SV.aa _,imp_nil,SV.aa _,imp_nil,trivial⟩) h8<|an (s:=.row _) rfl<|dn<|qq<|sr<|mv rfl<|lE h fun cn ep h=>ln rfl ep<|mv rfl<|dn<|bE h fun e8 Co uy=>?_
 refine aL (fun(xu:(List Qr))=>AS.bw 23 [(3,.row 8)] [] [(8,TR 36 4 eQ xu)]) (fun xu=>xu=e8) ?_ (fun xu Cp=>?_)
 refine aq ?_
 refine aM Co (fun s8=>AS.bw 23 [(3,.row 8),(9,.sv (slc 1 (List.map aV x0))),(10,.sv (.v (.int .i64 cn))),(11,.sv (.v (.int .i64 s8.1)))] [] [(8,TR 36 4 eQ s8.2)]) (wR []) (fun s8 y8 G8 h Cq Cr=>?_)
 obtain⟨uU,CF⟩:=s8
 try dsimp only
 refine sr<|lE h fun bV dH h=>ls _ rfl rfl dH<|dn<|qq ?_
 cases bV
 refine cF<|aS<|ae.x<|ae.x<|aD.x<|ae.n ?_
 obtain rfl:=O (F h)
 exact⟨CF,Cr _ rfl,wR []⟩
 refine cT<|aC<|ae.n<|qq<|aq<|sr<|mv rfl<|bE (V h) fun cG fT h=>ix rfl rfl fT<|lr rfl rfl<|ag rfl<|ag rfl<|dn<|af<|mo (s:=.row _) rfl<|mv rfl<|mv rfl ?_
 obtain⟨⟨⟨jk,jl⟩,⟨tB,tC⟩⟩,kp,h⟩:=bS h
 refine cl (fY kp) ⟨rfl,trivial⟩<|bE h fun ik nF h=>iR rfl rfl rfl nF<|bE h fun tJ nG h=>sA ⟨⟨jk,jl⟩,⟨tB,tC⟩⟩ rfl rfl rfl nG<|RT.done<|aD.n<|ae.n<|af<|lE h fun eH jT h=>ad _ rfl rfl jT<|mv rfl<|RT.done ?_
 obtain rfl:=O h
 exact ae.n ⟨(eH,tJ),Cq _ rfl,wR []⟩
 subst Cp
 try dsimp only
 refine ae.n<|sr<|mo (s:=.row _) rfl<|an (s:=.row _) rfl<|dn<|aK (bh (i:=8) (E1:=36) (n:=4) (e:=eQ) (l:=xu) rfl)<|aj ?_
 obtain rfl:=O uy
 exact R1 rfl
end Go.Proofs.YtfoldppidpmchaaGreat
namespace Go.Proofs.YtfoldppidpmchaaGreat
open Go.Fw
noncomputable def m5(x0:List (List Qr))(x1:Int):Option (List Qr):=bD (fun(uP:Bool)=>(bif uP then some []else(bR x0 x1).bind fun cE=>some cE)) fun K3=>(some (decide ((x1:Int)<0))).bind fun x6=>(bif x6 then some true else(some (x0.length:Int)).bind fun cn=>(some (decide ((cn:Int)≤x1))).bind fun eE=>some eE).bind fun Ib=>K3 Ib
noncomputable def m6(x0:List (List Qr)):Option (Int):=(some (x0.length:Int)).bind fun x7=>(bk (fun(s6:Int×Int)=>match s6 with|⟨kn,SA⟩=>(show Option ((Int×Int)⊕(Int))from(some (decide ((SA:Int)<x7))).bind fun x9=>(bif x9 then(bR x0 SA).bind fun cn=>(some (cn.length:Int)).bind fun cG=>(some (max (kn:Int) cG)).bind fun cE=>(some (IntKind.i64.wrap (SA+1))).bind fun dz=>some (.inl (cE,dz))else some (.inr kn)))) (0,0)).bind fun rI=>some rI
noncomputable def rJ(x0:List (List Qr))(x1:Int)(x2:Int):Option (Qr):=(m5 x0 x1).bind fun cn=>bD (fun(Pn:Bool)=>(bif Pn then some ⟨⟨false,[]⟩,⟨false,[]⟩⟩else(bR cn x2).bind fun⟨⟨k8,lf⟩,⟨lj,lp⟩⟩=>(b7 ⟨⟨k8,lf⟩,⟨lj,lp⟩⟩).bind fun⟨⟨qy,qA⟩,⟨uS,uT⟩⟩=>some ⟨⟨qy,qA⟩,⟨uS,uT⟩⟩)) fun K3=>(some (decide ((x2:Int)<0))).bind fun bV=>(bif bV then some true else(some (cn.length:Int)).bind fun dz=>(some (decide ((dz:Int)≤x2))).bind fun cX=>some cX).bind fun UM=>K3 UM
noncomputable def l7(x0:List (List Qr))(x1:List Qr):Option (List Qr):=(some (x0.length:Int)).bind fun x9=>(Ep 64 x9 (⟨⟨false,[]⟩,⟨false,[]⟩⟩:Qr)).bind fun cn=>(some (x0.length:Int)).bind fun bV=>(bk (fun(s8:Int×(List Qr))=>match s8 with|⟨ga,gb⟩=>(show Option ((Int×(List Qr))⊕((List Qr)))from(some (decide ((ga:Int)<bV))).bind fun cG=>(bif cG then(bR x0 ga).bind fun dz=>(iW dz x1).bind fun⟨⟨k8,lf⟩,⟨lj,lp⟩⟩=>(wC gb ga).bind fun fy=>(stM gb fy ⟨⟨k8,lf⟩,⟨lj,lp⟩⟩).bind fun tJ=>(some (IntKind.i64.wrap (ga+1))).bind fun eI=>some (.inl (eI,tJ))else some (.inr gb)))) (0,cn)).bind fun dI=>some dI
noncomputable def jG(x0:Qr)(x1:List (List Qr)):Option (List (List Qr)):=match x0 with|⟨⟨az,aA⟩,⟨aE,aF⟩⟩=>(some (x1.length:Int)).bind fun x9=>(Ep 24 x9 ([]:List Qr)).bind fun cn=>(some (x1.length:Int)).bind fun bV=>(bk (fun(s8:Int×(List (List Qr)))=>match s8 with|⟨ga,gb⟩=>(show Option ((Int×(List (List Qr)))⊕((List (List Qr))))from(some (decide ((ga:Int)<bV))).bind fun cG=>(bif cG then(bR x1 ga).bind fun dz=>(fZ ⟨⟨az,aA⟩,⟨aE,aF⟩⟩ dz).bind fun fu=>(wC gb ga).bind fun fy=>(stM gb fy fu).bind fun tJ=>(some (IntKind.i64.wrap (ga+1))).bind fun eI=>some (.inl (eI,tJ))else some (.inr gb)))) (0,cn)).bind fun dI=>some dI
noncomputable def oI(x0:Qr)(x1:List (List Qr)):Option (List (List Qr)):=match x0 with|⟨⟨az,aA⟩,⟨aE,aF⟩⟩=>(some (x1.length:Int)).bind fun x9=>(Ep 24 x9 ([]:List Qr)).bind fun cn=>(some (x1.length:Int)).bind fun bV=>(bk (fun(s8:Int×(List (List Qr)))=>match s8 with|⟨ga,gb⟩=>(show Option ((Int×(List (List Qr)))⊕((List (List Qr))))from(some (decide ((ga:Int)<bV))).bind fun cG=>(bif cG then(bR x1 ga).bind fun dz=>(fZ ⟨⟨az,aA⟩,⟨aE,aF⟩⟩ dz).bind fun fu=>(wC gb ga).bind fun fy=>(stM gb fy fu).bind fun tJ=>(some (IntKind.i64.wrap (ga+1))).bind fun eI=>some (.inl (eI,tJ))else some (.inr gb)))) (0,cn)).bind fun dI=>some dI
noncomputable def jH(x0:List (List Qr))(x1:List (List Qr)):Option (Bool):=(n9 (fun(k:Nat) (s3:Unit)=>(show Option ((Unit)⊕(Bool))from(some (x0.getD k [])).bind fun Wm=>(some (x1.getD k [])).bind fun p11=>(fg Wm p11).bind fun cG=>(some (!cG)).bind fun cE=>(bif cE then some (.inr false)else some (.inl ())))) (max x0.length x1.length) ()).bind fun e3=>match e3 with|.inr v3=>some v3|.inl _=>some true
noncomputable def ez(x0:List (List Int)):Option (List (List Qr)):=(some (x0.length:Int)).bind fun x7=>(Ep 24 x7 ([]:List Qr)).bind fun x8=>(some (x0.length:Int)).bind fun cn=>(bk (fun(s8:Int×(List (List Qr)))=>match s8 with|⟨uU,CF⟩=>(show Option ((Int×(List (List Qr)))⊕((List (List Qr))))from(some (decide ((uU:Int)<cn))).bind fun bV=>(bif bV then(bR x0 uU).bind fun cG=>(cK cG).bind fun iC=>(wC CF uU).bind fun ik=>(stM CF ik iC).bind fun tJ=>(some (IntKind.i64.wrap (uU+1))).bind fun eH=>some (.inl (eH,tJ))else some (.inr CF)))) (0,x8)).bind fun xu=>some xu
end Go.Proofs.YtfoldppidpmchaaGreat
namespace Go.Proofs.YtfoldppidpmchaaGreat
open Go.Fw Go.Fw.Z Go.RowKit
theorem xx{x0:List (List Qr)}{x1:Int}{r:List Qr}(h:m5 x0 x1=some r):Pure Tryz.prog 96 [slc 1 (List.map (eS 4 eQ) x0),.v (.int .i64 x1)] (slc 4 (List.map eQ r)):=by
 refine ah Tryz.func96 rfl (Nat.le_of_ble_eq_true rfl) (fun b9 M vs hvs=>?_)
 unfold m5 at h
 refine sr<|aI rfl (imp_nil (n:=4) (e:=eQ))<|dn<|qq<|qq ?_
 refine aH h (fun j3=>AS.bw 17 [(0,.sv (slc 1 (List.map (eS 4 eQ) x0))),(1,.sv (.v (.int .i64 x1))),(12,.sv (.v (.bool j3)))] [] []) (fun h=>?_) (fun uP h=>?_)
 refine af<|mv rfl<|lE h fun x6 h6 h=>ls _ rfl rfl h6<|mv rfl<|bE h fun Ib lK h=>?_
 cases x6
 refine gm rfl<|gm rfl<|lE (F lK) fun cn ep lK=>gn rfl ep<|lE lK fun eE jS lK=>RT.geq (.some rfl rfl) _ rfl rfl T jS ?_
 obtain rfl:=O lK
 exact pF rfl<|dn<|⟨eE,h,wR []⟩
 obtain rfl:=O (V lK)
 exact ww<|ww<|ww<|ww<|pT rfl<|dn<|⟨true,h,wR []⟩
 try dsimp only
 refine ae.n ?_
 cases uP
 refine fs<|sr<|mv rfl<|mv rfl<|bE (F h) fun cE fS h=>ix rfl rfl fS<|lr rfl rfl<|ag rfl<|dn<|aj ?_
 obtain rfl:=O h
 exact R1 rfl
 refine cT<|sr<|aI rfl (imp_nil (n:=4) (e:=eQ))<|dn<|aj<|ae.r ?_
 obtain rfl:=O (V h)
 exact R1 rfl
theorem CH(a:List (List Qr))(i:Nat):m5 a (i:Int)=some (a.getD i []):=by
 unfold m5
 unfold bD
 by_cases h:i<a.length
 simp[bR,h,show ¬((i:Int)<0) by omega,show ¬((a.length:Int)≤(i:Int)) by omega,List.getD]
 simp[h,show ¬((i:Int)<0) by omega,show((a.length:Int)≤(i:Int)) by omega,dB (Nat.not_lt.1 h)]
theorem Bk(a b:List (List Qr)):Pure Tryz.prog 90 [(slc 1 (List.map (eS 4 eQ) a)),(slc 1 (List.map (eS 4 eQ) b))] (rC 120 [ref [(slc 1 (List.map (eS 4 eQ) a))],ref [(slc 1 (List.map (eS 4 eQ) b))]]):=by
 refine ah Tryz.func90 rfl (Nat.le_of_ble_eq_true rfl) (fun b9 M vs hvs=>?_)
 refine sr<|RT.E8 .none (s:=.sv _) rfl T rfl rfl<|RT.E8 .none (s:=.sv _) rfl T rfl rfl<|ag rfl<|dn<|sr<|RT.makeFunc .none (.box rfl (.box rfl (.nil))) T<|an (s:=.fE _ _) rfl<|dn<|aK (mW (i:=2) rfl [(slc 1 (List.map (eS 4 eQ) a))] (.cons rfl .nil) .any 0 [(4,.fE 120 [.val (ref [(slc 1 (List.map (eS 4 eQ) a))]),.box 3])] (fun _ _ _=>trivial) (wV.h (l:=[(slc 1 (List.map (eS 4 eQ) a))])) ⟨@FT.fE _ _ _ _ _ 4 120 [.box 2,.box 3] rfl,trivial⟩) ?_
 exact aK (mW (i:=3) rfl [(slc 1 (List.map (eS 4 eQ) b))] (.cons rfl .nil) .any 0 [(4,.fE 120 [.val (ref [(slc 1 (List.map (eS 4 eQ) a))]),.val (ref [(slc 1 (List.map (eS 4 eQ) b))])])] (fun _ _ _=>trivial) (wV.h (l:=[(slc 1 (List.map (eS 4 eQ) b))])) ⟨@FT.fE _ _ _ _ _ 4 120 [.val (ref [(slc 1 (List.map (eS 4 eQ) a))]),.box 3] rfl,trivial⟩)<|aK (Fm 4 (rC 120 [ref [(slc 1 (List.map (eS 4 eQ) a))],ref [(slc 1 (List.map (eS 4 eQ) b))]]) (fun _ _ h=>Fo h))<|aj<|⟨.inr rfl,Fh (.tmp rfl (.nil)) rfl⟩
theorem Bl(a b:List (List Qr)):Iter Tryz.prog 120 [ref [(slc 1 (List.map (eS 4 eQ) a))],ref [(slc 1 (List.map (eS 4 eQ) b))]] (max a.length b.length) (fun k=>[(slc 4 (List.map eQ (a.getD k []))),(slc 4 (List.map eQ (b.getD k [])))]):=by
 refine r8 Tryz.func120 rfl rfl (Nat.le_of_ble_eq_true rfl) (fun b9 M O l J hJ zA hr=>?_)
 obtain⟨tF,zA⟩:=zA
 have hla:a.length≤9223372036854775807:=by cases tF with|nil=>exact zA.elim|cons _ tF=>exact vA zA.1
 have hlb:b.length≤9223372036854775807:=by cases tF with|nil=>exact zA.elim|cons _ tF=>cases tF with|nil=>exact zA.2.elim|cons _ _=>exact vA zA.2.1
 refine aO ?_
 refine af ?_
 refine RT.b8 .none rfl rfl (tl rfl) ?_
 refine RT.len .none rfl (tl rfl) ?_
 refine RT.b8 .none rfl rfl (tl rfl) ?_
 refine RT.len .none rfl (tl rfl) ?_
 refine RT.max .none (((max a.length b.length:Nat):Int)) rfl rfl (tl rfl) (by simp only[List.length_map];split<;>omega) ?_
 refine RT.mv .none rfl (tl rfl) ?_
 refine RT.done ?_
 refine ae.n ?_
 refine aq ?_
 refine xX (I:=fun x:{i:Nat//i≤max a.length b.length}=>AS.bw 23 [(0,.sv (.v (.func (.yield l) #[] #[]))),(1,.sv (ref [(slc 1 (List.map (eS 4 eQ) a))])),(2,.sv (ref [(slc 1 (List.map (eS 4 eQ) b))])),(9,.sv (.v (.int .i64 ((max a.length b.length:Nat):Int)))),(10,.sv (.v (.int .i64 ((x.1:Nat):Int))))] [] [] (x.1)) (μ:=fun x=>max a.length b.length-x.1) ⟨0,by omega⟩ (by(try dsimp only);exact bK id rfl rfl rfl rfl rfl ⟨.sv (by first|exact SV.aa _|exact SV.au (by omega)|exact SV.au (by push_cast;omega)|exact SV.au (by dsimp only;omega)|exact SV.imp_eq (by simp)),.sv (by first|exact SV.aa _|exact SV.au (by omega)|exact SV.au (by push_cast;omega)|exact SV.au (by dsimp only;omega)|exact SV.imp_eq (by simp)),.sv (by first|exact SV.aa _|exact SV.au (by omega)|exact SV.au (by push_cast;omega)|exact SV.au (by dsimp only;omega)|exact SV.imp_eq (by simp)),.sv (by first|exact SV.aa _|exact SV.au (by omega)|exact SV.au (by push_cast;omega)|exact SV.au (by dsimp only;omega)|exact SV.imp_eq (by simp)),.sv (by first|exact SV.aa _|exact SV.au (by omega)|exact SV.au (by push_cast;omega)|exact SV.au (by dsimp only;omega)|exact SV.imp_eq (by simp)),trivial⟩ trivial trivial (fun _ _=>rfl)) ?_
 rintro⟨i,Ua⟩
 try dsimp only
 rcases Nat.lt_or_eq_of_le Ua with hi|hi
 ·
  refine aO ?_
  refine af ?_
  refine RT.lss .none (true) rfl rfl (tl rfl) (by simp;omega) ?_
  refine RT.done ?_
  refine ae.n ?_
  refine aO ?_
  refine bX rfl ?_
  refine aC ?_
  refine ae.n ?_
  refine aO ?_
  refine aq ?_
  refine aO ?_
  refine af ?_
  refine RT.mv .none rfl (tl rfl) ?_
  refine RT.BV .none rfl (tl rfl) ?_
  refine RT.done ?_
  refine ae.n ?_
  refine aO ?_
  refine Cd 7 mixed ?_
  refine RT.mv .none rfl (tl rfl) ?_
  refine RT.b8 .none rfl rfl (tl rfl) ?_
  refine RT.mv .none rfl (tl rfl) ?_
  refine RT.call .none (xx (CH a i)) rfl ⟨rfl,rfl,trivial⟩ (tl rfl) ?_
  refine RT.b8 .none rfl rfl (tl rfl) ?_
  refine RT.mv .none rfl (tl rfl) ?_
  refine RT.call .none (xx (CH b i)) rfl ⟨rfl,rfl,trivial⟩ (tl rfl) ?_
  refine RT.done ⟨by kernel_rfl,?_⟩
  refine RT.yield .none hr rfl (fun _ h=>h) rfl (i) rfl rfl hi (by exact⟨rfl,rfl,trivial⟩) (tl rfl) (fun yb=>?_)
  cases yb
  ·
   refine RT.not .none rfl (tl rfl) true rfl ?_
   refine RT.done ?_
   refine ae.n ?_
   refine bX rfl ?_
   refine aj ?_
   refine aD.r ?_
   refine ae.r ?_
   refine ae.r ?_
   refine aD.r ?_
   exact⟨.inr rfl,(fun h=>by cases h)⟩
  ·
   refine RT.not .none rfl (tl rfl) false rfl ?_
   refine RT.done ?_
   refine ae.n ?_
   refine dg rfl ?_
   refine aC ?_
   refine aD.n ?_
   refine ae.n ?_
   refine af ?_
   refine RT.add .none (((i:Nat):Int)+1) rfl rfl (tl rfl) (lO (by omega)) ?_
   refine RT.mv .none rfl (tl rfl) ?_
   refine RT.done ?_
   refine ae.n ?_
   refine⟨⟨i+1,by omega⟩,(by dsimp only;omega),?_⟩
   try dsimp only
   exact bK id rfl rfl rfl rfl rfl ⟨.sv (by first|exact SV.aa _|exact SV.au (by omega)|exact SV.au (by push_cast;omega)|exact SV.au (by dsimp only;omega)|exact SV.imp_eq (by simp)),.sv (by first|exact SV.aa _|exact SV.au (by omega)|exact SV.au (by push_cast;omega)|exact SV.au (by dsimp only;omega)|exact SV.imp_eq (by simp)),.sv (by first|exact SV.aa _|exact SV.au (by omega)|exact SV.au (by push_cast;omega)|exact SV.au (by dsimp only;omega)|exact SV.imp_eq (by simp)),.sv (by first|exact SV.aa _|exact SV.au (by omega)|exact SV.au (by push_cast;omega)|exact SV.au (by dsimp only;omega)|exact SV.imp_eq (by simp)),.sv (by first|exact SV.aa _|exact SV.au (by omega)|exact SV.au (by push_cast;omega)|exact SV.au (by dsimp only;omega)|exact SV.imp_eq (by simp)),trivial⟩ trivial trivial (fun _ _=>rfl)
 ·
  subst hi
  refine aO ?_
  refine af ?_
  refine RT.lss .none (false) rfl rfl (tl rfl) (by simp) ?_
  refine RT.done ?_
  refine ae.n ?_
  refine aO ?_
  refine dg rfl ?_
  refine aS ?_
  refine ae.x ?_
  refine ae.x ?_
  refine aD.x ?_
  exact⟨.inl rfl,(fun _=>rfl)⟩
theorem AP{x0:List (List Qr)}{r:Int}(h:m6 x0=some r):Pure Tryz.prog 58 [slc 1 (List.map (eS 4 eQ) x0)] (.v (.int .i64 r)):=by
 refine ah Tryz.func58 rfl (Nat.le_of_ble_eq_true rfl) (fun b9 M vs hvs=>?_)
 unfold m6 at h
 refine sr<|ag rfl<|dn<|sr<|ag rfl<|dn<|qq<|sr<|mv rfl<|lE h fun x7 h7 h=>ln rfl h7<|mv rfl<|dn<|bE h fun e6 xj jh=>?_
 refine aL (fun(rI:Int)=>AS.bw 18 [(3,.sv (.v (.int .i64 rI)))] [] []) (fun rI=>rI=e6) ?_ (fun rI xk=>?_)
 refine aq ?_
 refine aM xj (fun s6=>AS.bw 18 [(3,.sv (.v (.int .i64 s6.1))),(6,.sv (slc 1 (List.map (eS 4 eQ) x0))),(7,.sv (.v (.int .i64 x7))),(8,.sv (.v (.int .i64 s6.2)))] [] []) (wR []) (fun s6 y6 G6 h xl sx=>?_)
 obtain⟨kn,SA⟩:=s6
 try dsimp only
 refine sr<|lE h fun x9 h9 h=>ls _ rfl rfl h9<|dn<|qq ?_
 cases x9
 refine cF<|aS<|ae.x<|ae.x<|aD.x<|ae.n ?_
 obtain rfl:=O (F h)
 exact⟨kn,sx _ rfl,wR []⟩
 refine cT<|aC<|ae.n<|qq<|aq<|sr<|bE (V h) fun cn ep h=>ix rfl rfl ep<|lr rfl rfl<|ag rfl<|dn<|af<|mv rfl<|mv rfl<|lE h fun cG fT h=>ln rfl fT<|lE h fun cE fS h=>RT.max .none _ rfl rfl T (Ow (p:=kn) (q:=cG) fS)<|ag rfl<|RT.done<|aD.n<|ae.n<|af<|lE h fun dz gZ h=>ad _ rfl rfl gZ<|mv rfl<|RT.done ?_
 obtain rfl:=O h
 exact ae.n ⟨(cE,dz),xl _ rfl,wR []⟩
 subst xk
 try dsimp only
 refine ae.n<|sr<|mv rfl<|ag rfl<|dn<|aj ?_
 obtain rfl:=O jh
 exact R1 rfl
theorem EH{x0:List (List Qr)}{x1:Int}{x2:Int}{r:Qr}(h:rJ x0 x1 x2=some r):Pure Tryz.prog 57 [slc 1 (List.map (eS 4 eQ) x0),.v (.int .i64 x1),.v (.int .i64 x2)] (.agg (eQ r)):=by
 refine ah Tryz.func57 rfl (Nat.le_of_ble_eq_true rfl) (fun b9 M vs hvs=>?_)
 unfold rJ at h
 refine sr<|al (cs:=[.v (.bool false),slc 1 (List.map ak []),.v (.bool false),slc 1 (List.map ak [])]) (by exact⟨SV.aa _,imp_nil,SV.aa _,imp_nil,trivial⟩) rfl<|dn<|sr<|mv rfl<|mv rfl<|bE h fun cn ep h=>cl (xx ep) ⟨rfl,rfl,trivial⟩<|ag rfl<|dn<|qq<|qq ?_
 refine aH h (fun j3=>AS.bw 25 [(2,.sv (.v (.int .i64 x2))),(6,.ptr 6 0),(7,.sv (slc 4 (List.map eQ cn))),(18,.sv (.v (.bool j3)))] [(6,⟨36,[.sv (.v (.bool false)),.sv (slc 1 (List.map ak [])),.sv (.v (.bool false)),.sv (slc 1 (List.map ak []))]⟩)] []) (fun h=>?_) (fun Pn h=>?_)
 refine af<|mv rfl<|lE h fun bV dH h=>ls _ rfl rfl dH<|mv rfl<|bE h fun UM lK h=>?_
 cases bV
 refine gm rfl<|gm rfl<|lE (F lK) fun dz gZ lK=>gn rfl gZ<|lE lK fun cX jd lK=>RT.geq (.some rfl rfl) _ rfl rfl T jd ?_
 obtain rfl:=O lK
 exact pF rfl<|dn<|⟨cX,h,wR []⟩
 obtain rfl:=O (V lK)
 exact ww<|ww<|ww<|ww<|pT rfl<|dn<|⟨true,h,wR []⟩
 try dsimp only
 refine ae.n ?_
 cases Pn
 refine fs<|sr<|mv rfl<|mv rfl ?_
 obtain⟨⟨⟨k8,lf⟩,⟨lj,lp⟩⟩,kM,h⟩:=bS (F h)
 refine ix rfl rfl kM<|RT.nv (cs:=[_,_,_,_]) .none rfl T rfl rfl ?_
 obtain⟨⟨⟨qy,qA⟩,⟨uS,uT⟩⟩,mI,h⟩:=bS h
 refine cl (jm mI) ⟨rfl,trivial⟩<|so rfl rfl rfl<|dn<|aj ?_
 obtain rfl:=O h
 exact RZ (.agg rfl rfl (.cons rfl (.cons rfl (.cons rfl (.cons rfl (.nil))))) rfl (.nil))
 refine cT<|sr<|bI (cs:=[_,_,_,_]) (cs':=[.v (.bool false),slc 1 (List.map ak []),.v (.bool false),slc 1 (List.map ak [])]) (.nil) ⟨SV.aa _,imp_nil,SV.aa _,imp_nil,trivial⟩<|so rfl rfl rfl<|dn<|aj<|ae.r ?_
 obtain rfl:=O (V h)
 exact RZ (.agg rfl rfl (.cons rfl (.cons rfl (.cons rfl (.cons rfl (.nil))))) rfl (.nil))
theorem D4{x0:List (List Qr)}{x1:List Qr}{r:List Qr}(h:l7 x0 x1=some r):Pure Tryz.prog 63 [slc 1 (List.map (eS 4 eQ) x0),slc 4 (List.map eQ x1)] (slc 4 (List.map eQ r)):=by
 refine ah Tryz.func63 rfl (Nat.le_of_ble_eq_true rfl) (fun b9 M vs hvs=>?_)
 unfold l7 at h
 refine sr<|aI rfl (imp_nil (n:=4) (e:=eQ))<|dn<|sr<|mv rfl<|lE h fun x9 h9 h=>ln rfl h9<|bE h fun cn ep h=>RT.rD (n:=4) (e:=eQ) .none rfl rfl T rfl T (by rfl) (by decide) (by exact⟨SV.aa _,imp_nil,SV.aa _,imp_nil,trivial⟩) ep<|an (s:=.row _) rfl<|dn<|qq<|sr<|mv rfl<|lE h fun bV dH h=>ln rfl dH<|mv rfl<|dn<|bE h fun e8 Co uy=>?_
 refine aL (fun(dI:(List Qr))=>AS.bw 26 [(5,.row 10)] [] [(10,TR 36 4 eQ dI)]) (fun dI=>dI=e8) ?_ (fun dI Cp=>?_)
 refine aq ?_
 refine aM Co (fun s8=>AS.bw 26 [(1,.sv (slc 4 (List.map eQ x1))),(5,.row 10),(11,.sv (slc 1 (List.map (eS 4 eQ) x0))),(12,.sv (.v (.int .i64 bV))),(13,.sv (.v (.int .i64 s8.1)))] [] [(10,TR 36 4 eQ s8.2)]) (wR []) (fun s8 y8 G8 h Cq Cr=>?_)
 obtain⟨ga,gb⟩:=s8
 try dsimp only
 refine sr<|lE h fun cG fT h=>ls _ rfl rfl fT<|dn<|qq ?_
 cases cG
 refine cF<|aS<|ae.x<|ae.x<|aD.x<|ae.n ?_
 obtain rfl:=O (F h)
 exact⟨gb,Cr _ rfl,wR []⟩
 refine cT<|aC<|ae.n<|qq<|aq<|sr<|mv rfl<|bE (V h) fun dz gZ h=>ix rfl rfl gZ<|lr rfl rfl<|ag rfl<|ag rfl<|dn<|af<|mo (s:=.row _) rfl<|mv rfl<|mv rfl<|mv rfl ?_
 obtain⟨⟨⟨k8,lf⟩,⟨lj,lp⟩⟩,kM,h⟩:=bS h
 refine cl (xw kM) ⟨rfl,rfl,trivial⟩<|bE h fun fy kN h=>iR rfl rfl rfl kN<|bE h fun tJ nG h=>sA ⟨⟨k8,lf⟩,⟨lj,lp⟩⟩ rfl rfl rfl nG<|RT.done<|aD.n<|ae.n<|af<|lE h fun eI mI h=>ad _ rfl rfl mI<|mv rfl<|RT.done ?_
 obtain rfl:=O h
 exact ae.n ⟨(eI,tJ),Cq _ rfl,wR []⟩
 subst Cp
 try dsimp only
 refine ae.n<|sr<|mo (s:=.row _) rfl<|an (s:=.row _) rfl<|dn<|aK (bh (i:=10) (E1:=36) (n:=4) (e:=eQ) (l:=dI) rfl)<|aj ?_
 obtain rfl:=O uy
 exact R1 rfl
theorem sE{x0:Qr}{x1:List (List Qr)}{r:List (List Qr)}(h:jG x0 x1=some r):Pure Tryz.prog 88 [.agg (eQ x0),slc 1 (List.map (eS 4 eQ) x1)] (slc 1 (List.map (eS 4 eQ) r)):=by
 obtain⟨⟨az,aA⟩,⟨aE,aF⟩⟩:=x0
 refine ah Tryz.func88 rfl (Nat.le_of_ble_eq_true rfl) (fun b9 M vs hvs=>?_)
 unfold jG at h
 refine sr<|bx rfl<|aI rfl (imp_nil (n:=1) (e:=(eS 4 eQ)))<|dn<|sr<|mv rfl<|lE h fun x9 h9 h=>ln rfl h9<|bE h fun cn ep h=>RT.rD (n:=1) (e:=(eS 4 eQ)) .none rfl rfl T rfl T (by rfl) (by decide) (by exact⟨imp_nil,trivial⟩) ep<|an (s:=.row _) rfl<|dn<|qq<|sr<|mv rfl<|lE h fun bV dH h=>ln rfl dH<|mv rfl<|dn<|bE h fun e8 Co uy=>?_
 refine aL (fun(dI:(List (List Qr)))=>AS.bw 26 [(5,.row 10)] [] [(10,TR 24 1 (eS 4 eQ) dI)]) (fun dI=>dI=e8) ?_ (fun dI Cp=>?_)
 refine aq ?_
 refine aM Co (fun s8=>AS.bw 26 [(2,.ptr 2 0),(5,.row 10),(11,.sv (slc 1 (List.map (eS 4 eQ) x1))),(12,.sv (.v (.int .i64 bV))),(13,.sv (.v (.int .i64 s8.1)))] [(2,⟨36,[.sv (.v (.bool az)),.sv (slc 1 (List.map ak aA)),.sv (.v (.bool aE)),.sv (slc 1 (List.map ak aF))]⟩)] [(10,TR 24 1 (eS 4 eQ) s8.2)]) (wR []) (fun s8 y8 G8 h Cq Cr=>?_)
 obtain⟨ga,gb⟩:=s8
 try dsimp only
 refine sr<|lE h fun cG fT h=>ls _ rfl rfl fT<|dn<|qq ?_
 cases cG
 refine cF<|aS<|ae.x<|ae.x<|aD.x<|ae.n ?_
 obtain rfl:=O (F h)
 exact⟨gb,Cr _ rfl,wR []⟩
 refine cT<|aC<|ae.n<|qq<|aq<|sr<|mv rfl<|bE (V h) fun dz gZ h=>ix rfl rfl gZ<|lr rfl rfl<|ag rfl<|ag rfl<|dn<|af<|mo (s:=.row _) rfl<|mv rfl<|ld rfl rfl (.cons rfl (.cons rfl (.cons rfl (.cons rfl (.nil)))))<|mv rfl<|bE h fun fu kM h=>cl (lZ kM) ⟨rfl,rfl,trivial⟩<|bE h fun fy kN h=>iR rfl rfl rfl kN<|bE h fun tJ nG h=>sR fu rfl rfl rfl rfl nG ?_
 refine RT.done<|aD.n<|ae.n<|af<|lE h fun eI mI h=>ad _ rfl rfl mI<|mv rfl<|RT.done ?_
 obtain rfl:=O h
 exact ae.n ⟨(eI,tJ),Cq _ rfl,wR []⟩
 subst Cp
 try dsimp only
 refine ae.n<|sr<|mo (s:=.row _) rfl<|an (s:=.row _) rfl<|dn<|aK (bh (i:=10) (E1:=24) (n:=1) (e:=(eS 4 eQ)) (l:=dI) rfl)<|aj ?_
 obtain rfl:=O uy
 exact R1 rfl
theorem D5{x0:Qr}{x1:List (List Qr)}{r:List (List Qr)}(h:oI x0 x1=some r):B0 Tryz.prog 88 [.agg (eQ x0),slc 1 (List.map (eS 4 eQ) x1)] (TR 24 1 (eS 4 eQ) r):=by
 obtain⟨⟨az,aA⟩,⟨aE,aF⟩⟩:=x0
 refine o4 Tryz.func88 rfl (Nat.le_of_ble_eq_true rfl) (fun b9 M vs hvs=>?_)
 unfold oI at h
 refine sr<|bx rfl<|ag rfl<|dn<|aK (cY 4 304 24 1 rfl rfl T)<|sr<|mv rfl<|lE h fun x9 h9 h=>ln rfl h9<|bE h fun cn ep h=>RT.rD (n:=1) (e:=(eS 4 eQ)) .none rfl rfl T rfl T (by rfl) (by decide) (by exact⟨imp_nil,trivial⟩) ep<|an (s:=.row _) rfl<|dn<|qq<|sr<|mv rfl<|lE h fun bV dH h=>ln rfl dH<|mv rfl<|dn<|bE h fun e8 Co uy=>?_
 refine aL (fun(dI:(List (List Qr)))=>AS.bw 26 [(5,.row 10)] [] [(10,TR 24 1 (eS 4 eQ) dI)]) (fun dI=>dI=e8) ?_ (fun dI Cp=>?_)
 refine aq ?_
 refine aM Co (fun s8=>AS.bw 26 [(2,.ptr 2 0),(5,.row 10),(11,.sv (slc 1 (List.map (eS 4 eQ) x1))),(12,.sv (.v (.int .i64 bV))),(13,.sv (.v (.int .i64 s8.1)))] [(2,⟨36,[.sv (.v (.bool az)),.sv (slc 1 (List.map ak aA)),.sv (.v (.bool aE)),.sv (slc 1 (List.map ak aF))]⟩)] [(10,TR 24 1 (eS 4 eQ) s8.2)]) (wR []) (fun s8 y8 G8 h Cq Cr=>?_)
 obtain⟨ga,gb⟩:=s8
 try dsimp only
 refine sr<|lE h fun cG fT h=>ls _ rfl rfl fT<|dn<|qq ?_
 cases cG
 refine cF<|aS<|ae.x<|ae.x<|aD.x<|ae.n ?_
 obtain rfl:=O (F h)
 exact⟨gb,Cr _ rfl,wR []⟩
 refine cT<|aC<|ae.n<|qq<|aq<|sr<|mv rfl<|bE (V h) fun dz gZ h=>ix rfl rfl gZ<|lr rfl rfl<|ag rfl<|ag rfl<|dn<|af<|mo (s:=.row _) rfl<|mv rfl<|ld rfl rfl (.cons rfl (.cons rfl (.cons rfl (.cons rfl (.nil)))))<|mv rfl<|bE h fun fu kM h=>cl (lZ kM) ⟨rfl,rfl,trivial⟩<|bE h fun fy kN h=>iR rfl rfl rfl kN<|bE h fun tJ nG h=>sR fu rfl rfl rfl rfl nG ?_
 refine RT.done<|aD.n<|ae.n<|af<|lE h fun eI mI h=>ad _ rfl rfl mI<|mv rfl<|RT.done ?_
 obtain rfl:=O h
 exact ae.n ⟨(eI,tJ),Cq _ rfl,wR []⟩
 subst Cp
 try dsimp only
 refine ae.n<|sr<|mo (s:=.row _) rfl<|an (s:=.row _) rfl<|dn<|aj ?_
 obtain rfl:=O uy
 exact⟨.inr rfl,_,.tmp rfl,rfl⟩
theorem yI{x0:List (List Qr)}{x1:List (List Qr)}{r:Bool}(h:jH x0 x1=some r):Pure Tryz.prog 51 [slc 1 (List.map (eS 4 eQ) x0),slc 1 (List.map (eS 4 eQ) x1)] (.v (.bool r)):=by
 refine ah Tryz.func51 rfl (Nat.le_of_ble_eq_true rfl) (fun b9 M vs hvs=>?_)
 unfold jH at h
 refine sr<|al (cs:=[.v (.bool false)]) (by exact⟨SV.aa _,trivial⟩) rfl<|dn<|qq<|sr<|mv rfl<|mv rfl<|cl (Bk x0 x1) ⟨rfl,rfl,trivial⟩<|dn<|aq<|bE h fun e3 Wc Xh=>?_
 obtain⟨m3,st3,hs3,ht3,hn3⟩:=zM Wc
 refine nh (Bl x0 x1) (fun _ _ _ _ _=>trivial) rfl (fun k=>AS.bw 16 [(4,.ptr 4 0),(9,.sv (rC 120 [ref [slc 1 (List.map (eS 4 eQ) x0)],ref [slc 1 (List.map (eS 4 eQ) x1)]]))] [(4,⟨4,[.sv (.v (.bool false))]⟩)] []) [4] rfl (fun _=>⟨rfl,rfl⟩) (wY rfl) (fun _=>rfl) (wZ rfl) (by(try dsimp only);(try dsimp only);exact bK id rfl rfl rfl rfl rfl ⟨.ptr,.sv (SV.aa _),trivial⟩ ⟨⟨_,rfl,⟨.sv (SV.aa _),trivial⟩⟩,trivial⟩ trivial (fun _ _=>rfl)) m3 (fun k hk hkm D hD=>?_) (fun hdn=>?_)
 obtain⟨y3,h,hG3,hE3⟩:=ht3 k hk hkm
 dsimp only[AS.Sc,wB]
 try dsimp only at h
 refine lE h fun Wm Xj h=>?_
 rw[Xj]
 refine lE h fun p11 Pm h=>?_
 rw[Pm]
 refine sr<|ag rfl<|dn<|af<|ag rfl<|RT.done ?_
 refine ae.n ⟨rfl,?_⟩
 dsimp only[AS.Fl]
 refine aq<|sr<|mv rfl<|mv rfl<|bE h fun cG fT h=>cl (l6 fT) ⟨rfl,rfl,trivial⟩<|lE h fun cE fS h=>nt rfl _ fS<|dn ?_
 cases cE
 refine cF<|aC<|aD.n ?_
 obtain rfl:=O (F h)
 obtain⟨hm3,hq3⟩:=hG3 _ rfl
 exact⟨hm3,rfl,rfl,wR []⟩
 refine cT<|sr<|RT.mU (cells:=[_]) .none (s:=.sv _) rfl rfl rfl T rfl<|dn<|aj<|aD.r ?_
 obtain rfl:=O (V h)
 have he3:=hE3 _ rfl
 subst he3
 refine⟨rfl,rfl,?_⟩
 refine aD.r<|ae.r ?_
 obtain rfl:=O Xh
 exact RZ (.one rfl rfl rfl (.nil))
 have hd3:=hn3 hdn
 subst hd3
 obtain⟨ee3,Xi⟩:∃q,st3 (max x0.length x1.length)=q:=⟨_,rfl⟩
 rw[Xi]at Xh
 try dsimp only
 refine aD.n<|ae.n<|sr<|RT.mU (cells:=[_]) .none (s:=.sv _) rfl rfl rfl T rfl<|dn<|aj ?_
 obtain rfl:=O Xh
 exact RZ (.one rfl rfl rfl (.nil))
theorem kF{x0:List (List Int)}{r:List (List Qr)}(h:ez x0=some r):Pure Tryz.prog 41 [slc 1 (List.map (eS 1 aV) x0)] (slc 1 (List.map (eS 4 eQ) r)):=by
 refine ah Tryz.func41 rfl (Nat.le_of_ble_eq_true rfl) (fun b9 M vs hvs=>?_)
 unfold ez at h
 refine sr<|aI rfl (imp_nil (n:=1) (e:=(eS 4 eQ)))<|dn<|sr<|mv rfl<|lE h fun x7 h7 h=>ln rfl h7<|bE h fun x8 h8 h=>RT.rD (n:=1) (e:=(eS 4 eQ)) .none rfl rfl T rfl T (by rfl) (by decide) (by exact⟨imp_nil,trivial⟩) h8<|an (s:=.row _) rfl<|dn<|qq<|sr<|mv rfl<|lE h fun cn ep h=>ln rfl ep<|mv rfl<|dn<|bE h fun e8 Co uy=>?_
 refine aL (fun(xu:(List (List Qr)))=>AS.bw 23 [(3,.row 8)] [] [(8,TR 24 1 (eS 4 eQ) xu)]) (fun xu=>xu=e8) ?_ (fun xu Cp=>?_)
 refine aq ?_
 refine aM Co (fun s8=>AS.bw 23 [(3,.row 8),(9,.sv (slc 1 (List.map (eS 1 aV) x0))),(10,.sv (.v (.int .i64 cn))),(11,.sv (.v (.int .i64 s8.1)))] [] [(8,TR 24 1 (eS 4 eQ) s8.2)]) (wR []) (fun s8 y8 G8 h Cq Cr=>?_)
 obtain⟨uU,CF⟩:=s8
 try dsimp only
 refine sr<|lE h fun bV dH h=>ls _ rfl rfl dH<|dn<|qq ?_
 cases bV
 refine cF<|aS<|ae.x<|ae.x<|aD.x<|ae.n ?_
 obtain rfl:=O (F h)
 exact⟨CF,Cr _ rfl,wR []⟩
 refine cT<|aC<|ae.n<|qq<|aq<|sr<|mv rfl<|bE (V h) fun cG fT h=>ix rfl rfl fT<|lr rfl rfl<|ag rfl<|ag rfl<|dn<|af<|mo (s:=.row _) rfl<|mv rfl<|mv rfl<|bE h fun iC kp h=>cl (eM kp) ⟨rfl,trivial⟩<|bE h fun ik nF h=>iR rfl rfl rfl nF<|bE h fun tJ nG h=>sR iC rfl rfl rfl rfl nG<|RT.done<|aD.n<|ae.n<|af<|lE h fun eH jT h=>ad _ rfl rfl jT ?_
 refine mv rfl<|RT.done ?_
 obtain rfl:=O h
 exact ae.n ⟨(eH,tJ),Cq _ rfl,wR []⟩
 subst Cp
 try dsimp only
 refine ae.n<|sr<|mo (s:=.row _) rfl<|an (s:=.row _) rfl<|dn<|aK (bh (i:=8) (E1:=24) (n:=1) (e:=(eS 4 eQ)) (l:=xu) rfl)<|aj ?_
 obtain rfl:=O uy
 exact R1 rfl
end Go.Proofs.YtfoldppidpmchaaGreat
namespace Go.Fw
open Go.RowKit
theorem Po{α:Type}{e:α→List SV}{l:List α}{n:Nat}{s t:SV}{r:List SV}{M:Mem}{v:Value}(h:(ref (s::t::slc n (l.map e)::r)).h M v):l.length≤9223372036854775807:=by
 obtain⟨b,o,_,h⟩:=h
 obtain⟨y,_,_,h⟩:=h 2 _ rfl
 exact Lo h
theorem J8{α β:Type}(a:List α)(b:List β)(i:Nat)(h:i≤a.length):(i<a.length∧i<b.length)∨(i<a.length∧b.length≤i)∨i=a.length:=by omega
class St4 (P:Program) (T:TypeId) (I:outParam TypeId):Prop where
 fs:(match P.underlying T with|some (.struct fs)=>(match fs.toList with|[f1,f2,f3,f4]=>(decide (f1.type=I)&&decide (f1.offset=0)&&decide (f1.name≠ "_"))&&(decide (f2.type=I)&&decide (f2.offset=1)&&decide (f2.name≠ "_"))&&(decide (f3.type=I)&&decide (f3.offset=2)&&decide (f3.name≠ "_"))&&(decide (f4.type=I)&&decide (f4.offset=3)&&decide (f4.name≠ "_"))|_=>false)|_=>false)=true
 hp:P.stoodInHeld T=false
 hI:P.underlying I=some (.int .i64)
 hg:P.eqGuardType P.depth T=false
theorem St4.ex{P:Program}{T I:TypeId}(h:St4 P T I):∃f1 f2 f3 f4:Field,P.underlying T=some (.struct #[f1,f2,f3,f4])∧(f1.type=I∧f1.offset=0∧f1.name≠ "_")∧(f2.type=I∧f2.offset=1∧f2.name≠ "_")∧(f3.type=I∧f3.offset=2∧f3.name≠ "_")∧(f4.type=I∧f4.offset=3∧f4.name≠ "_"):=by
 have h1:=h.fs
 cases hu:P.underlying T with
 |none=>rw[hu]at h1;cases h1
 |some d=>
  rw[hu]at h1
  cases d with
  |struct fs=>
   obtain⟨l⟩:=fs
   match l,h1 with
   |[f1,f2,f3,f4],h1=>
    simp only[Bool.and_eq_true,decide_eq_true_eq]at h1
    obtain⟨⟨⟨⟨⟨a1,a2⟩,a3⟩,⟨⟨b1,b2⟩,b3⟩⟩,⟨⟨c1,c2⟩,c3⟩⟩,⟨⟨d1,d2⟩,d3⟩⟩:=h1
    exact⟨f1,f2,f3,f4,rfl,⟨a1,a2,a3⟩,⟨b1,b2,b3⟩,⟨c1,c2,c3⟩,⟨d1,d2,d3⟩⟩
  |_=>cases h1
theorem Xk{P:Program}{T I:TypeId}[tI:bY P I][t4:St4 P T I](w:World)(a1 a2 a3 a4 b1 b2 b3 b4:Int):
  (binOp .neq T (.agg #[.int .i64 a1,.int .i64 a2,.int .i64 a3,.int .i64 a4]) (.agg #[.int .i64 b1,.int .i64 b2,.int .i64 b3,.int .i64 b4])).run P w=.ok (.bool (!(a1==b1&&(a2==b2&&(a3==b3&&a4==b4))))) w:=by
 obtain⟨f1,f2,f3,f4,hT,h1,h2,h3,h4⟩:=t4.ex
 have hf:P.fieldsOf T=#[f1,f2,f3,f4]:=by simp[Program.fieldsOf,hT]
 rw[run_neq_struct,run_equalIn_struct w 9999 T _ _ (by rw[hf];exact hT) t4.hp,hf]
 have hpt:∀(xs:Array Value) (o:Nat) (v:Value),xs[o]? =some v→(part I xs o).run P w=.ok v w:=by
  intro xs o v h
  simp[part,bY.isAgg,h]
 have step:∀(f:Field) (l:List Field) (o:Nat) (xs ys:Array Value) (a b:Int),(f.type=I∧f.offset=o∧f.name≠ "_")→xs[o]? =some (.int .i64 a)→ys[o]? =some (.int .i64 b)→
   ∀r,(Op.eqFields 9999 xs ys l).run P w=.ok r w→(Op.eqFields 9999 xs ys (f::l)).run P w=.ok (a==b&&r) w:=by
  intro f l o xs ys a b ⟨q1,q2,q3⟩ hx hy r hr
  simp only[Op.eqFields,q1,q2,q3,ne_eq,not_false_eq_true,if_true,Sem.run_bind]
  rw[hpt _ o _ hx,Result.andThen_ok,hpt _ o _ hy,Result.andThen_ok,run_equalIn_int w _ I .i64 .i64 _ _ t4.hI,Result.andThen_ok]
  cases e:(a==b)
  ·simp
  ·simpa using hr
 have nil:∀(xs ys:Array Value),(Op.eqFields 9999 xs ys []).run P w=.ok true w:=fun _ _=>by simp[Op.eqFields]
 have:=step f1 [f2,f3,f4] 0 #[.int .i64 a1,.int .i64 a2,.int .i64 a3,.int .i64 a4] #[.int .i64 b1,.int .i64 b2,.int .i64 b3,.int .i64 b4] a1 b1 h1 rfl rfl _
  (step f2 [f3,f4] 1 _ _ a2 b2 h2 rfl rfl _ (step f3 [f4] 2 _ _ a3 b3 h3 rfl rfl _ (step f4 [] 3 _ _ a4 b4 h4 rfl rfl _ (nil _ _))))
 rw[this,Result.andThen_ok]
 simp
section steps
variable {P:Program}{C:Ctx}{ops:Array Oper}{S:AS}{nd:Bool}{K:List Ac→AS→Prop}{rest:List Oper}{acc:List Ac}
variable {gd:Option (Nat×Bool)}{rg:List Nat}{d:Nat}{ty:TypeId}{pos:String}{aft:Array Edge}{x y z:Operand}{T U E0:TypeId}
theorem aax{M:Mem}{v:Value}{a b c d:Int}(h:(SV.agg [.v (.int .i64 a),.v (.int .i64 b),.v (.int .i64 c),.v (.int .i64 d)]).h M v):v=.agg #[.int .i64 a,.int .i64 b,.int .i64 c,.int .i64 d]:=by
 obtain⟨vs,rfl,h⟩:=h
 match vs,h with
 |[_,_,_,_],⟨h1,h2,h3,h4,_⟩=>
  have e1:_=_:=h1
  have e2:_=_:=h2
  have e3:_=_:=h3
  have e4:_=_:=h4
  rw[e1,e2,e3,e4]
theorem RT.Xk(hg:Gd ops S gd rg){I:TypeId}[tI:bY P I][t4:St4 P T I]{a1 a2 a3 a4 b1 b2 b3 b4:Int}{c:Bool}(hx:S.ev x=.sv (.agg [.v (.int .i64 a1),.v (.int .i64 a2),.v (.int .i64 a3),.v (.int .i64 a4)]))(hy:S.ev y=.sv (.agg [.v (.int .i64 b1),.v (.int .i64 b2),.v (.int .i64 b3),.v (.int .i64 b4)]))(hd:d<S.n)
  (hc:(!(a1==b1&&(a2==b2&&(a3==b3&&a4==b4))))=c)
  (next:RunT P C ops nd K rest (⟨rg++(ax x++ax y),[],[],⟨some (d,.sv (.v (.bool c))),[],[]⟩⟩::acc) (S.set d (.sv (.v (.bool c))))):RunT P C ops nd K (⟨some d,.binOp .neq T x y U,ty,pos,aft,gd⟩::rest) acc S:=
 RT.value hg (ax x++ax y) [] [] (.sv (.v (.bool c))) hd (by intro c h;cases h) (fun S' ht _ _ E a w h=>by
  have h1:=h.ev x
  rw[aN (fun _ h=>List.mem_append_left _ h) ht,hx]at h1
  have h2:=h.ev y
  rw[aN (fun _ h=>List.mem_append_right _ h) ht,hy]at h2
  refine⟨.bool c,?_,rfl,gB⟩
  have e:=Fw.Xk (P:=P) (T:=T) (I:=I) w a1 a2 a3 a4 b1 b2 b3 b4
  rw[hc]at e
  simp only[execOp,aax h1,aax h2,Sem.run_bind,run_eqGuard_agg w .neq T x y _ _ t4.hg,Result.andThen_ok,e]
  rfl) next
end steps
end Go.Fw
namespace Go.Fw
open Go.RowKit
def aay(olds:List Nat)(news:List (Nat×Row×Value)):List (Nat×ow):=olds.map (fun j=>(j,.dead))++news.map (fun n=>(n.1,.live n.2.1))
theorem J9{l:List (Nat×ow)}{j:Nat}{R:ow}(h:ek l j=some R):(j,R)∈l:=by
 induction l with
 |nil=>cases h
 |cons p l ih=>
  obtain⟨i,R'⟩:=p
  rw[ek]at h
  cases e:ek l j with
  |some R2=>rw[e]at h;cases h;exact List.mem_cons_of_mem _ (ih e)
  |none=>
   rw[e]at h
   by_cases q:j=i
   ·subst q;simp at h;subst h;simp
   ·simp[q]at h
theorem Pp{l:List (Nat×ow)}{j:Nat}{R:ow}(h:(j,R)∈l):∃R',ek l j=some R':=by
 induction l with
 |nil=>cases h
 |cons p l ih=>
  obtain⟨i,R'⟩:=p
  rw[ek]
  rcases List.mem_cons.1 h with e|e
  ·cases e
   cases q:ek l j with
   |some R2=>exact⟨R2,rfl⟩
   |none=>exact⟨R,by simp⟩
  ·obtain⟨R2,h2⟩:=ih e
   exact⟨R2,by rw[h2]⟩
section swap
variable {C:Ctx}{S:AS}
end swap
end Go.Fw
namespace Go.Fw
open Go.RowKit
inductive Oc where
 |s (x:SV)
 |r (R:Row)
def wN(M:Mem)(w:World):List Oc→List Value→Prop
 |[],[]=>True
 |.s x::l,v::vs=>x.h M v∧wN M w l vs
 |.r R::l,v::vs=>(∃us:List Value,w.ownsRow 0 R.E R.sz v R.n us∧SV.dK M R.cells us)∧wN M w l vs
 |_,_=>False
def rowsOf:List Oc→List Row
 |[]=>[]
 |.s _::l=>rowsOf l
 |.r R::l=>R::rowsOf l
def gO:List Oc→List Value→List (Row×Value)
 |.s _::l,_::vs=>gO l vs
 |.r R::l,v::vs=>(R,v)::gO l vs
 |_,_=>[]
def EI(c:List Oc)(us:List Value)(g:Nat):Prop:=∃p∈gO c us,p.2.ownBlock=some g
def pH:List Nat→List Oc→List AV
 |ids,.s x::l=>.sv x::pH ids l
 |i::ids,.r _::l=>.row i::pH ids l
 |[],.r _::l=>.sv .any::pH [] l
 |_,[]=>[]
def Ly(l:List (Row×Value)):Prop:=l.Pairwise fun p q=>∀g,p.2.ownBlock=some g→q.2.ownBlock≠some g
structure UN (M:Mem) (w:World) (β:Nat) (T:TypeId) (c:List Oc) (us:List Value):Prop where
 hp:w.heap[β]? =some (.cells ⟨us⟩ T (0,0))
 al:wN M w c us
 nb:∀o,M β o=none
 nr:∀g,EI c us g→g≠β∧∀o,M g o=none
 ap:Ly (gO c us)
theorem qF{M:Mem}{w:World}:∀{c:List Oc} {us:List Value},wN M w c us→(gO c us).map (·.1)=rowsOf c
 |[],[],_=>rfl
 |.s _::l,_::vs,h=>qF (c:=l) (us:=vs) h.2
 |.r R::l,v::vs,h=>congrArg (R:: ·) (qF (c:=l) (us:=vs) h.2)
 |[],_::_,h=>h.elim
 |.s _::_,[],h=>h.elim
 |.r _::_,[],h=>h.elim
theorem xy{M:Mem}{w:World}:∀{c:List Oc} {us:List Value},wN M w c us→∀p∈gO c us,∃vs:List Value,w.ownsRow 0 p.1.E p.1.sz p.2 p.1.n vs∧SV.dK M p.1.cells vs
 |[],[],_,p,hp=>by cases hp
 |.s _::l,_::vs,h,p,hp=>xy (c:=l) (us:=vs) h.2 p hp
 |.r R::l,v::vs,h,p,hp=>by
  rcases List.mem_cons.1 hp with rfl|hp
  ·exact h.1
  ·exact xy (c:=l) (us:=vs) h.2 p hp
 |[],_::_,h,_,_=>h.elim
 |.s _::_,[],h,_,_=>h.elim
 |.r _::_,[],h,_,_=>h.elim
theorem FR{α β:Type}:∀{l:List α} {k:List β} {a:α} {b:β},(a,b)∈l.zip k→a∈l∧b∈k
 |_::_,_::_,_,_,h=>by
  rw[List.zip_cons_cons]at h
  rcases List.mem_cons.1 h with e|e
  ·cases e;simp
  ·have:=FR e;exact⟨List.mem_cons_of_mem _ this.1,List.mem_cons_of_mem _ this.2⟩
 |[],_,_,_,h=>by simp at h
 |_::_,[],_,_,h=>by simp at h
def Lv(S:AS):List Nat→List Row→Prop
 |[],[]=>True
 |j::js,R::Rs=>S.r j=.live R∧Lv S js Rs
 |_,_=>False
theorem Lv.len{S:AS}:∀{js:List Nat} {Rs:List Row},Lv S js Rs→js.length=Rs.length
 |[],[],_=>rfl
 |_::_,_::_,h=>congrArg (· +1) (Lv.len h.2)
 |[],_::_,h=>h.elim
 |_::_,[],h=>h.elim
theorem Lv.mem{S:AS}:∀{js:List Nat} {Rs:List Row},Lv S js Rs→∀j∈js,∃R,S.r j=.live R
 |j::js,R::Rs,h,k,hk=>by
  rcases List.mem_cons.1 hk with rfl|hk
  ·exact⟨R,h.1⟩
  ·exact Lv.mem h.2 k hk
 |[],_,_,k,hk=>by cases hk
 |_::_,[],h,_,_=>h.elim
theorem CI{C:Ctx}{S:AS}{E:Env}{a:Act}{w:World}(h:aB C S E a w):∀{js:List Nat} {c:List Oc} {us:List Value},Lv S js (rowsOf c)→cQ E (pH js c) us→wN E.M w c us∧gO c us=(rowsOf c).zip (js.map E.ν)
 |[],[],[],_,_=>⟨trivial,rfl⟩
 |js,.s x::l,v::vs,hL,hv=>by
  have qb:cQ E (AV.sv x::pH js l) (v::vs):=by cases js<;>exact hv
  obtain⟨h1,h2⟩:=CI h (js:=js) (c:=l) (us:=vs) hL qb.2
  exact⟨⟨qb.1,h1⟩,h2⟩
 |j::js,.r R::l,v::vs,hL,hv=>by
  have hL:S.r j=.live R∧Lv S js (rowsOf l):=hL
  have qb:cQ E (AV.row j::pH js l) (v::vs):=hv
  obtain⟨h1,h2⟩:=CI h (js:=js) (c:=l) (us:=vs) hL.2 qb.2
  have e:v=E.ν j:=qb.1
  obtain⟨q1,_⟩:=h.rx j R hL.1
  rw[←e]at q1
  refine⟨⟨q1,h1⟩,?_⟩
  rw[gO,h2,e];rfl
 |[],.r _::_,_,hL,_=>hL.elim
 |_::_,[],_,hL,_=>hL.elim
 |[],[],_::_,_,hv=>by simp[pH]at hv;exact hv.elim
 |js,.s x::l,[],_,hv=>by
  have qb:cQ E (AV.sv x::pH js l) []:=by cases js<;>exact hv
  exact qb.elim
 |_::_,.r _::_,[],_,hv=>hv.elim
theorem AQ{α β:Type}:∀{l:List α} {k:List β} {b:β},l.length=k.length→b∈k→∃a,(a,b)∈l.zip k
 |a::l,c::k,b,h,hb=>by
  rcases List.mem_cons.1 hb with rfl|hb
  ·exact⟨a,by rw[List.zip_cons_cons];simp⟩
  ·obtain⟨a',h'⟩:=AQ (l:=l) (k:=k) (by simpa using h) hb
   exact⟨a',by rw[List.zip_cons_cons];exact List.mem_cons_of_mem _ h'⟩
 |[],[],_,_,hb=>by cases hb
 |[],_::_,_,h,_=>by simp at h
theorem Pq{C:Ctx}{S:AS}{E:Env}{a:Act}{w:World}(h:aB C S E a w){i:Nat}{T:TypeId}{js:List Nat}{c:List Oc}(hB:S.b i=some ⟨T,pH js c⟩)(hL:Lv S js (rowsOf c))(hn:js.Nodup):
  ∃us,UN E.M w (E.β i) T c us∧(∀g,EI c us g↔∃j∈js,(E.ν j).ownBlock=some g):=by
 obtain⟨_,q1,_,us,q2,q3⟩:=h.bx i _ hB
 obtain⟨p1,p2⟩:=CI h hL q3
 have hlen:=hL.len
 have Jr:∀g,EI c us g↔∃j∈js,(E.ν j).ownBlock=some g:=fun g=>by
  unfold EI
  rw[p2]
  constructor
  ·rintro⟨⟨R,v⟩,hm,hg⟩
   obtain⟨j,hj,rfl⟩:=List.mem_map.1 (FR hm).2
   exact⟨j,hj,hg⟩
  ·rintro⟨j,hj,hg⟩
   obtain⟨R,hR⟩:=AQ (l:=rowsOf c) (k:=js.map E.ν) (by simp[hlen]) (List.mem_map.2 ⟨j,hj,rfl⟩)
   exact⟨(R,E.ν j),hR,hg⟩
 refine⟨us,⟨q2,p1,q1,fun g hg=>?_,?_⟩,Jr⟩
 ·obtain⟨j,hj,Hh⟩:=(Jr g).1 hg
  obtain⟨R,hR⟩:=hL.mem j hj
  obtain⟨_,q4⟩:=h.rx j R hR
  obtain⟨_,q5,_,q6⟩:=q4 g Hh
  exact⟨fun e=>q6 i _ hB e.symm,q5⟩
 ·rw[p2]
  have key:∀(js:List Nat) (Rs:List Row),Lv S js Rs→js.Nodup→Ly (Rs.zip (js.map E.ν)):=by
   intro js
   induction js with
   |nil=>intro Rs hL _;cases Rs with|nil=>exact List.Pairwise.nil|cons _ _=>exact hL.elim
   |cons j js ih=>
    intro Rs hL hn
    cases Rs with
    |nil=>exact hL.elim
    |cons R Rs=>
     rw[List.nodup_cons]at hn
     rw[List.map_cons,List.zip_cons_cons]
     refine List.pairwise_cons.2 ⟨fun p hp g e1 e2=>?_,ih Rs hL.2 hn.2⟩
     obtain⟨R',v'⟩:=p
     obtain⟨j',hj',rfl⟩:=List.mem_map.1 (FR hp).2
     obtain⟨R2,hR2⟩:=hL.2.mem j' hj'
     have:=h.gA j j' R R2 hL.1 hR2 g e1 e2
     subst this;exact hn.1 hj'
  exact key js _ hL hn
end Go.Fw
namespace Go.Fw
open Go.RowKit
def Un(S:AS):List Nat→Prop
 |[]=>True
 |k::ks=>(S.r k=.un∧k<1000)∧Un S ks
theorem Un.mem{S:AS}:∀{ks:List Nat},Un S ks→∀k∈ks,S.r k=.un∧k<1000
 |k::ks,h,j,hj=>by
  rcases List.mem_cons.1 hj with rfl|hj
  ·exact h.1
  ·exact Un.mem h.2 j hj
 |[],_,j,hj=>by cases hj
theorem Un.congr{S S':AS}:∀{ks:List Nat},(∀k∈ks,S'.r k=S.r k)→Un S ks→Un S' ks
 |[],_,_=>trivial
 |k::ks,h,hu=>⟨by rw[h k (by simp)];exact hu.1,Un.congr (fun j hj=>h j (List.mem_cons_of_mem _ hj)) hu.2⟩
theorem Lv.congr{S S':AS}:∀{js:List Nat} {Rs:List Row},(∀k∈js,S'.r k=S.r k)→Lv S js Rs→Lv S' js Rs
 |[],[],_,_=>trivial
 |j::js,R::Rs,h,hl=>⟨by rw[h j (by simp)];exact hl.1,Lv.congr (fun k hk=>h k (List.mem_cons_of_mem _ hk)) hl.2⟩
 |[],_::_,_,h=>h.elim
 |_::_,[],_,h=>h.elim
def Nh(js ks:List Nat)(c:List Oc):List (Nat×ow):=js.map (fun j=>(j,ow.dead))++(ks.zip (rowsOf c)).map (fun p=>(p.1,.live p.2))
theorem Ic:∀(ks:List Nat) (l:List (Row×Value)),(ks.zip l).map (fun n=>(n.1,ow.live n.2.1))=(ks.zip (l.map (·.1))).map (fun p=>(p.1,.live p.2))
 |[],_=>rfl
 |_::_,[]=>rfl
 |k::ks,p::l=>by rw[List.map_cons,List.zip_cons_cons,List.zip_cons_cons,List.map_cons,List.map_cons,Ic ks l]
theorem Pr{M:Mem}{w:World}{c:List Oc}{us:List Value}(h:wN M w c us)(js ks:List Nat):aay js (ks.zip (gO c us))=Nh js ks c:=by
 unfold aay Nh
 rw[Ic,qF h]
section steps
variable {P:Program}{C:Ctx}{ops:Array Oper}{S:AS}{nd:Bool}{K:List Ac→AS→Prop}{rest:List Oper}{acc:List Ac}
variable {gd:Option (Nat×Bool)}{rg:List Nat}{d:Nat}{ty:TypeId}{pos:String}{aft:Array Edge}{x y z:Operand}{T U E0:TypeId}
class ajg (P:Program) (T:TypeId):Prop where
 u:P.underlying T=some (.pointer (P.pointee T))
def Fc.av:Fc→AV
 |.val s=>.sv s
 |.box i=>.ptr i 0
 |.row i=>.row i
theorem Ps{w:World}{M:Mem}{S':AS}{E:Env}{a:Act}{w':World}{k:Nat}{ks:List Nat}{c:List Oc}(hB:S'.b k=some ⟨T,pH ks c⟩)(hL:Lv S' ks (rowsOf c))(hk:ks.Nodup)(hh:aB (MN w M) S' E a w'):
  ∃us,M.le E.M∧(∀b o x,E.M b o=some x→M b o=some x∨w.heap.size≤b)∧E.M.dm w'∧UN E.M w' (E.β k) T c us∧w.heap.size≤E.β k∧(∀g,EI c us g→w.heap.size≤g)∧Below w.heap.size w w':=by
 obtain⟨us,ho,N7⟩:=Pq hh hB hL hk
 refine⟨us,hh.m0,fun b o x e=>?_,hh.dm,ho,(hh.bx k _ hB).1.elim id (fun h=>h.elim),fun g hg=>?_,hh.os,hh.tape,hh.output,hh.grown,fun k hk=>hh.frame k hk (fun h=>h)⟩
 ·rcases hh.fG b o x e with h|h|h
  ·exact .inl h
  ·exact .inr h
  ·exact h.elim
 ·obtain⟨j,hj,Hh⟩:=(N7 g).1 hg
  obtain⟨R,hR⟩:=hL.mem j hj
  exact((hh.rx j R hR).2 g Hh).1.elim id (fun h=>h.elim)
theorem aB.Lz{a:Act}{w:World}:∀(ks:List Nat) (l:List (Row×Value)) {S:AS} {E:Env},aB C S E a w→ks.length=l.length→ks.Nodup→Un S ks→(∀p∈l,∃vs:List Value,w.ownsRow 0 p.1.E p.1.sz p.2 p.1.n vs∧SV.dK E.M p.1.cells vs)→Ly l→(∀p∈l,∀g,p.2.ownBlock=some g→N4 C S E g)→
  ∃E':Env,E'.M=E.M∧E'.β=E.β∧E'.O=E.O∧(∀i p,(i,p)∈ks.zip l→E'.ν i=p.2)∧(∀i,i∉ks→E'.ν i=E.ν i)∧aB C (AS.bN ((ks.zip l).map (fun n=>(n.1,.live n.2.1))) S) E' a w
 |[],[],S,E,h,_,_,_,_,_,_=>⟨E,rfl,rfl,rfl,fun i p hm=>(by simp at hm),fun _ _=>rfl,h⟩
 |k::ks,p::l,S,E,h,hl,hn,hu,ho,ha,hf=>by
  obtain⟨R,v⟩:=p
  rw[List.nodup_cons]at hn
  obtain⟨ha1,ha2⟩:=List.pairwise_cons.1 ha
  obtain⟨vs,ho1,ho2⟩:=ho (R,v) (by simp)
  have h1:=h.Fe hu.1.1 hu.1.2 [] none (.inl ⟨rfl,rfl⟩) (R':=R) ho1 ho2 (fun g hg=>.inr (hf (R,v) (by simp) g hg)) (r7 w none)
  have hu':Un (AS.bN ([]++[(k,.live R)]) S) ks:=hu.2.congr (fun j hj=>by
   show(AS.rX S k _).r j=_
   exact AS.kJ _ _ _ _ (fun e=>hn.1 (e▸hj)))
  obtain⟨E',q1,q2,q3,q4,q5,q6⟩:=aB.Lz ks l h1 (by simpa using hl) hn.2 hu' (fun p hp=>ho p (List.mem_cons_of_mem _ hp)) ha2 (fun p hp g hg=>by
   obtain⟨f1,f2,f3,f4,f5⟩:=hf p (List.mem_cons_of_mem _ hp) g hg
   refine⟨f1,f2,f3,f4,fun j R' xZ e=>?_⟩
   have xZ:(AS.rX S k (.live R)).r j=.live R':=xZ
   by_cases ej:j=k
   ·subst ej
    have e:(if j=j then v else E.ν j).ownBlock=some g:=e
    rw[if_pos rfl]at e
    exact ha1 p hp g e hg
   ·rw[AS.kJ _ _ _ _ ej]at xZ
    have e:(if j=k then v else E.ν j).ownBlock=some g:=e
    rw[if_neg ej]at e
    exact f5 j R' xZ e)
  refine⟨E',q1,q2,q3,fun i p hm=>?_,fun i hi=>?_,q6⟩
  ·rw[List.zip_cons_cons]at hm
   rcases List.mem_cons.1 hm with e|e
   ·cases e
    rw[q5 k hn.1]
    show(if k=k then v else E.ν k)=v
    rw[if_pos rfl]
   ·exact q4 i p e
  ·rw[q5 i (fun hm=>hi (List.mem_cons_of_mem _ hm))]
   show(if i=k then v else E.ν i)=E.ν i
   rw[if_neg (fun e=>hi (by rw[e];simp))]
 |[],_::_,_,_,_,hl,_,_,_,_,_=>by simp at hl
 |_::_,[],_,_,_,hl,_,_,_,_,_=>by simp at hl
theorem AR{α β:Type}:∀{l:List α} {k:List β} {a:α},l.length=k.length→a∈l→∃b,(a,b)∈l.zip k
 |a::l,c::k,b,h,hb=>by
  rcases List.mem_cons.1 hb with rfl|hb
  ·exact⟨c,by rw[List.zip_cons_cons];simp⟩
  ·obtain⟨a',h'⟩:=AR (l:=l) (k:=k) (by simpa using h) hb
   exact⟨a',by rw[List.zip_cons_cons];exact List.mem_cons_of_mem _ h'⟩
 |[],_,_,_,hb=>by cases hb
 |_::_,[],_,h,_=>by simp at h
end steps
end Go.Fw
namespace Go.Fw
open Go.RowKit
def Bm:List Nat→List Oc→List Fc
 |ids,.s x::l=>.val x::Bm ids l
 |i::ids,.r _::l=>.row i::Bm ids l
 |[],.r _::l=>.val .any::Bm [] l
 |_,[]=>[]
theorem CJ{E:Env}{w:World}:∀{ids:List Nat} {c:List Oc} {us:List Value},ids.length=(rowsOf c).length→wN E.M w c us→(∀i p,(i,p)∈ids.zip (gO c us)→E.ν i=p.2)→vV E (Bm ids c) us
 |ids,[],[],_,_,_=>by cases ids<;>exact trivial
 |ids,.s x::l,v::vs,hl,h,hv=>by
  have ih:=CJ (E:=E) (w:=w) (ids:=ids) (c:=l) (us:=vs) hl h.2 hv
  cases ids<;>exact⟨h.1,ih⟩
 |i::ids,.r R::l,v::vs,hl,h,hv=>by
  refine⟨(hv i (R,v) (by rw[gO,List.zip_cons_cons];simp)).symm,CJ (w:=w) (ids:=ids) (c:=l) (us:=vs) (by simpa[rowsOf]using hl) h.2 (fun j p hm=>hv j p ?_)⟩
  rw[gO,List.zip_cons_cons];exact List.mem_cons_of_mem _ hm
 |[],.r R::l,_::_,hl,_,_=>by simp[rowsOf]at hl
 |_,[],_::_,_,h,_=>h.elim
 |_,.s _::_,[],_,h,_=>h.elim
 |_,.r _::_,[],_,h,_=>h.elim
theorem CK:∀{ids:List Nat} {c:List Oc},(∀j,¬Fc.box j∈Bm ids c)∧∀j,Fc.row j∈Bm ids c→j∈ids
 |ids,[]=>by cases ids<;>simp[Bm]
 |ids,.s y::l=>by
  have ih:=CK (ids:=ids) (c:=l)
  have e:Bm ids (.s y::l)=.val y::Bm ids l:=by cases ids<;>rfl
  rw[e]
  exact⟨fun j h=>by rcases List.mem_cons.1 h with h|h;cases h;exact ih.1 j h,fun j h=>by rcases List.mem_cons.1 h with h|h;cases h;exact ih.2 j h⟩
 |i::ids,.r R::l=>by
  have ih:=CK (ids:=ids) (c:=l)
  exact⟨fun j h=>by rcases List.mem_cons.1 h with h|h;cases h;exact ih.1 j h,fun j h=>by
   rcases List.mem_cons.1 h with h|h
   ·cases h;simp
   ·exact List.mem_cons_of_mem _ (ih.2 j h)⟩
 |[],.r R::l=>by
  have ih:=CK (ids:=[]) (c:=l)
  exact⟨fun j h=>by rcases List.mem_cons.1 h with h|h;cases h;exact ih.1 j h,fun j h=>by rcases List.mem_cons.1 h with h|h;cases h;exact ih.2 j h⟩
theorem z7{M:Mem}{w:World}:∀{c:List Oc} {us:List Value},wN M w c us→us.length=c.length
 |[],[],_=>rfl
 |.s _::l,_::vs,h=>congrArg (· +1) (z7 (c:=l) (us:=vs) h.2)
 |.r _::l,_::vs,h=>congrArg (· +1) (z7 (c:=l) (us:=vs) h.2)
 |[],_::_,h=>h.elim
 |.s _::_,[],h=>h.elim
 |.r _::_,[],h=>h.elim
section
variable {P:Program}
def Ka(P:Program)(f:FuncId)(args:List SV)(c:List Oc):Prop:=
 ∀(M:Mem) (w:World) (vs:List Value),M.dm w→SV.dK M args vs→
  Calls P f ⟨vs⟩ w fun e w'=>∃us M',e=.returned (.agg ⟨us⟩)∧M.le M'∧(∀b o x,M' b o=some x→M b o=some x∨w.heap.size≤b)∧M'.dm w'∧wN M' w' c us∧
   (∀g,EI c us g→w.heap.size≤g∧∀o,M' g o=none)∧Ly (gO c us)∧Below w.heap.size w w'
theorem Ka.w{f:FuncId}{args args':List SV}{c:List Oc}(h:Ka P f args c)(hi:bB args' args):Ka P f args' c:=fun M w vs hM hv=>h M w vs hM (hi.holds hv)
theorem CL{f:FuncId}{fn:Func}{code:Code}{args:List SV}{c:List Oc}{t n:Nat}{T:TypeId}[tA:jq P T n](hf:P.funcs[f]? =some fn)(hb:fn.body=some code)(hn:args.length≤fn.ntmps)(hres:fn.results=#[.cell t T])(vW:c.length=n)
  (h:∀(w:World) (M:Mem) (vs:List Value),SV.dK M args vs→Ok P (MN w M) code (AS.init fn.ntmps args) (fun e S=>(e=.normal∨e=.ret)∧∃(k:Nat) (ks:List Nat),S.t t=.ptr k 0∧S.b k=some ⟨T,pH ks c⟩∧Lv S ks (rowsOf c)∧ks.Nodup)):Ka P f args c:=by
 intro M w vs hM hvs
 refine kW rfl hf hb (o3 hM hvs hn) (h w M vs hvs) ?_
 rintro S' E a w' ⟨k,ks,Xl,hB,hL,hk⟩ hh
 have h1:=hh.tm t
 rw[Xl]at h1
 have h1:a.tmps.getD t undef=.pointer (some ⟨E.β k,0,none⟩):=h1
 obtain⟨us,q1,q2,q3,q4,q5,q6,q7⟩:=Ps hB hL hk hh
 refine⟨.agg ⟨us⟩,?_,us,E.M,rfl,q1,q2,q3,q4.al,fun g hg=>⟨q6 g hg,(q4.nr g hg).2⟩,q4.ap,q7⟩
 have hl:=z7 q4.al
 have hld:=kT (P:=P) (T:=T) (n:=n) (w:=w') (b:=E.β k) (o:=0) (vs:=us) (by omega) (fun j v e=>by simp[World.cell?,q4.hp];simpa using e)
 rw[Array.getD_eq_getD_getElem?]at h1
 simp[results,hres,h1,asAddr,hld]
end
section
variable {P:Program}{C:Ctx}{ops:Array Oper}{S:AS}{nd:Bool}{K:List Ac→AS→Prop}{rest:List Oper}{acc:List Ac}
variable {gd:Option (Nat×Bool)}{rg:List Nat}{d:Nat}{ty:TypeId}{pos:String}{aft:Array Edge}{x y z:Operand}{T U E0:TypeId}
theorem RT.Pt(hg:Gd ops S gd rg){f:FuncId}[bQ P f]{g:Operand}{xs:Array Operand}{at_:Array TypeId}{args:List SV}{c:List Oc}(hp:Ka P f args c)(ks:List Nat)(hks:ks.Nodup)(Li:ks.length=(rowsOf c).length)(hku:Un S ks)(hf:S.ev g=.sv (.v (.func (.func f) #[] #[])))(hargs:kU S xs.toList args)(hd:d<S.n)
  (next:RunT P C ops nd K rest (⟨rg++(ax g++xs.toList.flatMap ax),[],ks,⟨some (d,.cmp .agg (Bm ks c)),[],Nh [] ks c⟩⟩::acc) ((AS.bN (Nh [] ks c) S).set d (.cmp .agg (Bm ks c)))):RunT P C ops nd K (⟨some d,.call ⟨.value g,xs,at_⟩,ty,pos,aft,gd⟩::rest) acc S:=by
 refine .inl ⟨_,[],ks,_,?_,next⟩
 rintro S' hn ht hb hr i a w L Q ho ⟨E,h⟩ hL
 refine cA (C:=C) ho (hg.wanted h (fun s hs=>ht s (List.mem_append_left _ hs)) rfl) ?_
 have JA:a.eval g=.func (.func f) #[] ⟨[]⟩:=by
  have h1:=h.ev g;rw[aN (fun _ h=>List.mem_append_right _ (List.mem_append_left _ h)) ht,hf]at h1;exact h1
 have hall:=kU.vals h hargs (fun s hs=>ht s (List.mem_append_right _ (List.mem_append_right _ hs)))
 refine cC (C:=C) (by intro c h;cases h) (tZ JA) ?_
 rw[List.append_nil]
 refine⟨fun h=>by simp at h,oY ((hp E.M w _ h.dm hall).mono ?_)⟩
 rintro e w' ⟨us,M',rfl,hM,hnew,hin,hal,hgb,hap,hbl⟩
 have hrv:(gO c us).length=(rowsOf c).length:=by rw[←qF hal,List.length_map]
 obtain⟨E1,q1,q2,q3,q4,q5,h1⟩:=aB.Lz ks (gO c us) (h.grow hM hnew hin hbl) (by omega) hks (hku.congr hr) (xy hal) hap (fun p hp g Jo=>h.Fk (hgb g ⟨p,hp,Jo⟩).1 (hgb g ⟨p,hp,Jo⟩).2)
 have hS1:AS.bN ((ks.zip (gO c us)).map (fun n=>(n.1,.live n.2.1))) S'=AS.bN (Nh [] ks c) S':=by rw[←Pr hal [] ks];rfl
 rw[hS1]at h1
 refine hL _ _ ⟨_,h1.put (x:=.cmp .agg (Bm ks c)) (v:=.agg ⟨us⟩) ⟨us,rfl,CJ (w:=w') Li (by rw[q1];exact hal) q4⟩ ?_ ⟨fun j e=>(CK.1 j e).elim,fun j e=>?_⟩⟩
 ·rw[(jg _ _).1];show d<S'.n;omega
 ·have hj:=CK.2 j e
  obtain⟨R,hm⟩:=AR (l:=ks) (k:=rowsOf c) Li hj
  obtain⟨R',xZ⟩:=Pp (l:=Nh [] ks c) (j:=j) (R:=.live R) (List.mem_map.2 ⟨(j,R),hm,rfl⟩)
  rw[oE,xZ]
  obtain⟨x,hx,e⟩:=List.mem_map.1 (show(j,R')∈(ks.zip (rowsOf c)).map (fun p=>(p.1,ow.live p.2))from J9 xZ)
  rw[←show ow.live x.2=R' from congrArg Prod.snd e]
  simp
def Ie(S:AS):List Fc→Prop
 |[]=>True
 |.val s::l=>(∀M v,s.h M v→v.oneCell'=true)∧Ie S l
 |.row i::l=>(∃R,S.r i=.live R)∧Ie S l
 |.box _::l=>Ie S l
def pI:List Fc→List Nat
 |[]=>[]
 |.row i::l=>i::pI l
 |.val _::l=>pI l
 |.box _::l=>pI l
theorem yJ{S':AS}{E:Env}{a:Act}{w:World}(h:aB C S' E a w):∀{js:List Fc} {us:List Value},Ie S js→(∀i∈pI js,S'.r i=S.r i)→vV E js us→cQ E (js.map Fc.av) us∧∀u∈us,u.oneCell'=true
 |[],[],_,_,_=>⟨trivial,by simp⟩
 |.val s::l,u::us,ho,hr,ha=>by
  obtain⟨i1,i2⟩:=yJ h (js:=l) (us:=us) ho.2 hr ha.2
  exact⟨⟨ha.1,i1⟩,fun v hv=>by rcases List.mem_cons.1 hv with rfl|hv;exact ho.1 _ _ ha.1;exact i2 v hv⟩
 |.row i::l,u::us,ho,hr,ha=>by
  obtain⟨i1,i2⟩:=yJ h (js:=l) (us:=us) ho.2 (fun j hj=>hr j (List.mem_cons_of_mem _ hj)) ha.2
  obtain⟨R,hR⟩:=ho.1
  obtain⟨⟨ws,hw,_⟩,_⟩:=h.rx i R (by rw[hr i (by simp[pI])];exact hR)
  have hu:u=E.ν i:=ha.1
  refine⟨⟨hu,i1⟩,fun v hv=>?_⟩
  rcases List.mem_cons.1 hv with rfl|hv
  ·rw[hu]
   rcases hw.2 with⟨h3,_⟩|⟨g,cap,cur,h3,_⟩<;>rw[h3]<;>rfl
  ·exact i2 v hv
 |.box i::l,u::us,ho,hr,ha=>by
  obtain⟨i1,i2⟩:=yJ h (js:=l) (us:=us) ho hr ha.2
  have hu:u=.pointer (some ⟨E.β i,0,none⟩):=ha.1
  exact⟨⟨hu,i1⟩,fun v hv=>by rcases List.mem_cons.1 hv with rfl|hv;rw[hu];rfl;exact i2 v hv⟩
 |[],_::_,_,_,ha=>ha.elim
 |_::_,[],_,_,ha=>ha.elim
theorem RT.FU(hg:Gd ops S gd rg){n:Nat}[tA:jq P T n]{j:Nat}{B:pZ}{js:List Fc}(hx:S.ev x=.ptr j 0)(hB:S.b j=some B)(hy:S.ev y=.cmp .agg js)(hok:Ie S js)(vW:js.length=n)(hn:B.cells.length=n)(rr:List Nat)(Jy:pI js=rr)(cells:List AV)(hc:js.map Fc.av=cells)
  (next:RunT P C ops nd K rest (⟨rg++(ax x++ax y),[j],rr,⟨none,[(j,⟨B.T,cells⟩)],[]⟩⟩::acc) (S.mJ j ⟨B.T,cells⟩)):RunT P C ops nd K (⟨none,.store T x y,ty,pos,aft,gd⟩::rest) acc S:=by
 subst hc
 refine RT.E9 hg rr hx hB (cs:=js.map Fc.av) ?_ (fun w=>tA.size w) (by simp[vW]) (by omega) (cells:=js.map Fc.av) (zE (js.map Fc.av) [] B.cells (by simp;omega)) next
 intro S' E a w h e hr
 have h2:=h.ev y
 rw[e,hy]at h2
 obtain⟨us,hu,hall⟩:=h2
 have hu:a.eval y=.agg ⟨us⟩:=hu
 obtain⟨k1,k2⟩:=yJ h hok (by rw[Jy];exact hr) hall
 refine⟨us,by rw[hu];rfl,k1,k2,fun z hz=>?_⟩
 obtain⟨l1,l2⟩:=nf h.wf (e.trans hy)
 obtain⟨q,hq,rfl⟩:=List.mem_map.1 hz
 cases q with
 |val s=>exact gB
 |box k=>exact⟨fun i e=>l1 i (by have e:i=k:=e;subst e;exact hq),fun i e=>e.elim⟩
 |row k=>exact⟨fun i e=>e.elim,fun i e=>l2 i (by have e:i=k:=e;subst e;exact hq)⟩
inductive xz (S:AS):List (Nat×Operand)→List (Nat×Fc)→Prop
 |nil:xz S [] []
 |one {i:Nat} {x:Operand} {s:SV} {ps:List (Nat×Operand)} {qs:List (Nat×Fc)} [o:One s] (h:S.ev x=.sv s) (t:xz S ps qs):xz S ((i,x)::ps) ((i,.val s)::qs)
 |row {i j:Nat} {x:Operand} {R:Row} {ps:List (Nat×Operand)} {qs:List (Nat×Fc)} (h:S.ev x=.row j) (hR:S.r j=.live R) (t:xz S ps qs):xz S ((i,x)::ps) ((i,.row j)::qs)
def sgE(E:Env):Fc→SV
 |.val s=>s
 |.row j=>.v (E.ν j)
 |.box _=>.any
def AV.rK(E:Env):AV→AV
 |.row i=>.sv (.v (E.ν i))
 |x=>x
def AS.rK(S:AS)(E:Env):AS:={S with t:=fun s=>(S.t s).rK E}
theorem z8{E:Env}(x:AV):(∀v,x.holds E v→(x.rK E).holds E v)∧(∀j,(x.rK E).mb j→x.mb j)∧∀j,(x.rK E).mr j→x.mr j:=by
 cases x with
 |row i=>exact⟨fun v hv=>hv,fun j hj=>False.elim hj,fun j hj=>False.elim hj⟩
 |_=>exact⟨fun v hv=>hv,fun j hj=>hj,fun j hj=>hj⟩
theorem aB.rK{E:Env}{a:Act}{w:World}(h:aB C S E a w):aB C (S.rK E) E a w:={h with
  wf:=⟨fun s j hj=>h.wf.tb s j ((z8 (S.t s)).2.1 j hj),fun s j hj=>h.wf.tr s j ((z8 (S.t s)).2.2 j hj),h.wf.bb,h.wf.br⟩
  tm:=fun s=>(z8 (S.t s)).1 _ (h.tm s)}
theorem Pu{E:Env}{s:SV}(h:S.ev x=.sv s):(S.rK E).ev x=.sv s:=by
 cases x with
 |tmp t=>
  have h:S.t t=.sv s:=h
  show(S.t t).rK E=_
  rw[h];rfl
 |_=>exact h
theorem Ni{E:Env}{j:Nat}(h:S.ev x=.row j):(S.rK E).ev x=.sv (.v (E.ν j)):=by
 cases x with
 |tmp t=>
  have h:S.t t=.row j:=h
  show(S.t t).rK E=_
  rw[h];rfl
 |_=>cases h
theorem FV{S':AS}{E:Env}{a:Act}{w:World}(h:aB C S' E a w){ps:List (Nat×Operand)}{qs:List (Nat×Fc)}(hp:xz S ps qs)(ht:∀s∈gW ps,S'.t s=S.t s)(hr:∀q∈qs,∀j,q.2=.row j→S'.r j=S.r j):mQ (S'.rK E) ps (qs.map fun q=>(q.1,[sgE E q.2])):=by
 induction hp with
 |nil=>exact .nil
 | @one i x s ps qs o hx _ ih=>
  have hx':S'.ev x=.sv s:=by rw[aN (rs:=gW ((i,x)::ps)) (fun s hs=>by simp only[gW,List.flatMap_cons];exact List.mem_append_left _ hs) ht];exact hx
  exact mQ.one (s:=s) (Pu hx') (ih (fun s hs=>ht s (by simp only[gW,List.flatMap_cons];exact List.mem_append_right _ hs)) (fun q hq=>hr q (List.mem_cons_of_mem _ hq)))
 | @row i j x R ps qs hx hR _ ih=>
  have hx':S'.ev x=.row j:=by rw[aN (rs:=gW ((i,x)::ps)) (fun s hs=>by simp only[gW,List.flatMap_cons];exact List.mem_append_left _ hs) ht];exact hx
  obtain⟨⟨ws,hw,_⟩,_⟩:=h.rx j R (by rw[hr (i,.row j) (by simp) j rfl];exact hR)
  have o:One (.v (E.ν j)):=⟨fun M v hv=>by
   have hv:v=E.ν j:=hv
   rw[hv]
   rcases hw.2 with⟨h3,_⟩|⟨g,cap,cur,h3,_⟩<;>rw[h3]<;>rfl⟩
  exact mQ.one (s:=.v (E.ν j)) (Ni hx') (ih (fun s hs=>ht s (by simp only[gW,List.flatMap_cons];exact List.mem_append_right _ hs)) (fun q hq=>hr q (List.mem_cons_of_mem _ hq)))
theorem FW{E:Env}:∀{js:List Fc} {us:List Value},(∀j,Fc.box j∉js)→SV.dK E.M (js.map (sgE E)) us→vV E js us
 |[],[],_,_=>trivial
 |.val s::l,u::us,hb,h=>⟨h.1,FW (fun j hj=>hb j (List.mem_cons_of_mem _ hj)) h.2⟩
 |.row i::l,u::us,hb,h=>⟨h.1,FW (fun j hj=>hb j (List.mem_cons_of_mem _ hj)) h.2⟩
 |.box i::l,_,hb,_=>(hb i (by simp)).elim
 |[],_::_,_,h=>h.elim
 |.val _::_,[],_,h=>h.elim
 |.row _::_,[],_,h=>h.elim
def Ig:List Fc→Bool
 |[]=>true
 |.box _::_=>false
 |.val _::l=>Ig l
 |.row _::l=>Ig l
theorem yK:∀{js:List Fc},Ig js=true→∀j,Fc.box j∉js
 |[],_,j,h=>by cases h
 |.box _::_,h,_,_=>by cases h
 |.val _::l,h,j,hj=>by rcases List.mem_cons.1 hj with e|e;cases e;exact yK (js:=l) h j e
 |.row _::l,h,j,hj=>by rcases List.mem_cons.1 hj with e|e;cases e;exact yK (js:=l) h j e
theorem rL:∀{js:List Fc} {j:Nat},Fc.row j∈js→j∈pI js
 |.box _::l,j,h=>by rcases List.mem_cons.1 h with e|e;cases e;exact rL (js:=l) e
 |.val _::l,j,h=>by rcases List.mem_cons.1 h with e|e;cases e;exact rL (js:=l) e
 |.row i::l,j,h=>by
  rcases List.mem_cons.1 h with e|e
  ·cases e;simp[pI]
  ·exact List.mem_cons_of_mem _ (rL (js:=l) e)
theorem rM:∀{js:List Fc} {j:Nat},Ie S js→Fc.row j∈js→∃R,S.r j=.live R
 |.box _::l,j,ho,h=>by rcases List.mem_cons.1 h with e|e;cases e;exact rM (js:=l) ho e
 |.val _::l,j,ho,h=>by rcases List.mem_cons.1 h with e|e;cases e;exact rM (js:=l) ho.2 e
 |.row i::l,j,ho,h=>by
  rcases List.mem_cons.1 h with e|e
  ·cases e;exact ho.1
  ·exact rM (js:=l) ho.2 e
theorem RT.Xm(hg:Gd ops S gd rg){pl:List (Nat×Nat)}{zc:List Value}[tP:bU P T pl zc]{parts:Array (Nat×Operand)}{qs:List (Nat×Fc)}(hp:xz S parts.toList qs)(js:List Fc)(hf:∀E:Env,tX (fun i=>pl[i]?) (zc.map SV.v) (qs.map fun q=>(q.1,[sgE E q.2]))=some (js.map (sgE E)))(hnb:Ig js=true)(hok:Ie S js)(rr:List Nat)(Jy:pI js=rr)(hqr:pI (qs.map (·.2))=rr)(hd:d<S.n)
  (next:RunT P C ops nd K rest (⟨rg++gW parts.toList,[],rr,⟨some (d,.cmp .agg js),[],[]⟩⟩::acc) (S.set d (.cmp .agg js))):RunT P C ops nd K (⟨some d,.build T parts,ty,pos,aft,gd⟩::rest) acc S:=
 RT.value hg (gW parts.toList) [] rr (.cmp .agg js) hd (by intro c h;cases h) (fun S' ht _ hr E a w h=>by
  have hu:=tP.h
  cases hT:P.underlying T with
  |none=>rw[hT]at hu;cases hu
  |some u=>
   rw[hT]at hu
   cases u with
   |struct fs=>
    simp only at hu
    have hz:(zeroValue T).run P w=.ok (.agg ⟨zc⟩) w:=ay.run (t:=⟨tP.hz⟩) w
    have Xn:=FV h hp ht (fun q hq j e=>hr j (by rw[←hqr];exact rL (List.mem_map.2 ⟨q,hq,e⟩)))
    obtain⟨us,h1,h2,_⟩:=yc h.rK (fun i=>pl[i]?) Xn (fun s _=>rfl) (cells:=zc.map SV.v) (vs:=zc) (by
     have:∀l:List Value,SV.dK E.M (l.map SV.v) l:=by
      intro l;induction l with
      |nil=>trivial
      |cons v l ih=>exact⟨rfl,ih⟩
     exact this zc) (List.all_eq_true.1 tP.o) (hf E)
    refine⟨.agg ⟨us⟩,?_,⟨us,rfl,FW (yK hnb) h2⟩,fun j e=>(yK hnb j e).elim,fun j e=>?_⟩
    ·have hm:(fs.mapM (fun f=>do pure (f.offset,←sizeOf f.type):Field→Sem (Nat×Nat))).run P w=.ok pl.toArray w:=by
      have:=qk (P:=P) (w:=w) hu
      rw[←Array.toArray_toList (xs:=fs),List.mapM_toArray]
      rw[Sem.run_map,this];rfl
     have h1':Instr.fill (fun i=>pl.toArray[i]?) ⟨zc⟩ (parts.toList.map fun p=>(p.1,a.eval p.2))=some ⟨us⟩:=by simpa using h1
     simp only[execOp,Instr.build,underlying]
     simp only[Sem.run_bind,hz,Result.andThen_ok,run_program,hT,Sem.run_pure,Value.cells]
     have hm':(Array.mapM (fun f=>do
       let __do_lift←sizeOf f.type
       pure (f.offset,__do_lift)) fs:Sem _).run P w=.ok pl.toArray w:=hm
     simp only[hm',Result.andThen_ok]
     have e4:(Array.map (fun x=>match x with|(i,x)=>(i,a.eval x)) parts).toList=parts.toList.map fun p=>(p.1,a.eval p.2):=by simp
     simp only[e4,h1',Sem.run_pure,Result.andThen_ok]
    ·obtain⟨R,hR⟩:=rM hok e
     rw[hr j (by rw[←Jy];exact rL e),hR];simp
   |_=>cases hu) next
theorem FX{E:Env}:∀{js:List Fc} {us:List Value},cQ E (js.map Fc.av) us→vV E js us
 |[],[],_=>trivial
 |.val _::l,_::us,h=>⟨h.1,FX (js:=l) (us:=us) h.2⟩
 |.box _::l,_::us,h=>⟨h.1,FX (js:=l) (us:=us) h.2⟩
 |.row _::l,_::us,h=>⟨h.1,FX (js:=l) (us:=us) h.2⟩
 |[],_::_,h=>h.elim
 |.val _::_,[],h=>h.elim
 |.box _::_,[],h=>h.elim
 |.row _::_,[],h=>h.elim
theorem Ih{E:Env}:∀{l:List AV} {us:List Value},cQ E l us→us.length=l.length
 |[],[],_=>rfl
 |_::l,_::us,h=>congrArg (· +1) (Ih (l:=l) (us:=us) h.2)
 |[],_::_,h=>h.elim
 |_::_,[],h=>h.elim
theorem RT.aaA(hg:Gd ops S gd rg){n:Nat}[tA:jq P T n]{j:Nat}{B:pZ}(js:List Fc)(hx:S.ev x=.ptr j 0)(hB:S.b j=some B)(hc:js.map Fc.av=B.cells)(hl:js.length=n)(hnb:Ig js=true)(hok:Ie S js)(rr:List Nat)(Jy:pI js=rr)(hd:d<S.n)
  (next:RunT P C ops nd K rest (⟨rg++ax x,[j],rr,⟨some (d,.cmp .agg js),[],[]⟩⟩::acc) (S.set d (.cmp .agg js))):RunT P C ops nd K (⟨some d,.load T x,ty,pos,aft,gd⟩::rest) acc S:=
 RT.value hg (ax x) [j] rr (.cmp .agg js) hd (by intro c h;cases h) (fun S' ht hb hr E a w h=>by
  have h1:=h.ev x
  rw[aN (fun _ h=>h) ht,hx]at h1
  have h1:a.eval x=.pointer (some ⟨E.β j,0,none⟩):=h1
  obtain⟨_,_,_,vs,hv,hall⟩:=h.bx j B (by rw[hb j (by simp)];exact hB)
  rw[←hc]at hall
  have hvl:=Ih hall
  rw[List.length_map]at hvl
  have hld:=kT (P:=P) (T:=T) (n:=n) (w:=w) (b:=E.β j) (o:=0) (vs:=vs) (by omega) (fun i v e=>by simp[World.cell?,hv];simpa using e)
  refine⟨.agg ⟨vs⟩,by simp[execOp,h1,Instr.loadAt,Instr.sureAddr,hld],⟨vs,rfl,FX hall⟩,fun j e=>(yK hnb j e).elim,fun j e=>?_⟩
  obtain⟨R,hR⟩:=rM hok e
  rw[hr j (by rw[←Jy];exact rL e),hR];simp) next
end
end Go.Fw
namespace Go.Proofs.YtfoldppidpmchaaGreat
open Go.Fw
noncomputable def iI(x0:Lr):Option (Sz):=match x0 with|⟨az,aA,aE,aF⟩=>(some (aA.length:Int)).bind fun x7=>(some (aE.length:Int)).bind fun cn=>(some (aF.length:Int)).bind fun fR=>some ⟨az,x7,cn,fR⟩
noncomputable def iJ(x0:Lr):Option (Bool):=match x0 with|⟨az,aA,aE,aF⟩=>(iI ⟨az,aA,aE,aF⟩).bind fun⟨v8,yD,z6,Bg⟩=>bD (fun(Pv:Bool)=>(bif Pv then some false else bD (fun(Kb:Bool)=>(bif Kb then some false else bD (fun(UO:Bool)=>some UO) fun Z7=>(m6 aA).bind fun qm=>(some (decide ((qm:Int)≤v8))).bind fun nB=>(bif nB then(m6 aE).bind fun zQ=>(some (decide ((zQ:Int)≤v8))).bind fun q9=>some q9 else some false).bind fun Pw=>Z7 Pw)) fun Ce=>(some (decide ((128:Int)<z6))).bind fun gJ=>(bif gJ then some true else(some (decide ((Bg:Int)≠z6))).bind fun fI=>some fI).bind fun Px=>Ce Px)) fun YZ=>(some (decide ((v8:Int)<0))).bind fun x8=>(bif x8 then some true else(some (decide ((64:Int)<v8))).bind fun bV=>some bV).bind fun Py=>(bif Py then some true else(some (decide ((yD:Int)<1))).bind fun cX=>some cX).bind fun Xo=>(bif Xo then some true else(some (decide ((4:Int)<yD))).bind fun fu=>some fu).bind fun Xp=>YZ Xp
noncomputable def iX(x0:Lr)(x1:List Qr):Option (Bool):=match x0 with|⟨az,aA,aE,aF⟩=>bD (fun(CM:Bool)=>(bif CM then some false else(some (x1.length:Int)).bind fun eH=>(bk (fun(LA:Int)=>(show Option ((Int)⊕((Unit)⊕(Bool)))from(some (decide ((LA:Int)<eH))).bind fun fy=>(bif fy then(bR x1 LA).bind fun⟨⟨qy,qA⟩,⟨uS,uT⟩⟩=>(jE ⟨⟨qy,qA⟩,⟨uS,uT⟩⟩).bind fun fF=>(some (decide ((fF:Int)<0))).bind fun jr=>(bif jr then some (.inr (.inr false))else(some (IntKind.i64.wrap (LA+1))).bind fun fQ=>some (.inl fQ))else some (.inr (.inl ()))))) 0).bind fun e9=>match e9 with|.inr v9=>some v9|.inl _=>(n9 (fun(k:Nat) (xT:Unit)=>(show Option ((Unit)⊕(Bool))from(some ((Lr.rows ⟨az,aA,aE,aF⟩).getD k [])).bind fun p32=>(some ((Lr.bounds ⟨az,aA,aE,aF⟩).getD k (⟨⟨false,[]⟩,⟨false,[]⟩⟩:Qr))).bind fun⟨⟨UP,UQ⟩,⟨UR,US⟩⟩=>(iW p32 x1).bind fun⟨⟨um,uo⟩,⟨HU,HV⟩⟩=>(jF ⟨⟨um,uo⟩,⟨HU,HV⟩⟩ ⟨⟨UP,UQ⟩,⟨UR,US⟩⟩).bind fun wH=>(some (decide ((wH:Int)=1))).bind fun nA=>(bif nA then some (.inr false)else some (.inl ())))) ((Lr.rows ⟨az,aA,aE,aF⟩).length) ()).bind fun Lw=>match Lw with|.inr v12=>some v12|.inl _=>some true)) fun K3=>(iJ ⟨az,aA,aE,aF⟩).bind fun eE=>(some (!eE)).bind fun bV=>(bif bV then some true else(some (x1.length:Int)).bind fun cE=>(some (decide ((az:Int)<cE))).bind fun c6=>some c6).bind fun Pz=>K3 Pz
noncomputable def ku(x0:Lr)(x1:List Qr):Option (List Qr):=match x0 with|⟨az,aA,aE,aF⟩=>(l7 aA x1).bind fun x8=>some x8
noncomputable def pJ(x0:Lr)(x1:List Qr):Option (List Qr):=match x0 with|⟨az,aA,aE,aF⟩=>(qP (fun(k:Nat) (z9:(List Qr))=>(show Option ((List Qr))from(some ((Lr.rows ⟨az,aA,aE,aF⟩).getD k [])).bind fun Wm=>(some ((Lr.bounds ⟨az,aA,aE,aF⟩).getD k (⟨⟨false,[]⟩,⟨false,[]⟩⟩:Qr))).bind fun⟨⟨HZ,H6⟩,⟨H7,H8⟩⟩=>(iW Wm x1).bind fun⟨⟨iq,ir⟩,⟨uQ,uR⟩⟩=>(pD ⟨⟨HZ,H6⟩,⟨H7,H8⟩⟩ ⟨⟨iq,ir⟩,⟨uQ,uR⟩⟩).bind fun⟨⟨nH,nI⟩,⟨tv,tw⟩⟩=>(mH 64 z9 [⟨⟨nH,nI⟩,⟨tv,tw⟩⟩]).bind fun iC=>some iC)) ((Lr.rows ⟨az,aA,aE,aF⟩).length) []).bind fun z9=>some z9
noncomputable def jV(x0:Lr):Option (Lr×Int):=match x0 with|⟨az,aA,aE,aF⟩=>bD (fun(PA:Bool)=>(bif PA then some (⟨0,[],[],[]⟩,1)else(some (aE.length:Int)).bind fun fF=>(cu (-1)).bind fun⟨⟨CN,Ii⟩,⟨Ij,Ik⟩⟩=>(fZ ⟨⟨CN,Ii⟩,⟨Ij,Ik⟩⟩ aF).bind fun lI=>(bk (fun(Xq:Int×(List (List Qr))×(List Qr))=>match Xq with|⟨sF,vD,vE⟩=>(show Option ((Int×(List (List Qr))×(List Qr))⊕((List (List Qr))×(List Qr)))from(some (decide ((sF:Int)<az))).bind fun nB=>(bif nB then(Ep 64 fF (⟨⟨false,[]⟩,⟨false,[]⟩⟩:Qr)).bind fun rV=>(some (rV.length:Int)).bind fun yu=>(bk (fun(Y0:Int×(List Qr))=>match Y0 with|⟨CO,CP⟩=>(show Option ((Int×(List Qr))⊕((List Qr)))from(some (decide ((CO:Int)<yu))).bind fun q9=>(bif q9 then(rJ aE CO sF).bind fun⟨⟨UT,UU⟩,⟨UW,UX⟩⟩=>(iH ⟨⟨UT,UU⟩,⟨UW,UX⟩⟩).bind fun⟨⟨PB,PC⟩,⟨PD,PE⟩⟩=>(wC CP CO).bind fun Uc=>(stM CP Uc ⟨⟨PB,PC⟩,⟨PD,PE⟩⟩).bind fun l36=>(some (IntKind.i64.wrap (CO+1))).bind fun NO=>some (.inl (NO,l36))else some (.inr CP)))) (0,rV)).bind fun sG=>(mH 24 vD [sG]).bind fun SB=>(rJ aA 0 sF).bind fun⟨⟨UY,UZ⟩,⟨U0,U1⟩⟩=>(iH ⟨⟨UY,UZ⟩,⟨U0,U1⟩⟩).bind fun⟨⟨LB,LC⟩,⟨LD,LF⟩⟩=>(mH 64 vE [⟨⟨LB,LC⟩,⟨LD,LF⟩⟩]).bind fun OT=>(some (IntKind.i64.wrap (sF+1))).bind fun St=>some (.inl (St,SB,OT))else some (.inr (vD,vE))))) (0,[],[])).bind fun e26=>match e26 with|⟨FY,FZ⟩=>some (⟨fF,[lI],FY,FZ⟩,0))) fun K6=>(iJ ⟨az,aA,aE,aF⟩).bind fun eE=>(some (!eE)).bind fun bV=>(bif bV then some true else(some (aE.length:Int)).bind fun dz=>(some (decide ((64:Int)<dz))).bind fun cX=>some cX).bind fun PF=>(bif PF then some true else(some (decide ((128:Int)<az))).bind fun fu=>some fu).bind fun Xr=>K6 Xr
noncomputable def nO(x0:Lr):Option (Lr):=match x0 with|⟨az,aA,aE,aF⟩=>(cu 1).bind fun⟨⟨nL,nM⟩,⟨F0,F1⟩⟩=>(jG ⟨⟨nL,nM⟩,⟨F0,F1⟩⟩ aA).bind fun cn=>(jG ⟨⟨nL,nM⟩,⟨F0,F1⟩⟩ aE).bind fun cG=>(fZ ⟨⟨nL,nM⟩,⟨F0,F1⟩⟩ aF).bind fun c6=>some ⟨az,cn,cG,c6⟩
noncomputable def cf(x0:Lr)(x1:Int):Option (Lr×Int):=match x0 with|⟨az,aA,aE,aF⟩=>bD (fun(PG:Bool)=>(bif PG then some (⟨0,[],[],[]⟩,1)else(some (IntKind.i64.wrap (x1+1))).bind fun gC=>(vX aA x1 gC).bind fun gJ=>(nO ⟨az,gJ,aE,aF⟩).bind fun⟨Il,Im,Io,Ip⟩=>some (⟨Il,Im,Io,Ip⟩,0))) fun K6=>(iJ ⟨az,aA,aE,aF⟩).bind fun x7=>(some (!x7)).bind fun x8=>(bif x8 then some true else(some (decide ((x1:Int)<0))).bind fun eE=>some eE).bind fun U3=>(bif U3 then some true else(some (aA.length:Int)).bind fun cX=>(some (decide ((cX:Int)≤x1))).bind fun c6=>some c6).bind fun F2=>K6 F2
noncomputable def oJ(x0:Qr)(x1:List Qr):Option (List Qr):=match x0 with|⟨⟨az,aA⟩,⟨aE,aF⟩⟩=>(some (x1.length:Int)).bind fun x9=>(Ep 64 x9 (⟨⟨false,[]⟩,⟨false,[]⟩⟩:Qr)).bind fun cn=>(some (x1.length:Int)).bind fun bV=>(bk (fun(s8:Int×(List Qr))=>match s8 with|⟨ga,gb⟩=>(show Option ((Int×(List Qr))⊕((List Qr)))from(some (decide ((ga:Int)<bV))).bind fun cG=>(bif cG then(bR x1 ga).bind fun⟨⟨iq,ir⟩,⟨uQ,uR⟩⟩=>(kO ⟨⟨az,aA⟩,⟨aE,aF⟩⟩ ⟨⟨iq,ir⟩,⟨uQ,uR⟩⟩).bind fun⟨⟨k8,lf⟩,⟨lj,lp⟩⟩=>(wC gb ga).bind fun fy=>(stM gb fy ⟨⟨k8,lf⟩,⟨lj,lp⟩⟩).bind fun tJ=>(some (IntKind.i64.wrap (ga+1))).bind fun eI=>some (.inl (eI,tJ))else some (.inr gb)))) (0,cn)).bind fun dI=>some dI
noncomputable def l8(x0:Lr):Option (Int×(List (List Qr))×(List (List Qr))×(List Qr)):=match x0 with|⟨az,aA,aE,aF⟩=>(cu 1).bind fun⟨⟨nL,nM⟩,⟨F0,F1⟩⟩=>(jG ⟨⟨nL,nM⟩,⟨F0,F1⟩⟩ aA).bind fun cn=>(oI ⟨⟨nL,nM⟩,⟨F0,F1⟩⟩ aE).bind fun cG=>(oJ ⟨⟨nL,nM⟩,⟨F0,F1⟩⟩ aF).bind fun c6=>some (az,cn,cG,c6)
noncomputable def lq(x0:Lr)(x1:List Cn):Option (Lr×Int):=match x0 with|⟨az,aA,aE,aF⟩=>bD (fun(PI:Bool)=>(bif PI then some (⟨0,[],[],[]⟩,1)else(some (x1.length:Int)).bind fun gC=>(bk (fun(AT:Int)=>(show Option ((Int)⊕((Unit)⊕(Lr×Int)))from(some (decide ((AT:Int)<gC))).bind fun fF=>(bif fF then(bR x1 AT).bind fun⟨CN,⟨⟨Ii,Ij⟩,⟨Ik,U4⟩⟩⟩=>(some (CN.length:Int)).bind fun fI=>(some (decide ((az:Int)<fI))).bind fun oB=>(bif oB then some (.inr (.inr (⟨0,[],[],[]⟩,1)))else(some (IntKind.i64.wrap (AT+1))).bind fun oU=>some (.inl oU))else some (.inr (.inl ()))))) 0).bind fun e9=>match e9 with|.inr v9=>some v9|.inl _=>(l8 ⟨az,aA,aE,aF⟩).bind fun⟨uV,uW,Iq,Ir⟩=>(some (x1.length:Int)).bind fun wI=>(bk (fun(Xs:Int×(List (List Qr))×(List Qr))=>match Xs with|⟨F3,By,Bz⟩=>(show Option ((Int×(List (List Qr))×(List Qr))⊕((List (List Qr))×(List Qr)))from(some (decide ((F3:Int)<wI))).bind fun zQ=>(bif zQ then(bR x1 F3).bind fun⟨Ey,⟨⟨HL,U5⟩,⟨U6,U7⟩⟩⟩=>(some (Ey.length:Int)).bind fun xS=>(jU Ey xS).bind fun GX=>(mH 24 By [GX]).bind fun yq=>(b7 ⟨⟨HL,U5⟩,⟨U6,U7⟩⟩).bind fun⟨⟨LG,LH⟩,⟨LI,LJ⟩⟩=>(mH 64 Bz [⟨⟨LG,LH⟩,⟨LI,LJ⟩⟩]).bind fun NP=>(some (IntKind.i64.wrap (F3+1))).bind fun OR=>some (.inl (OR,yq,NP))else some (.inr (By,Bz))))) (0,Iq,Ir)).bind fun e15=>match e15 with|⟨F4,F5⟩=>some (⟨uV,uW,F4,F5⟩,0))) fun K3=>(iJ ⟨az,aA,aE,aF⟩).bind fun bV=>(some (!bV)).bind fun fR=>(bif fR then some true else(some (aE.length:Int)).bind fun cX=>(some (x1.length:Int)).bind fun iC=>(some (IntKind.i64.wrap (cX+iC))).bind fun ik=>(some (decide ((128:Int)<ik))).bind fun eH=>some eH).bind fun PJ=>K3 PJ
noncomputable def dP(x0:Lr)(x1:List Qr)(x2:Qr):Option (Lr×Int):=match x0 with|⟨az,aA,aE,aF⟩=>match x2 with|⟨⟨jy,jz⟩,⟨nJ,nK⟩⟩=>(lq ⟨az,aA,aE,aF⟩ [⟨x1,⟨⟨jy,jz⟩,⟨nJ,nK⟩⟩⟩]).bind fun⟨⟨kg,kj,PK,PL⟩,v7⟩=>some (⟨kg,kj,PK,PL⟩,v7)
noncomputable def fC(x0:Lr)(x1:List Qr)(x2:Qr):Option (Lr×Int):=match x0 with|⟨az,aA,aE,aF⟩=>match x2 with|⟨⟨jy,jz⟩,⟨nJ,nK⟩⟩=>(cu (-1)).bind fun⟨⟨CQ,CR⟩,⟨aaB,aaC⟩⟩=>(fZ ⟨⟨CQ,CR⟩,⟨aaB,aaC⟩⟩ x1).bind fun eE=>(iH ⟨⟨jy,jz⟩,⟨nJ,nK⟩⟩).bind fun⟨⟨rF,rG⟩,⟨LK,LL⟩⟩=>(lq ⟨az,aA,aE,aF⟩ [⟨x1,⟨⟨jy,jz⟩,⟨nJ,nK⟩⟩⟩,⟨eE,⟨⟨rF,rG⟩,⟨LK,LL⟩⟩⟩]).bind fun⟨⟨uC,uD,PM,PN⟩,Nj⟩=>some (⟨uC,uD,PM,PN⟩,Nj)
noncomputable def pK(x0:Lr)(x1:Lr):Option (Bool):=match x0 with|⟨az,aA,aE,aF⟩=>match x1 with|⟨aZ,aY,cI,cJ⟩=>(iI ⟨az,aA,aE,aF⟩).bind fun⟨xA,xB,aaD,aaE⟩=>(iI ⟨aZ,aY,cI,cJ⟩).bind fun⟨og,oh,Is,It⟩=>(some (!(((xA:Int)==og)&&(((xB:Int)==oh)&&(((aaD:Int)==Is)&&((aaE:Int)==It)))))).bind fun x9=>(bif x9 then some false else bD (fun(aaF:Bool)=>some aaF) fun K6=>(jH aA aY).bind fun cG=>(bif cG then(jH aE cI).bind fun ik=>some ik else some false).bind fun U8=>(bif U8 then(fg aF cJ).bind fun fF=>some fF else some false).bind fun Xt=>K6 Xt)
end Go.Proofs.YtfoldppidpmchaaGreat
namespace Go.Proofs.YtfoldppidpmchaaGreat
open Go.Fw Go.Fw.Z Go.RowKit
instance:St4 Tryz.prog 71 3:=⟨by kernel_rfl,by kernel_rfl,by kernel_rfl,by kernel_rfl⟩
theorem qG(p:Lr):Pure Tryz.prog 62 [.agg (qO p)] (rC 98 [ref [.v (.int .i64 p.vars),(slc 1 (List.map (eS 4 eQ) p.tH)),(slc 1 (List.map (eS 4 eQ) p.rows)),(slc 4 (List.map eQ p.bounds))]]):=by
 refine ah Tryz.func62 rfl (Nat.le_of_ble_eq_true rfl) (fun b9 M vs hvs=>?_)
 refine sr<|bx rfl<|ag rfl<|dn<|sr<|RT.makeFunc .none (.box rfl (.nil)) T<|an (s:=.fE _ _) rfl<|dn ?_
 refine aK (mW (i:=1) rfl [.v (.int .i64 p.vars),(slc 1 (List.map (eS 4 eQ) p.tH)),(slc 1 (List.map (eS 4 eQ) p.rows)),(slc 4 (List.map eQ p.bounds))] (.cons rfl (.cons rfl (.cons rfl (.cons rfl .nil)))) .any 0 [(2,.fE 98 [.val (ref [.v (.int .i64 p.vars),(slc 1 (List.map (eS 4 eQ) p.tH)),(slc 1 (List.map (eS 4 eQ) p.rows)),(slc 4 (List.map eQ p.bounds))])])] (fun _ _ _=>trivial) (wV.h (l:=[.v (.int .i64 p.vars),(slc 1 (List.map (eS 4 eQ) p.tH)),(slc 1 (List.map (eS 4 eQ) p.rows)),(slc 4 (List.map eQ p.bounds))])) ⟨@FT.fE _ _ _ _ _ 2 98 [.box 1] rfl,trivial⟩)<|aK (Fm 2 (rC 98 [ref [.v (.int .i64 p.vars),(slc 1 (List.map (eS 4 eQ) p.tH)),(slc 1 (List.map (eS 4 eQ) p.rows)),(slc 4 (List.map eQ p.bounds))]]) (fun _ _ h=>Fo h)) ?_
 exact aj<|⟨.inr rfl,Fh (.tmp rfl (.nil)) rfl⟩
theorem qH(p:Lr):Iter Tryz.prog 98 [ref [.v (.int .i64 p.vars),(slc 1 (List.map (eS 4 eQ) p.tH)),(slc 1 (List.map (eS 4 eQ) p.rows)),(slc 4 (List.map eQ p.bounds))]] p.rows.length (fun k=>[(slc 4 (List.map eQ (p.rows.getD k []))),.agg (eQ (p.bounds.getD k (⟨⟨false,[]⟩,⟨false,[]⟩⟩:Qr)))]):=by
 refine r8 Tryz.func98 rfl rfl (Nat.le_of_ble_eq_true rfl) (fun b9 M O l J hJ zA hr=>?_)
 obtain⟨tF,zA⟩:=zA
 have hla:p.rows.length≤9223372036854775807:=by cases tF with|nil=>exact zA.elim|cons _ tF=>exact Po zA.1
 refine aO ?_
 refine af ?_
 refine RT.fH .none rfl (tl rfl) rfl ?_
 refine RT.b8 .none rfl rfl (tl rfl) ?_
 refine RT.len .none rfl (tl rfl) ?_
 refine RT.mv .none rfl (tl rfl) ?_
 refine RT.done ?_
 refine ae.n ?_
 refine aq ?_
 refine xX (I:=fun x:{i:Nat//i≤p.rows.length}=>AS.bw 30 [(0,.sv (.v (.func (.yield l) #[] #[]))),(1,.sv (ref [.v (.int .i64 p.vars),(slc 1 (List.map (eS 4 eQ) p.tH)),(slc 1 (List.map (eS 4 eQ) p.rows)),(slc 4 (List.map eQ p.bounds))])),(7,.sv ((slc 1 (List.map (eS 4 eQ) p.rows)))),(8,.sv (.v (.int .i64 ((p.rows.length:Nat):Int)))),(9,.sv (.v (.int .i64 ((x.1:Nat):Int))))] [] [] (x.1)) (μ:=fun x=>p.rows.length-x.1) ⟨0,by omega⟩ (by(try dsimp only);exact bK id rfl rfl rfl rfl rfl ⟨.sv (by first|exact SV.aa _|exact SV.au (by omega)|exact SV.au (by push_cast;omega)|exact SV.au (by dsimp only;omega)|exact SV.imp_eq (by simp)),.sv (by first|exact SV.aa _|exact SV.au (by omega)|exact SV.au (by push_cast;omega)|exact SV.au (by dsimp only;omega)|exact SV.imp_eq (by simp)),.sv (by first|exact SV.aa _|exact SV.au (by omega)|exact SV.au (by push_cast;omega)|exact SV.au (by dsimp only;omega)|exact SV.imp_eq (by simp)),.sv (SV.au (by simp)),.sv (by first|exact SV.aa _|exact SV.au (by omega)|exact SV.au (by push_cast;omega)|exact SV.au (by dsimp only;omega)|exact SV.imp_eq (by simp)),trivial⟩ trivial trivial (fun _ _=>rfl)) ?_
 rintro⟨i,Ua⟩
 try dsimp only
 rcases J8 p.rows p.bounds i Ua with⟨hi,hb⟩|⟨hi,hb⟩|hi
 ·
  refine aO ?_
  refine af ?_
  refine RT.lss .none (true) rfl rfl (tl rfl) (by simp;omega) ?_
  refine RT.done ?_
  refine ae.n ?_
  refine aO ?_
  refine bX rfl ?_
  refine aC ?_
  refine ae.n ?_
  refine aO ?_
  refine aq ?_
  refine aO ?_
  refine af ?_
  refine RT.mv .none rfl (tl rfl) ?_
  refine RT.Od .none [(slc 4 (List.map eQ (p.rows.getD i [])))] (Int.natCast_nonneg i) (by rw[Int.toNat_natCast,List.getElem?_map,bz hi];rfl) rfl rfl (tl rfl) ?_
  refine RT.b8 .none rfl rfl (tl rfl) ?_
  refine RT.BV .none rfl (tl rfl) ?_
  refine RT.BV .none rfl (tl rfl) ?_
  refine RT.done ?_
  refine ae.n ?_
  refine aO ?_
  refine af ?_
  refine RT.r9 .none (cs:=eQ ⟨⟨false,[]⟩,⟨false,[]⟩⟩) (by exact⟨SV.aa _,imp_nil,SV.aa _,imp_nil,trivial⟩) rfl (tl rfl) rfl rfl ?_
  refine RT.done ?_
  refine ae.n ?_
  refine aO ?_
  refine aO ?_
  refine af ?_
  refine RT.mv .none rfl (tl rfl) ?_
  refine RT.fH .none rfl (tl rfl) rfl ?_
  refine RT.b8 .none rfl rfl (tl rfl) ?_
  refine RT.len .none rfl (tl rfl) ?_
  refine RT.lss .none (true) rfl rfl (tl rfl) (by simp only[List.length_map];simp;omega) ?_
  refine RT.done ?_
  refine ae.n ?_
  refine bX rfl ?_
  refine af ?_
  refine RT.fH .none rfl (tl rfl) rfl ?_
  refine RT.b8 .none rfl rfl (tl rfl) ?_
  refine RT.mv .none rfl (tl rfl) ?_
  refine RT.Od .none [.v (.bool (p.bounds.getD i (⟨⟨false,[]⟩,⟨false,[]⟩⟩:Qr)).num.neg),slc 1 ((p.bounds.getD i (⟨⟨false,[]⟩,⟨false,[]⟩⟩:Qr)).num.w.map ak),.v (.bool (p.bounds.getD i (⟨⟨false,[]⟩,⟨false,[]⟩⟩:Qr)).den.neg),slc 1 ((p.bounds.getD i (⟨⟨false,[]⟩,⟨false,[]⟩⟩:Qr)).den.w.map ak)] (Int.natCast_nonneg i) (by rw[Int.toNat_natCast,List.getElem?_map,bz hb];rfl) rfl rfl (tl rfl) ?_
  refine RT.nv .none rfl (tl rfl) (cs:=[.v (.bool (p.bounds.getD i (⟨⟨false,[]⟩,⟨false,[]⟩⟩:Qr)).num.neg),slc 1 ((p.bounds.getD i (⟨⟨false,[]⟩,⟨false,[]⟩⟩:Qr)).num.w.map ak),.v (.bool (p.bounds.getD i (⟨⟨false,[]⟩,⟨false,[]⟩⟩:Qr)).den.neg),slc 1 ((p.bounds.getD i (⟨⟨false,[]⟩,⟨false,[]⟩⟩:Qr)).den.w.map ak)]) rfl rfl ?_
  refine RT.store .none rfl rfl rfl rfl rfl ?_
  refine RT.done ?_
  refine ae.n ?_
  refine aO ?_
  refine af ?_
  refine RT.mv .none rfl (tl rfl) ?_
  refine RT.mv .none rfl (tl rfl) ?_
  refine RT.load .none rfl rfl (.cons rfl (.cons rfl (.cons rfl (.cons rfl (.nil))))) rfl (tl rfl) ?_
  refine RT.yield .none hr rfl (fun _ h=>h) rfl (i) rfl rfl hi (by exact⟨rfl,rfl,trivial⟩) (tl rfl) (fun yb=>?_)
  cases yb
  ·
   refine RT.not .none rfl (tl rfl) true rfl ?_
   refine RT.done ?_
   refine ae.n ?_
   refine bX rfl ?_
   refine aj ?_
   refine aD.r ?_
   refine ae.r ?_
   refine ae.r ?_
   refine aD.r ?_
   exact⟨.inr rfl,(fun h=>by cases h)⟩
  ·
   refine RT.not .none rfl (tl rfl) false rfl ?_
   refine RT.done ?_
   refine ae.n ?_
   refine dg rfl ?_
   refine aC ?_
   refine aD.n ?_
   refine ae.n ?_
   refine af ?_
   refine RT.add .none (((i:Nat):Int)+1) rfl rfl (tl rfl) (lO (by omega)) ?_
   refine RT.mv .none rfl (tl rfl) ?_
   refine RT.done ?_
   refine ae.n ?_
   refine⟨⟨i+1,by omega⟩,(by dsimp only;omega),?_⟩
   try dsimp only
   exact bK id rfl rfl rfl rfl rfl ⟨.sv (by first|exact SV.aa _|exact SV.au (by omega)|exact SV.au (by push_cast;omega)|exact SV.au (by dsimp only;omega)|exact SV.imp_eq (by simp)),.sv (by first|exact SV.aa _|exact SV.au (by omega)|exact SV.au (by push_cast;omega)|exact SV.au (by dsimp only;omega)|exact SV.imp_eq (by simp)),.sv (by first|exact SV.aa _|exact SV.au (by omega)|exact SV.au (by push_cast;omega)|exact SV.au (by dsimp only;omega)|exact SV.imp_eq (by simp)),.sv (by first|exact SV.aa _|exact SV.au (by omega)|exact SV.au (by push_cast;omega)|exact SV.au (by dsimp only;omega)|exact SV.imp_eq (by simp)),.sv (by first|exact SV.aa _|exact SV.au (by omega)|exact SV.au (by push_cast;omega)|exact SV.au (by dsimp only;omega)|exact SV.imp_eq (by simp)),trivial⟩ trivial trivial (fun _ _=>rfl)
 ·
  refine aO ?_
  refine af ?_
  refine RT.lss .none (true) rfl rfl (tl rfl) (by simp;omega) ?_
  refine RT.done ?_
  refine ae.n ?_
  refine aO ?_
  refine bX rfl ?_
  refine aC ?_
  refine ae.n ?_
  refine aO ?_
  refine aq ?_
  refine aO ?_
  refine af ?_
  refine RT.mv .none rfl (tl rfl) ?_
  refine RT.Od .none [(slc 4 (List.map eQ (p.rows.getD i [])))] (Int.natCast_nonneg i) (by rw[Int.toNat_natCast,List.getElem?_map,bz hi];rfl) rfl rfl (tl rfl) ?_
  refine RT.b8 .none rfl rfl (tl rfl) ?_
  refine RT.BV .none rfl (tl rfl) ?_
  refine RT.BV .none rfl (tl rfl) ?_
  refine RT.done ?_
  refine ae.n ?_
  refine aO ?_
  refine af ?_
  refine RT.r9 .none (cs:=eQ ⟨⟨false,[]⟩,⟨false,[]⟩⟩) (by exact⟨SV.aa _,imp_nil,SV.aa _,imp_nil,trivial⟩) rfl (tl rfl) rfl rfl ?_
  refine RT.done ?_
  refine ae.n ?_
  refine aO ?_
  refine aO ?_
  refine af ?_
  refine RT.mv .none rfl (tl rfl) ?_
  refine RT.fH .none rfl (tl rfl) rfl ?_
  refine RT.b8 .none rfl rfl (tl rfl) ?_
  refine RT.len .none rfl (tl rfl) ?_
  refine RT.lss .none (false) rfl rfl (tl rfl) (by simp only[List.length_map];simp;omega) ?_
  refine RT.done ?_
  refine ae.n ?_
  refine dg rfl ?_
  refine aC ?_
  refine ae.n ?_
  refine aO ?_
  refine af ?_
  refine RT.mv .none rfl (tl rfl) ?_
  refine RT.mv .none rfl (tl rfl) ?_
  refine RT.load .none rfl rfl (.cons rfl (.cons rfl (.cons rfl (.cons rfl (.nil))))) rfl (tl rfl) ?_
  refine RT.yield .none hr rfl (fun _ h=>h) rfl (i) rfl rfl hi (by exact⟨rfl,(by show AV.sv _=AV.sv _;rw[dB hb]),trivial⟩) (tl rfl) (fun yb=>?_)
  cases yb
  ·
   refine RT.not .none rfl (tl rfl) true rfl ?_
   refine RT.done ?_
   refine ae.n ?_
   refine bX rfl ?_
   refine aj ?_
   refine aD.r ?_
   refine ae.r ?_
   refine ae.r ?_
   refine aD.r ?_
   exact⟨.inr rfl,(fun h=>by cases h)⟩
  ·
   refine RT.not .none rfl (tl rfl) false rfl ?_
   refine RT.done ?_
   refine ae.n ?_
   refine dg rfl ?_
   refine aC ?_
   refine aD.n ?_
   refine ae.n ?_
   refine af ?_
   refine RT.add .none (((i:Nat):Int)+1) rfl rfl (tl rfl) (lO (by omega)) ?_
   refine RT.mv .none rfl (tl rfl) ?_
   refine RT.done ?_
   refine ae.n ?_
   refine⟨⟨i+1,by omega⟩,(by dsimp only;omega),?_⟩
   try dsimp only
   exact bK id rfl rfl rfl rfl rfl ⟨.sv (by first|exact SV.aa _|exact SV.au (by omega)|exact SV.au (by push_cast;omega)|exact SV.au (by dsimp only;omega)|exact SV.imp_eq (by simp)),.sv (by first|exact SV.aa _|exact SV.au (by omega)|exact SV.au (by push_cast;omega)|exact SV.au (by dsimp only;omega)|exact SV.imp_eq (by simp)),.sv (by first|exact SV.aa _|exact SV.au (by omega)|exact SV.au (by push_cast;omega)|exact SV.au (by dsimp only;omega)|exact SV.imp_eq (by simp)),.sv (by first|exact SV.aa _|exact SV.au (by omega)|exact SV.au (by push_cast;omega)|exact SV.au (by dsimp only;omega)|exact SV.imp_eq (by simp)),.sv (by first|exact SV.aa _|exact SV.au (by omega)|exact SV.au (by push_cast;omega)|exact SV.au (by dsimp only;omega)|exact SV.imp_eq (by simp)),trivial⟩ trivial trivial (fun _ _=>rfl)
 ·
  subst hi
  refine aO ?_
  refine af ?_
  refine RT.lss .none (false) rfl rfl (tl rfl) (by simp) ?_
  refine RT.done ?_
  refine ae.n ?_
  refine aO ?_
  refine dg rfl ?_
  refine aS ?_
  refine ae.x ?_
  refine ae.x ?_
  refine aD.x ?_
  exact⟨.inl rfl,(fun _=>rfl)⟩
theorem qS{x0:Lr}{r:Sz}(h:iI x0=some r):Pure Tryz.prog 50 [.agg (qO x0)] (.agg (eSz r)):=by
 obtain⟨az,aA,aE,aF⟩:=x0
 refine ah Tryz.func50 rfl (Nat.le_of_ble_eq_true rfl) (fun b9 M vs hvs=>?_)
 unfold iI at h
 refine sr<|bx rfl<|al (cs:=[.v (.int .i64 0),.v (.int .i64 0),.v (.int .i64 0),.v (.int .i64 0)]) (by exact⟨SV.aa _,SV.aa _,SV.aa _,SV.aa _,trivial⟩) rfl<|dn<|sr<|fa rfl rfl<|lV rfl rfl rfl<|fa rfl rfl<|lV rfl rfl rfl<|lE h fun x7 h7 h=>ln rfl h7<|fa rfl rfl<|lV rfl rfl rfl<|lE h fun cn ep h=>ln rfl ep<|fa rfl rfl ?_
 refine lV rfl rfl rfl<|lE h fun fR jn h=>ln rfl jn<|bI (cs:=[_,_,_,_]) (cs':=[.v (.int .i64 az),.v (.int .i64 x7),.v (.int .i64 cn),.v (.int .i64 fR)]) (.one rfl (.one rfl (.one rfl (.one rfl (.nil))))) ⟨SV.aa _,SV.aa _,SV.aa _,SV.aa _,trivial⟩<|so rfl rfl rfl<|dn<|aj ?_
 obtain rfl:=O h
 exact RZ (.agg rfl rfl (.cons rfl (.cons rfl (.cons rfl (.cons rfl (.nil))))) rfl (.nil))
theorem nP{x0:Lr}{r:Bool}(h:iJ x0=some r):Pure Tryz.prog 17 [.agg (qO x0)] (.v (.bool r)):=by
 obtain⟨az,aA,aE,aF⟩:=x0
 refine ah Tryz.func17 rfl (Nat.le_of_ble_eq_true rfl) (fun b9 M vs hvs=>?_)
 unfold iJ at h
 refine sr<|bx rfl<|ag rfl<|dn<|sr<|ld rfl rfl (.cons rfl (.cons rfl (.cons rfl (.cons rfl (.nil))))) ?_
 obtain⟨⟨v8,yD,z6,Bg⟩,h5,h⟩:=bS h
 refine cl (qS h5) ⟨rfl,trivial⟩<|al (cs:=[.v (.int .i64 0),.v (.int .i64 0),.v (.int .i64 0),.v (.int .i64 0)]) (by exact⟨SV.aa _,SV.aa _,SV.aa _,SV.aa _,trivial⟩) rfl<|so rfl rfl rfl<|dn<|qq<|qq ?_
 refine aH h (fun RK=>AS.bw 48 [(1,.ptr 1 0),(3,.ptr 3 0),(23,.sv (.v (.bool RK)))] [(3,⟨71,[.sv (.v (.int .i64 v8)),.sv (.v (.int .i64 yD)),.sv (.v (.int .i64 z6)),.sv (.v (.int .i64 Bg))]⟩),(1,⟨26,[.sv (.v (.int .i64 az)),.sv (slc 1 (List.map (eS 4 eQ) aA)),.sv (slc 1 (List.map (eS 4 eQ) aE)),.sv (slc 4 (List.map eQ aF))]⟩)] []) (fun h=>?_) (fun Pv h=>?_)
 refine af<|fa rfl rfl<|lV rfl rfl rfl<|lE h fun x8 h8 h=>ls _ rfl rfl h8<|mv rfl<|bE h fun Py Iu h=>?_
 cases x8
 refine RT.fieldAddr (.some rfl rfl) rfl T rfl<|RT.kV (.some rfl rfl) rfl rfl rfl T<|lE (F Iu) fun bV dH Iu=>gg _ rfl rfl dH ?_
 obtain rfl:=O Iu
 refine pF rfl<|mv rfl<|bE h fun aff SC h=>?_
 cases bV
 refine RT.fieldAddr (.some rfl rfl) rfl T rfl<|RT.kV (.some rfl rfl) rfl rfl rfl T<|lE (F SC) fun cX jd SC=>RT.lss (.some rfl rfl) _ rfl rfl T jd ?_
 obtain rfl:=O SC
 refine pF rfl<|mv rfl<|bE h fun afg Aa h=>?_
 cases cX
 refine RT.fieldAddr (.some rfl rfl) rfl T rfl<|RT.kV (.some rfl rfl) rfl rfl rfl T<|lE (F Aa) fun fu kM Aa=>gg _ rfl rfl kM ?_
 obtain rfl:=O Aa
 exact pF rfl<|dn<|⟨fu,h,wR []⟩
 obtain rfl:=O (V Aa)
 exact ww<|ww<|ww<|pT rfl<|dn<|⟨true,h,wR []⟩
 obtain rfl:=O (V SC)
 refine ww<|ww<|ww<|pT rfl<|mv rfl<|bE h fun afh qf h=>?_
 obtain rfl:=O (V qf)
 exact ww<|ww<|ww<|pT rfl<|dn<|⟨true,h,wR []⟩
 obtain rfl:=O (V Iu)
 refine ww<|ww<|ww<|pT rfl<|mv rfl<|bE h fun Kc ig h=>?_
 obtain rfl:=O (V ig)
 refine ww<|ww<|ww<|pT rfl<|mv rfl<|bE h fun afi nQ h=>?_
 obtain rfl:=O (V nQ)
 exact ww<|ww<|ww<|pT rfl<|dn<|⟨true,h,wR []⟩
 try dsimp only
 refine ae.n ?_
 cases Pv
 refine fs<|qq<|qq ?_
 refine aH (F h) (fun Ck=>AS.bw 48 [(1,.ptr 1 0),(3,.ptr 3 0),(33,.sv (.v (.bool Ck)))] [(3,⟨71,[.sv (.v (.int .i64 v8)),.sv (.v (.int .i64 yD)),.sv (.v (.int .i64 z6)),.sv (.v (.int .i64 Bg))]⟩),(1,⟨26,[.sv (.v (.int .i64 az)),.sv (slc 1 (List.map (eS 4 eQ) aA)),.sv (slc 1 (List.map (eS 4 eQ) aE)),.sv (slc 4 (List.map eQ aF))]⟩)] []) (fun h=>?_) (fun Kb h=>?_)
 refine af<|fa rfl rfl<|lV rfl rfl rfl<|lE h fun gJ mY h=>gt _ rfl rfl mY<|mv rfl<|bE h fun Px rH h=>?_
 cases gJ
 refine RT.fieldAddr (.some rfl rfl) rfl T rfl<|RT.kV (.some rfl rfl) rfl rfl rfl T<|RT.fieldAddr (.some rfl rfl) rfl T rfl<|RT.kV (.some rfl rfl) rfl rfl rfl T<|lE (F rH) fun fI mZ rH=>gq _ rfl rfl (DJ (p:=Bg) (q:=z6) mZ) ?_
 obtain rfl:=O rH
 exact pF rfl<|dn<|⟨fI,h,wR []⟩
 obtain rfl:=O (V rH)
 exact ww<|ww<|ww<|ww<|ww<|pT rfl<|dn<|⟨true,h,wR []⟩
 try dsimp only
 refine ae.n ?_
 cases Kb
 refine fs<|qq ?_
 refine aH (F h) (fun j16=>AS.bw 48 [(2,.sv (.v (.bool j16)))] [] []) (fun h=>?_) (fun UO h=>?_)
 refine ai mixed<|fa rfl rfl<|lV rfl rfl rfl<|bE h fun qm vZ h=>cl (AP vZ) ⟨rfl,trivial⟩<|fa rfl rfl<|lV rfl rfl rfl<|lE h fun nB xp h=>RT.leq .none _ rfl rfl T xp<|mv rfl<|bE h fun Pw pq h=>?_
 cases nB
 obtain rfl:=O (F pq)
 refine ww<|ww<|ww<|ww<|ww<|ww<|pF rfl<|ag rfl ?_
 refine RT.done ⟨by kernel_rfl,?_⟩
 exact ae.n<|⟨false,h,wR []⟩
 refine RT.fieldAddr (.some rfl rfl) rfl T rfl<|RT.kV (.some rfl rfl) rfl rfl rfl T<|bE (V pq) fun zQ Jt pq=>gc (AP Jt) ⟨rfl,trivial⟩<|RT.fieldAddr (.some rfl rfl) rfl T rfl<|RT.kV (.some rfl rfl) rfl rfl rfl T<|lE pq fun q9 h46 pq=>RT.leq (.some rfl rfl) _ rfl rfl T h46 ?_
 obtain rfl:=O pq
 refine pT rfl<|ag rfl ?_
 refine RT.done ⟨by kernel_rfl,?_⟩
 exact ae.n<|⟨q9,h,wR []⟩
 try dsimp only
 refine ae.n<|aj ?_
 obtain rfl:=O h
 exact R1 rfl
 refine cT<|sr<|ag rfl<|dn<|aj<|ae.r ?_
 obtain rfl:=O (V h)
 exact R1 rfl
 refine cT<|sr<|ag rfl<|dn<|aj<|ae.r ?_
 obtain rfl:=O (V h)
 exact R1 rfl
theorem uX{x0:Lr}{x1:List Qr}{r:Bool}(h:iX x0 x1=some r):Pure Tryz.prog 20 [.agg (qO x0),slc 4 (List.map eQ x1)] (.v (.bool r)):=by
 obtain⟨az,aA,aE,aF⟩:=x0
 refine ah Tryz.func20 rfl (Nat.le_of_ble_eq_true rfl) (fun b9 M vs hvs=>?_)
 unfold iX at h
 refine sr<|bx rfl<|RT.E8 .none (s:=.sv _) rfl T rfl rfl<|ag rfl<|dn<|OF<|qq<|qq ?_
 refine aH h (fun j3=>AS.bw 42 [(2,.ptr 2 0),(3,.ptr 3 0),(19,.sv (.v (.bool j3)))] [(3,⟨24,[.sv (slc 4 (List.map eQ x1))]⟩),(2,⟨26,[.sv (.v (.int .i64 az)),.sv (slc 1 (List.map (eS 4 eQ) aA)),.sv (slc 1 (List.map (eS 4 eQ) aE)),.sv (slc 4 (List.map eQ aF))]⟩)] []) (fun h=>?_) (fun CM h=>?_)
 refine af<|ld rfl rfl (.cons rfl (.cons rfl (.cons rfl (.cons rfl (.nil)))))<|bE h fun eE jS h=>cl (nP jS) ⟨rfl,trivial⟩<|lE h fun bV dH h=>nt rfl _ dH<|mv rfl<|bE h fun Pz Nk h=>?_
 cases bV
 refine RT.kV (.some rfl rfl) rfl rfl rfl T<|lE (F Nk) fun cE fS Nk=>gn rfl fS<|RT.fieldAddr (.some rfl rfl) rfl T rfl<|RT.kV (.some rfl rfl) rfl rfl rfl T<|lE Nk fun c6 iS Nk=>gg _ rfl rfl iS ?_
 obtain rfl:=O Nk
 exact pF rfl<|dn<|⟨c6,h,wR []⟩
 obtain rfl:=O (V Nk)
 exact ww<|ww<|ww<|ww<|ww<|pT rfl<|dn<|⟨true,h,wR []⟩
 try dsimp only
 refine ae.n ?_
 cases CM
 refine fs<|qq<|sr<|lV rfl rfl rfl<|lE (F h) fun eH jT h=>ln rfl jT<|mv rfl<|dn<|bE h fun e9 hl9 NR=>?_
 refine aL (fun(PO:Unit)=>AS.bw 42 [(2,.ptr 2 0),(3,.ptr 3 0)] [(3,⟨24,[.sv (slc 4 (List.map eQ x1))]⟩),(2,⟨26,[.sv (.v (.int .i64 az)),.sv (slc 1 (List.map (eS 4 eQ) aA)),.sv (slc 1 (List.map (eS 4 eQ) aE)),.sv (slc 4 (List.map eQ aF))]⟩)] []) (fun PO=>.inl PO=e9) ?_ (fun PO hx9=>?_)
 refine aq ?_
 refine aM hl9 (fun s9=>AS.bw 42 [(2,.ptr 2 0),(3,.ptr 3 0),(20,.sv (slc 4 (List.map eQ x1))),(21,.sv (.v (.int .i64 eH))),(22,.sv (.v (.int .i64 s9)))] [(3,⟨24,[.sv (slc 4 (List.map eQ x1))]⟩),(2,⟨26,[.sv (.v (.int .i64 az)),.sv (slc 1 (List.map (eS 4 eQ) aA)),.sv (slc 1 (List.map (eS 4 eQ) aE)),.sv (slc 4 (List.map eQ aF))]⟩)] []) (wR []) (fun LA y9 G9 h hG9 U9=>?_)
 try dsimp only
 refine sr<|lE h fun fy kN h=>ls _ rfl rfl kN<|dn<|qq ?_
 cases fy
 refine cF<|aS<|ae.x<|ae.x<|aD.x<|ae.n ?_
 obtain rfl:=O (F h)
 exact⟨(),U9 _ rfl,wR []⟩
 refine cT<|aC<|ae.n<|qq<|aq<|sr ?_
 obtain⟨⟨⟨qy,qA⟩,⟨uS,uT⟩⟩,mI,h⟩:=bS (V h)
 refine ix rfl rfl mI<|RT.nv (cs:=[_,_,_,_]) .none rfl T rfl rfl<|al (cs:=[.v (.bool false),slc 1 (List.map ak []),.v (.bool false),slc 1 (List.map ak [])]) (by exact⟨SV.aa _,imp_nil,SV.aa _,imp_nil,trivial⟩) rfl<|so rfl rfl rfl<|dn<|sr<|ld rfl rfl (.cons rfl (.cons rfl (.cons rfl (.cons rfl (.nil)))))<|bE h fun fF mR h=>cl (sD mR) ⟨rfl,trivial⟩<|lE h fun jr o9 h=>ls _ rfl rfl o9<|dn ?_
 cases jr
 refine cF<|aC<|aD.n<|ae.n<|af<|lE (F h) fun fQ lJ h=>ad _ rfl rfl lJ<|mv rfl<|RT.done ?_
 obtain rfl:=O h
 exact ae.n ⟨fQ,hG9 _ rfl,wR []⟩
 refine cT<|sr<|ag rfl<|dn<|aj<|aD.r<|ae.r ?_
 obtain rfl:=O (V h)
 have he9:=U9 _ rfl
 subst he9
 refine ae.r<|aD.r<|ae.r<|ae.r<|OE.r ?_
 obtain rfl:=O NR
 exact R1 rfl
 subst hx9
 try dsimp only
 refine ae.n<|sr<|al (cs:=[.v (.bool false)]) (by exact⟨SV.aa _,trivial⟩) rfl<|RT.mU (cells:=[_]) .none (s:=.sv _) rfl rfl rfl T rfl<|dn<|qq<|OG<|ae.n<|qq<|sr<|ld rfl rfl (.cons rfl (.cons rfl (.cons rfl (.cons rfl (.nil)))))<|cl (qG ⟨az,aA,aE,aF⟩) ⟨rfl,trivial⟩<|dn<|aq<|bE NR fun Lw FF jo=>?_
 obtain⟨m12,afj,akK,afk,afl⟩:=zM FF
 refine nh (qH ⟨az,aA,aE,aF⟩) (fun _ _ _ _ _=>trivial) rfl (fun k=>AS.bw 42 [(3,.ptr 3 0),(7,.ptr 7 0),(31,.sv (rC 98 [ref [.v (.int .i64 az),slc 1 (List.map (eS 4 eQ) aA),slc 1 (List.map (eS 4 eQ) aE),slc 4 (List.map eQ aF)]]))] [(7,⟨4,[.sv (.v (.bool true))]⟩),(3,⟨24,[.sv (slc 4 (List.map eQ x1))]⟩)] []) [7,3] rfl (fun _=>⟨rfl,rfl⟩) (wY rfl) (fun _=>rfl) (wZ rfl) (by(try dsimp only);(try dsimp only);exact bK id rfl rfl rfl rfl rfl ⟨.ptr,.ptr,.sv (SV.aa _),trivial⟩ ⟨⟨_,rfl,⟨.sv (SV.aa _),trivial⟩⟩,⟨_,rfl,⟨.sv (SV.aa _),trivial⟩⟩,trivial⟩ trivial (fun _ _=>rfl)) m12 (fun k hk hkm D hD=>?_) (fun hdn=>?_)
 obtain⟨y12,h,FG,FH⟩:=afk k hk hkm
 dsimp only[AS.Sc,wB]
 try dsimp only at h
 refine lE h fun p32 afm h=>?_
 rw[afm]
 obtain⟨⟨⟨UP,UQ⟩,⟨UR,US⟩⟩,afn,h⟩:=bS h
 rw[Option.some.inj afn]
 refine sr<|ag rfl<|dn<|af<|al (cs:=[.v (.bool false),slc 1 (List.map ak []),.v (.bool false),slc 1 (List.map ak [])]) (by exact⟨SV.aa _,imp_nil,SV.aa _,imp_nil,trivial⟩) rfl<|so rfl rfl rfl<|RT.done ?_
 refine ae.n ⟨rfl,?_⟩
 dsimp only[AS.Fl]
 refine aq<|qq<|ai mixed<|mv rfl<|lV rfl rfl rfl ?_
 obtain⟨⟨⟨um,uo⟩,⟨HU,HV⟩⟩,vZ,h⟩:=bS h
 refine cl (xw vZ) ⟨rfl,rfl,trivial⟩<|ld rfl rfl (.cons rfl (.cons rfl (.cons rfl (.cons rfl (.nil)))))<|bE h fun wH FD h=>cl (AO FD) ⟨rfl,rfl,trivial⟩ ?_
 refine RT.done ⟨by kernel_rfl,?_⟩
 refine ae.n<|aq<|sr<|lE h fun nA tO h=>eq _ rfl rfl (Bb (p:=wH) (q:=1) tO)<|ag rfl<|dn ?_
 cases nA
 refine cF<|aC<|aD.n<|aD.n ?_
 obtain rfl:=O (F h)
 obtain⟨afo,akL⟩:=FG _ rfl
 exact⟨afo,rfl,rfl,wR []⟩
 refine cT<|sr<|RT.mU (cells:=[_]) .none (s:=.sv _) rfl rfl rfl T rfl<|dn<|aS<|aD.y (by decide)<|aD.y (by decide) ?_
 obtain rfl:=O (V h)
 have afp:=FH _ rfl
 subst afp
 refine⟨rfl,rfl,?_⟩
 refine aD.x<|ae.n<|sr<|lV rfl rfl rfl<|ag rfl<|dn<|aj<|OE.r ?_
 obtain rfl:=O jo
 exact R1 rfl
 have afq:=afl hdn
 subst afq
 obtain⟨akM,aaK⟩:∃q,afj ((Lr.rows ⟨az,aA,aE,aF⟩).length)=q:=⟨_,rfl⟩
 rw[aaK]at jo
 try dsimp only
 refine aD.n<|ae.n<|sr<|lV rfl rfl rfl<|ag rfl<|dn<|aj<|OE.r ?_
 obtain rfl:=O jo
 exact R1 rfl
 refine cT<|sr<|ag rfl<|dn<|aj<|ae.r<|OE.r ?_
 obtain rfl:=O (V h)
 exact R1 rfl
theorem uY{x0:Lr}{x1:List Qr}{r:List Qr}(h:ku x0 x1=some r):Pure Tryz.prog 21 [.agg (qO x0),slc 4 (List.map eQ x1)] (slc 4 (List.map eQ r)):=by
 obtain⟨az,aA,aE,aF⟩:=x0
 refine ah Tryz.func21 rfl (Nat.le_of_ble_eq_true rfl) (fun b9 M vs hvs=>?_)
 unfold ku at h
 refine sr<|bx rfl<|aI rfl (imp_nil (n:=4) (e:=eQ))<|dn<|sr<|fa rfl rfl<|lV rfl rfl rfl<|mv rfl<|bE h fun x8 h8 h=>cl (D4 h8) ⟨rfl,rfl,trivial⟩<|ag rfl<|dn<|aj ?_
 obtain rfl:=O h
 exact R1 rfl
theorem Iv{x0:Lr}{x1:List Qr}{r:List Qr}(h:pJ x0 x1=some r):Pure Tryz.prog 39 [.agg (qO x0),slc 4 (List.map eQ x1)] (slc 4 (List.map eQ r)):=by
 obtain⟨az,aA,aE,aF⟩:=x0
 refine ah Tryz.func39 rfl (Nat.le_of_ble_eq_true rfl) (fun b9 M vs hvs=>?_)
 unfold pJ at h
 refine sr<|bx rfl<|RT.E8 .none (s:=.sv _) rfl T rfl rfl<|aI rfl (imp_nil (n:=4) (e:=eQ))<|dn<|sr<|RT.alloc .none T rfl rfl<|dn<|aK (eG 5 0 302 36 4 rfl rfl rfl T)<|qq<|sr<|ld rfl rfl (.cons rfl (.cons rfl (.cons rfl (.cons rfl (.nil)))))<|cl (qG ⟨az,aA,aE,aF⟩) ⟨rfl,trivial⟩<|dn<|aq<|bE h fun z9 hl5 ho5=>?_
 obtain⟨st5,hs5,ht5,hn5⟩:=rE hl5
 refine oG (qH ⟨az,aA,aE,aF⟩) (fun _ _ _ _ _=>trivial) rfl (fun k=>AS.bw 21 [(3,.ptr 3 0),(5,.ptr 5 0),(9,.sv (rC 98 [ref [.v (.int .i64 az),slc 1 (List.map (eS 4 eQ) aA),slc 1 (List.map (eS 4 eQ) aE),slc 4 (List.map eQ aF)]]))] [(5,⟨24,[.row 304]⟩),(3,⟨24,[.sv (slc 4 (List.map eQ x1))]⟩)] [(304,TR 36 4 eQ (st5 k))]) [5,3] rfl (fun _=>⟨rfl,rfl⟩) (wY rfl) (fun _=>rfl) (wZ rfl) (by(try dsimp only);rw[hs5];(try dsimp only);exact bK (fun i=>bif Nat.beq i 304 then 302 else i) rfl rfl rfl rfl rfl ⟨.ptr,.ptr,.sv (SV.aa _),trivial⟩ ⟨⟨_,rfl,⟨.row rfl,trivial⟩⟩,⟨_,rfl,⟨.sv (SV.aa _),trivial⟩⟩,trivial⟩ ⟨⟨_,rfl,bB.refl _⟩,trivial⟩ (fun i hi=>by rw[bf (show i≠304 by omega)];rfl)) (fun k hk D hD=>?_) ?_
 have h:=ht5 k hk
 obtain⟨z9,WI⟩:∃q,st5 k=q:=⟨_,rfl⟩
 rw[WI]at h⊢
 dsimp only[AS.Sc,wB]
 try dsimp only at h
 refine lE h fun Wm Xj h=>?_
 rw[Xj]
 obtain⟨⟨⟨HZ,H6⟩,⟨H7,H8⟩⟩,Pm,h⟩:=bS h
 rw[Option.some.inj Pm]
 refine sr<|ag rfl<|dn<|af<|al (cs:=[.v (.bool false),slc 1 (List.map ak []),.v (.bool false),slc 1 (List.map ak [])]) (by exact⟨SV.aa _,imp_nil,SV.aa _,imp_nil,trivial⟩) rfl<|so rfl rfl rfl<|RT.done ?_
 refine ae.n ⟨rfl,?_⟩
 dsimp only[AS.Fl]
 refine aq<|ai mixed<|RT.ju .none (s:=.row _) rfl rfl rfl T<|ld rfl rfl (.cons rfl (.cons rfl (.cons rfl (.cons rfl (.nil)))))<|mv rfl<|lV rfl rfl rfl ?_
 obtain⟨⟨⟨iq,ir⟩,⟨uQ,uR⟩⟩,gZ,h⟩:=bS h
 refine cl (xw gZ) ⟨rfl,rfl,trivial⟩ ?_
 obtain⟨⟨⟨nH,nI⟩,⟨tv,tw⟩⟩,jd,h⟩:=bS h
 refine cl (HY jd) ⟨rfl,rfl,trivial⟩<|bl (l:=[⟨⟨nH,nI⟩,⟨tv,tw⟩⟩]) (e:=eQ) (.agg rfl (.nil)) rfl rfl rfl rfl rfl rfl<|bE h fun iC kp h=>aR (k:=[⟨⟨nH,nI⟩,⟨tv,tw⟩⟩]) (e:=eQ) rfl rfl rfl kp<|RT.jc (cells:=[_]) .none rfl rfl rfl rfl T rfl ?_
 refine RT.done ⟨by kernel_rfl,?_⟩
 refine aD.n ?_
 replace h:=Option.some.inj h
 refine⟨trivial,rfl,rfl,?_⟩
 try dsimp only
 rw[←h]
 try dsimp only
 exact bK (fun i=>bif Nat.beq i 304 then 19 else i) rfl rfl rfl rfl rfl ⟨.ptr,.ptr,.sv (SV.aa _),trivial⟩ ⟨⟨_,rfl,⟨.row rfl,trivial⟩⟩,⟨_,rfl,⟨.sv (SV.aa _),trivial⟩⟩,trivial⟩ ⟨⟨_,rfl,bB.refl _⟩,trivial⟩ (fun i hi=>by rw[bf (show i≠304 by omega)];rfl)
 rw[hn5]
 try dsimp only
 refine aD.n<|ae.n<|sr<|RT.ju .none (s:=.row _) rfl rfl rfl T<|an (s:=.row _) rfl<|dn<|aK (bh (i:=304) (E1:=36) (n:=4) (e:=eQ) (l:=z9) rfl)<|aj ?_
 obtain rfl:=O ho5
 exact R1 rfl
set_option maxHeartbeats 4000000 in
theorem CS{x0:Lr}{r:Lr×Int}(h:jV x0=some r):Pure Tryz.prog 16 [.agg (qO x0)] (.xV [.agg (qO r.1),.v (.int .i64 r.2)]):=by
 obtain⟨az,aA,aE,aF⟩:=x0
 refine ah Tryz.func16 rfl (Nat.le_of_ble_eq_true rfl) (fun b9 M vs hvs=>?_)
 unfold jV at h
 refine sr<|bx rfl<|al (cs:=[.v (.int .i64 0),slc 1 (List.map (eS 4 eQ) []),slc 1 (List.map (eS 4 eQ) []),slc 4 (List.map eQ [])]) (by exact⟨SV.aa _,imp_nil,imp_nil,imp_nil,trivial⟩) rfl<|ag rfl<|dn<|qq<|qq ?_
 refine aH h (fun j6=>AS.bw 76 [(1,.ptr 1 0),(2,.ptr 2 0),(23,.sv (.v (.bool j6)))] [(2,⟨26,[.sv (.v (.int .i64 0)),.sv (slc 1 (List.map (eS 4 eQ) [])),.sv (slc 1 (List.map (eS 4 eQ) [])),.sv (slc 4 (List.map eQ []))]⟩),(1,⟨26,[.sv (.v (.int .i64 az)),.sv (slc 1 (List.map (eS 4 eQ) aA)),.sv (slc 1 (List.map (eS 4 eQ) aE)),.sv (slc 4 (List.map eQ aF))]⟩)] []) (fun h=>?_) (fun PA h=>?_)
 refine af<|ld rfl rfl (.cons rfl (.cons rfl (.cons rfl (.cons rfl (.nil)))))<|bE h fun eE jS h=>cl (nP jS) ⟨rfl,trivial⟩<|lE h fun bV dH h=>nt rfl _ dH<|mv rfl<|bE h fun PF xq h=>?_
 cases bV
 refine RT.fieldAddr (.some rfl rfl) rfl T rfl<|RT.kV (.some rfl rfl) rfl rfl rfl T<|lE (F xq) fun dz gZ xq=>gn rfl gZ<|lE xq fun cX jd xq=>gg _ rfl rfl jd ?_
 obtain rfl:=O xq
 refine pF rfl<|mv rfl<|bE h fun afr uM h=>?_
 cases cX
 refine RT.fieldAddr (.some rfl rfl) rfl T rfl<|RT.kV (.some rfl rfl) rfl rfl rfl T<|lE (F uM) fun fu kM uM=>gg _ rfl rfl kM ?_
 obtain rfl:=O uM
 exact pF rfl<|dn<|⟨fu,h,wR []⟩
 obtain rfl:=O (V uM)
 exact ww<|ww<|ww<|pT rfl<|dn<|⟨true,h,wR []⟩
 obtain rfl:=O (V xq)
 refine ww<|ww<|ww<|ww<|pT rfl<|mv rfl<|bE h fun afs yF h=>?_
 obtain rfl:=O (V yF)
 exact ww<|ww<|ww<|pT rfl<|dn<|⟨true,h,wR []⟩
 try dsimp only
 refine ae.n ?_
 cases PA
 refine fs<|sr<|fa rfl rfl<|lV rfl rfl rfl<|lE (F h) fun fF mR h=>ln rfl mR<|ag rfl<|dn<|sr ?_
 obtain⟨⟨⟨CN,Ii⟩,⟨Ij,Ik⟩⟩,o9,h⟩:=bS h
 refine cl (fY o9) ⟨rfl,trivial⟩<|al (cs:=[.v (.bool false),slc 1 (List.map ak []),.v (.bool false),slc 1 (List.map ak [])]) (by exact⟨SV.aa _,imp_nil,SV.aa _,imp_nil,trivial⟩) rfl<|so rfl rfl rfl<|dn<|sr<|mv rfl<|ld rfl rfl (.cons rfl (.cons rfl (.cons rfl (.cons rfl (.nil)))))<|fa rfl rfl<|lV rfl rfl rfl<|bE h fun lI th h=>cl (lZ th) ⟨rfl,rfl,trivial⟩<|bl (l:=[lI]) (e:=(eS 4 eQ)) (.one rfl (.nil)) rfl rfl rfl rfl rfl rfl ?_
 refine bI (cs:=[_,_,_,_]) (cs':=[.v (.int .i64 fF),slc 1 (List.map (eS 4 eQ) [lI]),.v (.slice none 0 0),.v (.slice none 0 0)]) (.one rfl (.one rfl (.nil))) ⟨SV.aa _,SV.aa _,SV.aa _,SV.aa _,trivial⟩<|al (cs:=[.v (.int .i64 0),slc 1 (List.map (eS 4 eQ) []),.v (.slice none 0 0),.v (.slice none 0 0)]) (by exact⟨SV.aa _,imp_nil,SV.aa _,SV.aa _,trivial⟩) rfl<|so rfl rfl rfl<|dn<|aK (eG 6 2 303 24 1 rfl rfl rfl T)<|aK (eG 6 3 304 36 4 rfl rfl rfl T) ?_
 refine qq<|sr<|fa rfl rfl<|lV rfl rfl rfl<|mv rfl<|dn<|bE h fun e26 afu afv=>?_
 refine aL (fun(Nl:(List (List Qr))×(List Qr))=>AS.bw 76 [(2,.ptr 2 0),(6,.ptr 6 0)] [(6,⟨26,[.sv (.v (.int .i64 fF)),.sv (slc 1 (List.map (eS 4 eQ) [lI])),.row 307,.row 308]⟩),(2,⟨26,[.sv (.v (.int .i64 0)),.sv (slc 1 (List.map (eS 4 eQ) [])),.sv (slc 1 (List.map (eS 4 eQ) [])),.sv (slc 4 (List.map eQ []))]⟩)] [(307,TR 24 1 (eS 4 eQ) Nl.1),(308,TR 36 4 eQ Nl.2)]) (fun Nl=>Nl=e26) ?_ (fun Nl afw=>?_)
 refine aq ?_
 refine aM afu (fun Xq=>AS.bw 76 [(1,.ptr 1 0),(2,.ptr 2 0),(4,.sv (.v (.int .i64 fF))),(6,.ptr 6 0),(37,.sv (.v (.int .i64 az))),(38,.sv (.v (.int .i64 Xq.1)))] [(6,⟨26,[.sv (.v (.int .i64 fF)),.sv (slc 1 (List.map (eS 4 eQ) [lI])),.row 307,.row 308]⟩),(2,⟨26,[.sv (.v (.int .i64 0)),.sv (slc 1 (List.map (eS 4 eQ) [])),.sv (slc 1 (List.map (eS 4 eQ) [])),.sv (slc 4 (List.map eQ []))]⟩),(1,⟨26,[.sv (.v (.int .i64 az)),.sv (slc 1 (List.map (eS 4 eQ) aA)),.sv (slc 1 (List.map (eS 4 eQ) aE)),.sv (slc 4 (List.map eQ aF))]⟩)] [(307,TR 24 1 (eS 4 eQ) Xq.2.1),(308,TR 36 4 eQ Xq.2.2)]) (bK (fun i=>bif Nat.beq i 307 then 303 else bif Nat.beq i 308 then 304 else i) rfl rfl rfl rfl rfl ⟨.ptr,.ptr,.sv (SV.aa _),.ptr,.sv (SV.aa _),.sv (SV.aa _),trivial⟩ ⟨⟨_,rfl,⟨.sv (SV.aa _),.sv (SV.aa _),.row rfl,.row rfl,trivial⟩⟩,⟨_,rfl,⟨.sv (SV.aa _),.sv (SV.aa _),.sv (SV.aa _),.sv (SV.aa _),trivial⟩⟩,⟨_,rfl,⟨.sv (SV.aa _),.sv (SV.aa _),.sv (SV.aa _),.sv (SV.aa _),trivial⟩⟩,trivial⟩ ⟨⟨_,rfl,bB.refl _⟩,⟨_,rfl,bB.refl _⟩,trivial⟩ (fun i hi=>by rw[bf (show i≠307 by omega)];rw[bf (show i≠308 by omega)];rfl)) (fun Xq y26 G26 h afx afy=>?_)
 obtain⟨sF,vD,vE⟩:=Xq
 try dsimp only
 refine sr<|lE h fun nB xp h=>ls _ rfl rfl xp<|dn<|qq ?_
 cases nB
 refine cF<|aS<|ae.x<|ae.x<|aD.x<|ae.n ?_
 obtain rfl:=O (F h)
 exact⟨(vD,vE),afy _ rfl,wR []⟩
 refine cT<|aC<|ae.n<|qq<|aq<|sr<|mv rfl<|ag rfl<|dn<|sr<|mv rfl<|bE (V h) fun rV D0 h=>RT.rD (n:=4) (e:=eQ) .none rfl rfl T rfl T (by rfl) (by decide) (by exact⟨SV.aa _,imp_nil,SV.aa _,imp_nil,trivial⟩) D0<|an (s:=.row _) rfl<|dn<|qq<|sr<|mo (s:=.row _) rfl<|lE h fun yu FI h=>lL rfl rfl FI<|mv rfl<|dn<|bE h fun e34 afz CT=>?_
 refine aL (fun(sG:(List Qr))=>AS.bw 76 [(1,.ptr 1 0),(2,.ptr 2 0),(4,.sv (.v (.int .i64 fF))),(6,.ptr 6 0),(7,.sv (.v (.int .i64 sF))),(8,.row 42),(37,.sv (.v (.int .i64 az))),(38,.sv (.v (.int .i64 sF)))] [(6,⟨26,[.sv (.v (.int .i64 fF)),.sv (slc 1 (List.map (eS 4 eQ) [lI])),.row 307,.row 308]⟩),(2,⟨26,[.sv (.v (.int .i64 0)),.sv (slc 1 (List.map (eS 4 eQ) [])),.sv (slc 1 (List.map (eS 4 eQ) [])),.sv (slc 4 (List.map eQ []))]⟩),(1,⟨26,[.sv (.v (.int .i64 az)),.sv (slc 1 (List.map (eS 4 eQ) aA)),.sv (slc 1 (List.map (eS 4 eQ) aE)),.sv (slc 4 (List.map eQ aF))]⟩)] [(42,TR 36 4 eQ sG),(307,TR 24 1 (eS 4 eQ) vD),(308,TR 36 4 eQ vE)]) (fun sG=>sG=e34) ?_ (fun sG afA=>?_)
 refine aq ?_
 refine aM afz (fun Y0=>AS.bw 76 [(1,.ptr 1 0),(2,.ptr 2 0),(4,.sv (.v (.int .i64 fF))),(6,.ptr 6 0),(7,.sv (.v (.int .i64 sF))),(8,.row 42),(37,.sv (.v (.int .i64 az))),(38,.sv (.v (.int .i64 sF))),(44,.sv (.v (.int .i64 yu))),(45,.sv (.v (.int .i64 Y0.1)))] [(6,⟨26,[.sv (.v (.int .i64 fF)),.sv (slc 1 (List.map (eS 4 eQ) [lI])),.row 307,.row 308]⟩),(2,⟨26,[.sv (.v (.int .i64 0)),.sv (slc 1 (List.map (eS 4 eQ) [])),.sv (slc 1 (List.map (eS 4 eQ) [])),.sv (slc 4 (List.map eQ []))]⟩),(1,⟨26,[.sv (.v (.int .i64 az)),.sv (slc 1 (List.map (eS 4 eQ) aA)),.sv (slc 1 (List.map (eS 4 eQ) aE)),.sv (slc 4 (List.map eQ aF))]⟩)] [(42,TR 36 4 eQ Y0.2),(307,TR 24 1 (eS 4 eQ) vD),(308,TR 36 4 eQ vE)]) (wR []) (fun Y0 y34 G34 h afB afC=>?_)
 obtain⟨CO,CP⟩:=Y0
 try dsimp only
 refine sr<|lE h fun q9 h46 h=>ls _ rfl rfl h46<|dn<|qq ?_
 cases q9
 refine cF<|aS<|ae.x<|ae.x<|aD.x<|ae.n ?_
 obtain rfl:=O (F h)
 exact⟨CP,afC _ rfl,wR []⟩
 refine cT<|aC<|ae.n<|qq<|aq<|sr<|mv rfl<|ag rfl<|dn<|af<|mo (s:=.row _) rfl<|mv rfl<|fa rfl rfl<|lV rfl rfl rfl<|mv rfl<|mv rfl ?_
 obtain⟨⟨⟨UT,UU⟩,⟨UW,UX⟩⟩,GW,h⟩:=bS (V h)
 refine cl (EH GW) ⟨rfl,rfl,rfl,trivial⟩ ?_
 obtain⟨⟨⟨PB,PC⟩,⟨PD,PE⟩⟩,JZ,h⟩:=bS h
 refine cl (uO JZ) ⟨rfl,trivial⟩<|bE h fun Uc WQ h=>iR rfl rfl rfl WQ<|bE h fun l36 aaL h=>sA ⟨⟨PB,PC⟩,⟨PD,PE⟩⟩ rfl rfl rfl aaL<|RT.done<|aD.n<|ae.n<|af<|lE h fun NO WR h=>ad _ rfl rfl WR<|mv rfl<|RT.done ?_
 obtain rfl:=O h
 exact ae.n ⟨(NO,l36),afB _ rfl,wR []⟩
 subst afA
 try dsimp only
 refine ae.n<|qq<|aK (bh (i:=42) (E1:=36) (n:=4) (e:=eQ) (l:=sG) rfl)<|af<|fa rfl rfl<|RT.ju .none (s:=.row _) rfl rfl rfl T<|mv rfl<|bl (l:=[sG]) (e:=(eS 4 eQ)) (.one rfl (.nil)) rfl rfl rfl rfl rfl rfl<|bE CT fun SB WT CT=>aR (k:=[sG]) (e:=(eS 4 eQ)) rfl rfl rfl WT<|fa rfl rfl<|RT.jc (cells:=[_,_,_,_]) .none rfl rfl rfl rfl T rfl<|dn<|ai mixed<|fa rfl rfl<|RT.ju .none (s:=.row _) rfl rfl rfl T ?_
 refine fa rfl rfl<|lV rfl rfl rfl<|mv rfl ?_
 obtain⟨⟨⟨UY,UZ⟩,⟨U0,U1⟩⟩,h69,CT⟩:=bS CT
 refine cl (EH h69) ⟨rfl,rfl,rfl,trivial⟩ ?_
 obtain⟨⟨⟨LB,LC⟩,⟨LD,LF⟩⟩,WU,CT⟩:=bS CT
 refine cl (uO WU) ⟨rfl,trivial⟩<|bl (l:=[⟨⟨LB,LC⟩,⟨LD,LF⟩⟩]) (e:=eQ) (.agg rfl (.nil)) rfl rfl rfl rfl rfl rfl<|bE CT fun OT h72 CT=>aR (k:=[⟨⟨LB,LC⟩,⟨LD,LF⟩⟩]) (e:=eQ) rfl rfl rfl h72<|fa rfl rfl<|RT.jc (cells:=[_,_,_,_]) .none rfl rfl rfl rfl T rfl ?_
 refine RT.done ⟨by kernel_rfl,?_⟩
 refine aD.n<|ae.n<|af<|lE CT fun St h74 CT=>ad _ rfl rfl h74<|mv rfl<|RT.done ?_
 obtain rfl:=O CT
 exact ae.n ⟨(St,SB,OT),afx _ rfl,bK (fun i=>bif Nat.beq i 307 then 62 else bif Nat.beq i 308 then 72 else i) rfl rfl rfl rfl rfl ⟨.ptr,.ptr,.sv (SV.aa _),.ptr,.sv (SV.aa _),.sv (SV.aa _),trivial⟩ ⟨⟨_,rfl,⟨.sv (SV.aa _),.sv (SV.aa _),.row rfl,.row rfl,trivial⟩⟩,⟨_,rfl,⟨.sv (SV.aa _),.sv (SV.aa _),.sv (SV.aa _),.sv (SV.aa _),trivial⟩⟩,⟨_,rfl,⟨.sv (SV.aa _),.sv (SV.aa _),.sv (SV.aa _),.sv (SV.aa _),trivial⟩⟩,trivial⟩ ⟨⟨_,rfl,bB.refl _⟩,⟨_,rfl,bB.refl _⟩,trivial⟩ (fun i hi=>by rw[bf (show i≠307 by omega)];rw[bf (show i≠308 by omega)];rfl)⟩
 subst afw
 obtain⟨FY,FZ⟩:=Nl
 try dsimp only
 refine ae.n<|qq<|aK (bh (i:=307) (E1:=24) (n:=1) (e:=(eS 4 eQ)) (l:=FY) rfl)<|aK (bh (i:=308) (E1:=36) (n:=4) (e:=eQ) (l:=FZ) rfl)<|af<|ld rfl rfl (.cons rfl (.cons rfl (.cons rfl (.cons rfl (.nil)))))<|so rfl rfl rfl<|ag rfl<|dn<|aj ?_
 obtain rfl:=O afv
 exact RZ (.agg rfl rfl (.cons rfl (.cons rfl (.cons rfl (.cons rfl (.nil))))) rfl (.tmp rfl (.nil)))
 refine cT<|sr<|bI (cs:=[_,_,_,_]) (cs':=[.v (.int .i64 0),slc 1 (List.map (eS 4 eQ) []),slc 1 (List.map (eS 4 eQ) []),slc 4 (List.map eQ [])]) (.nil) ⟨SV.aa _,imp_nil,imp_nil,imp_nil,trivial⟩<|so rfl rfl rfl<|ag rfl<|dn<|aj<|ae.r ?_
 obtain rfl:=O (V h)
 exact RZ (.agg rfl rfl (.cons rfl (.cons rfl (.cons rfl (.cons rfl (.nil))))) rfl (.tmp rfl (.nil)))
theorem F6{x0:Lr}{r:Lr}(h:nO x0=some r):Pure Tryz.prog 48 [.agg (qO x0)] (.agg (qO r)):=by
 obtain⟨az,aA,aE,aF⟩:=x0
 refine ah Tryz.func48 rfl (Nat.le_of_ble_eq_true rfl) (fun b9 M vs hvs=>?_)
 unfold nO at h
 refine sr<|bx rfl<|al (cs:=[.v (.int .i64 0),slc 1 (List.map (eS 4 eQ) []),slc 1 (List.map (eS 4 eQ) []),slc 4 (List.map eQ [])]) (by exact⟨SV.aa _,imp_nil,imp_nil,imp_nil,trivial⟩) rfl<|dn<|sr ?_
 obtain⟨⟨⟨nL,nM⟩,⟨F0,F1⟩⟩,h4,h⟩:=bS h
 refine cl (fY h4) ⟨rfl,trivial⟩<|al (cs:=[.v (.bool false),slc 1 (List.map ak []),.v (.bool false),slc 1 (List.map ak [])]) (by exact⟨SV.aa _,imp_nil,SV.aa _,imp_nil,trivial⟩) rfl<|so rfl rfl rfl<|dn<|qq<|ai mixed<|fa rfl rfl<|lV rfl rfl rfl<|ld rfl rfl (.cons rfl (.cons rfl (.cons rfl (.cons rfl (.nil)))))<|fa rfl rfl<|lV rfl rfl rfl<|bE h fun cn ep h=>cl (sE ep) ⟨rfl,rfl,trivial⟩ ?_
 refine ld rfl rfl (.cons rfl (.cons rfl (.cons rfl (.cons rfl (.nil)))))<|fa rfl rfl<|lV rfl rfl rfl<|bE h fun cG fT h=>cl (sE fT) ⟨rfl,rfl,trivial⟩<|ld rfl rfl (.cons rfl (.cons rfl (.cons rfl (.cons rfl (.nil)))))<|fa rfl rfl<|lV rfl rfl rfl<|bE h fun c6 iS h=>cl (lZ iS) ⟨rfl,rfl,trivial⟩<|bI (cs:=[_,_,_,_]) (cs':=[.v (.int .i64 az),slc 1 (List.map (eS 4 eQ) cn),slc 1 (List.map (eS 4 eQ) cG),slc 4 (List.map eQ c6)]) (.one rfl (.one rfl (.one rfl (.one rfl (.nil))))) ⟨SV.aa _,SV.aa _,SV.aa _,SV.aa _,trivial⟩ ?_
 refine so rfl rfl rfl ?_
 refine RT.done ⟨by kernel_rfl,?_⟩
 refine ae.n<|aj ?_
 obtain rfl:=O h
 exact RZ (.agg rfl rfl (.cons rfl (.cons rfl (.cons rfl (.cons rfl (.nil))))) rfl (.nil))
theorem tL{x0:Lr}{x1:Int}{r:Lr×Int}(h:cf x0 x1=some r):Pure Tryz.prog 12 [.agg (qO x0),.v (.int .i64 x1)] (.xV [.agg (qO r.1),.v (.int .i64 r.2)]):=by
 obtain⟨az,aA,aE,aF⟩:=x0
 refine ah Tryz.func12 rfl (Nat.le_of_ble_eq_true rfl) (fun b9 M vs hvs=>?_)
 unfold cf at h
 refine sr<|bx rfl<|al (cs:=[.v (.int .i64 0),slc 1 (List.map (eS 4 eQ) []),slc 1 (List.map (eS 4 eQ) []),slc 4 (List.map eQ [])]) (by exact⟨SV.aa _,imp_nil,imp_nil,imp_nil,trivial⟩) rfl<|ag rfl<|dn<|qq<|qq ?_
 refine aH h (fun j6=>AS.bw 30 [(1,.sv (.v (.int .i64 x1))),(2,.ptr 2 0),(4,.ptr 4 0),(19,.sv (.v (.bool j6)))] [(4,⟨26,[.sv (.v (.int .i64 0)),.sv (slc 1 (List.map (eS 4 eQ) [])),.sv (slc 1 (List.map (eS 4 eQ) [])),.sv (slc 4 (List.map eQ []))]⟩),(2,⟨26,[.sv (.v (.int .i64 az)),.sv (slc 1 (List.map (eS 4 eQ) aA)),.sv (slc 1 (List.map (eS 4 eQ) aE)),.sv (slc 4 (List.map eQ aF))]⟩)] []) (fun h=>?_) (fun PG h=>?_)
 refine af<|ld rfl rfl (.cons rfl (.cons rfl (.cons rfl (.cons rfl (.nil)))))<|bE h fun x7 h7 h=>cl (nP h7) ⟨rfl,trivial⟩<|lE h fun x8 h8 h=>nt rfl _ h8<|mv rfl<|bE h fun U3 LM h=>?_
 cases x8
 refine gm rfl<|lE (F LM) fun eE jS LM=>RT.lss (.some rfl rfl) _ rfl rfl T jS ?_
 obtain rfl:=O LM
 refine pF rfl<|mv rfl<|bE h fun ajk Cz h=>?_
 cases eE
 refine gm rfl<|RT.fieldAddr (.some rfl rfl) rfl T rfl<|RT.kV (.some rfl rfl) rfl rfl rfl T<|lE (F Cz) fun cX jd Cz=>gn rfl jd<|lE Cz fun c6 iS Cz=>RT.geq (.some rfl rfl) _ rfl rfl T iS ?_
 obtain rfl:=O Cz
 exact pF rfl<|dn<|⟨c6,h,wR []⟩
 obtain rfl:=O (V Cz)
 exact ww<|ww<|ww<|ww<|ww<|pT rfl<|dn<|⟨true,h,wR []⟩
 obtain rfl:=O (V LM)
 refine ww<|ww<|pT rfl<|mv rfl<|bE h fun ajl hg9 h=>?_
 obtain rfl:=O (V hg9)
 exact ww<|ww<|ww<|ww<|ww<|pT rfl<|dn<|⟨true,h,wR []⟩
 try dsimp only
 refine ae.n ?_
 cases PG
 refine fs<|sr<|fa rfl rfl<|lV rfl rfl rfl<|mv rfl<|mv rfl<|lE (F h) fun gC lS h=>ad _ rfl rfl lS<|bE h fun gJ mY h=>RT.ua .none x1 gC rfl ⟨_,rfl⟩ ⟨_,rfl⟩ T mY<|fa rfl rfl<|RT.mU (cells:=[_,_,_,_]) .none (s:=.sv _) rfl rfl rfl T rfl<|dn<|sr<|ld rfl rfl (.cons rfl (.cons rfl (.cons rfl (.cons rfl (.nil))))) ?_
 obtain⟨⟨Il,Im,Io,Ip⟩,lJ,h⟩:=bS h
 refine cl (F6 lJ) ⟨rfl,trivial⟩<|so rfl rfl rfl<|ag rfl<|dn<|aj ?_
 obtain rfl:=O h
 exact RZ (.agg rfl rfl (.cons rfl (.cons rfl (.cons rfl (.cons rfl (.nil))))) rfl (.tmp rfl (.nil)))
 refine cT<|sr<|bI (cs:=[_,_,_,_]) (cs':=[.v (.int .i64 0),slc 1 (List.map (eS 4 eQ) []),slc 1 (List.map (eS 4 eQ) []),slc 4 (List.map eQ [])]) (.nil) ⟨SV.aa _,imp_nil,imp_nil,imp_nil,trivial⟩<|so rfl rfl rfl<|ag rfl<|dn<|aj<|ae.r ?_
 obtain rfl:=O (V h)
 exact RZ (.agg rfl rfl (.cons rfl (.cons rfl (.cons rfl (.cons rfl (.nil))))) rfl (.tmp rfl (.nil)))
theorem D6{x0:Qr}{x1:List Qr}{r:List Qr}(h:oJ x0 x1=some r):B0 Tryz.prog 55 [.agg (eQ x0),slc 4 (List.map eQ x1)] (TR 36 4 eQ r):=by
 obtain⟨⟨az,aA⟩,⟨aE,aF⟩⟩:=x0
 refine o4 Tryz.func55 rfl (Nat.le_of_ble_eq_true rfl) (fun b9 M vs hvs=>?_)
 unfold oJ at h
 refine sr<|bx rfl<|ag rfl<|dn<|aK (cY 4 304 36 4 rfl rfl T)<|sr<|mv rfl<|lE h fun x9 h9 h=>ln rfl h9<|bE h fun cn ep h=>RT.rD (n:=4) (e:=eQ) .none rfl rfl T rfl T (by rfl) (by decide) (by exact⟨SV.aa _,imp_nil,SV.aa _,imp_nil,trivial⟩) ep<|an (s:=.row _) rfl<|dn<|qq<|sr<|mv rfl<|lE h fun bV dH h=>ln rfl dH<|mv rfl<|dn<|bE h fun e8 Co uy=>?_
 refine aL (fun(dI:(List Qr))=>AS.bw 26 [(5,.row 10)] [] [(10,TR 36 4 eQ dI)]) (fun dI=>dI=e8) ?_ (fun dI Cp=>?_)
 refine aq ?_
 refine aM Co (fun s8=>AS.bw 26 [(2,.ptr 2 0),(5,.row 10),(11,.sv (slc 4 (List.map eQ x1))),(12,.sv (.v (.int .i64 bV))),(13,.sv (.v (.int .i64 s8.1)))] [(2,⟨36,[.sv (.v (.bool az)),.sv (slc 1 (List.map ak aA)),.sv (.v (.bool aE)),.sv (slc 1 (List.map ak aF))]⟩)] [(10,TR 36 4 eQ s8.2)]) (wR []) (fun s8 y8 G8 h Cq Cr=>?_)
 obtain⟨ga,gb⟩:=s8
 try dsimp only
 refine sr<|lE h fun cG fT h=>ls _ rfl rfl fT<|dn<|qq ?_
 cases cG
 refine cF<|aS<|ae.x<|ae.x<|aD.x<|ae.n ?_
 obtain rfl:=O (F h)
 exact⟨gb,Cr _ rfl,wR []⟩
 refine cT<|aC<|ae.n<|qq<|aq<|sr<|mv rfl ?_
 obtain⟨⟨⟨iq,ir⟩,⟨uQ,uR⟩⟩,gZ,h⟩:=bS (V h)
 refine ix rfl rfl gZ<|RT.nv (cs:=[_,_,_,_]) .none rfl T rfl rfl<|al (cs:=[.v (.bool false),slc 1 (List.map ak []),.v (.bool false),slc 1 (List.map ak [])]) (by exact⟨SV.aa _,imp_nil,SV.aa _,imp_nil,trivial⟩) rfl<|ag rfl<|so rfl rfl rfl<|dn<|af<|mo (s:=.row _) rfl<|mv rfl<|ld rfl rfl (.cons rfl (.cons rfl (.cons rfl (.cons rfl (.nil)))))<|ld rfl rfl (.cons rfl (.cons rfl (.cons rfl (.cons rfl (.nil))))) ?_
 obtain⟨⟨⟨k8,lf⟩,⟨lj,lp⟩⟩,kM,h⟩:=bS h
 refine cl (uN kM) ⟨rfl,rfl,trivial⟩<|bE h fun fy kN h=>iR rfl rfl rfl kN<|bE h fun tJ nG h=>sA ⟨⟨k8,lf⟩,⟨lj,lp⟩⟩ rfl rfl rfl nG<|RT.done<|aD.n<|ae.n<|af<|lE h fun eI mI h=>ad _ rfl rfl mI<|mv rfl<|RT.done ?_
 obtain rfl:=O h
 exact ae.n ⟨(eI,tJ),Cq _ rfl,wR []⟩
 subst Cp
 try dsimp only
 refine ae.n<|sr<|mo (s:=.row _) rfl<|an (s:=.row _) rfl<|dn<|aj ?_
 obtain rfl:=O uy
 exact⟨.inr rfl,_,.tmp rfl,rfl⟩
theorem D7{x0:Lr}{r:Int×(List (List Qr))×(List (List Qr))×(List Qr)}(h:l8 x0=some r):Ka Tryz.prog 48 [.agg (qO x0)] [.s (.v (.int .i64 r.1)),.s (slc 1 (List.map (eS 4 eQ) r.2.1)),.r (TR 24 1 (eS 4 eQ) r.2.2.1),.r (TR 36 4 eQ r.2.2.2)]:=by
 obtain⟨az,aA,aE,aF⟩:=x0
 refine CL (t:=2) (T:=26) Tryz.func48 rfl (Nat.le_of_ble_eq_true rfl) rfl rfl (fun b9 M vs hvs=>?_)
 unfold l8 at h
 refine sr<|bx rfl<|al (cs:=[.v (.int .i64 0),slc 1 (List.map (eS 4 eQ) []),.v (.slice none 0 0),.v (.slice none 0 0)]) (by exact⟨SV.aa _,imp_nil,SV.aa _,SV.aa _,trivial⟩) rfl<|dn<|aK (eG 2 2 303 24 1 rfl rfl rfl T)<|aK (eG 2 3 304 36 4 rfl rfl rfl T)<|sr ?_
 obtain⟨⟨⟨nL,nM⟩,⟨F0,F1⟩⟩,h4,h⟩:=bS h
 refine cl (fY h4) ⟨rfl,trivial⟩<|al (cs:=[.v (.bool false),slc 1 (List.map ak []),.v (.bool false),slc 1 (List.map ak [])]) (by exact⟨SV.aa _,imp_nil,SV.aa _,imp_nil,trivial⟩) rfl<|so rfl rfl rfl<|dn<|qq<|ai mixed<|fa rfl rfl<|lV rfl rfl rfl<|ld rfl rfl (.cons rfl (.cons rfl (.cons rfl (.cons rfl (.nil)))))<|fa rfl rfl<|lV rfl rfl rfl<|bE h fun cn ep h=>cl (sE ep) ⟨rfl,rfl,trivial⟩ ?_
 refine ld rfl rfl (.cons rfl (.cons rfl (.cons rfl (.cons rfl (.nil)))))<|fa rfl rfl<|lV rfl rfl rfl<|bE h fun cG fT h=>cN (D5 fT) ⟨rfl,rfl,trivial⟩<|ld rfl rfl (.cons rfl (.cons rfl (.cons rfl (.cons rfl (.nil)))))<|fa rfl rfl<|lV rfl rfl rfl<|bE h fun c6 iS h=>cN (D6 iS) ⟨rfl,rfl,trivial⟩<|RT.Xm .none (.one rfl (.one rfl (.row rfl rfl (.row rfl rfl (.nil))))) [.val (.v (.int .i64 az)),.val (slc 1 (List.map (eS 4 eQ) cn)),.row 14,.row 18] (fun _=>rfl) rfl ⟨(fun _ _ q_=>One.h _ _ q_),(fun _ _ q_=>One.h _ _ q_),⟨_,rfl⟩,⟨_,rfl⟩,trivial⟩ [14,18] rfl rfl T ?_
 refine RT.FU .none rfl rfl rfl ⟨(fun _ _ q_=>One.h _ _ q_),(fun _ _ q_=>One.h _ _ q_),⟨_,rfl⟩,⟨_,rfl⟩,trivial⟩ rfl rfl [14,18] rfl [.sv (.v (.int .i64 az)),.sv (slc 1 (List.map (eS 4 eQ) cn)),.row 14,.row 18] rfl ?_
 refine RT.done ⟨by kernel_rfl,?_⟩
 refine ae.n<|aj ?_
 obtain rfl:=O h
 exact⟨.inr rfl,2,[14,18],rfl,rfl,⟨rfl,rfl,trivial⟩,by decide⟩
set_option maxHeartbeats 4000000 in
theorem yL{x0:Lr}{x1:List Cn}{r:Lr×Int}(h:lq x0 x1=some r):Pure Tryz.prog 75 [.agg (qO x0),slc 5 (List.map RH x1)] (.xV [.agg (qO r.1),.v (.int .i64 r.2)]):=by
 obtain⟨az,aA,aE,aF⟩:=x0
 refine ah Tryz.func75 rfl (Nat.le_of_ble_eq_true rfl) (fun b9 M vs hvs=>?_)
 unfold lq at h
 refine sr<|bx rfl<|al (cs:=[.v (.int .i64 0),slc 1 (List.map (eS 4 eQ) []),slc 1 (List.map (eS 4 eQ) []),slc 4 (List.map eQ [])]) (by exact⟨SV.aa _,imp_nil,imp_nil,imp_nil,trivial⟩) rfl<|ag rfl<|dn<|qq<|qq ?_
 refine aH h (fun j3=>AS.bw 67 [(1,.sv (slc 5 (List.map RH x1))),(2,.ptr 2 0),(4,.ptr 4 0),(22,.sv (.v (.bool j3)))] [(4,⟨26,[.sv (.v (.int .i64 0)),.sv (slc 1 (List.map (eS 4 eQ) [])),.sv (slc 1 (List.map (eS 4 eQ) [])),.sv (slc 4 (List.map eQ []))]⟩),(2,⟨26,[.sv (.v (.int .i64 az)),.sv (slc 1 (List.map (eS 4 eQ) aA)),.sv (slc 1 (List.map (eS 4 eQ) aE)),.sv (slc 4 (List.map eQ aF))]⟩)] []) (fun h=>?_) (fun PI h=>?_)
 refine af<|ld rfl rfl (.cons rfl (.cons rfl (.cons rfl (.cons rfl (.nil)))))<|bE h fun bV dH h=>cl (nP dH) ⟨rfl,trivial⟩<|lE h fun fR jn h=>nt rfl _ jn<|mv rfl<|bE h fun PJ xC h=>?_
 cases fR
 refine RT.fieldAddr (.some rfl rfl) rfl T rfl<|RT.kV (.some rfl rfl) rfl rfl rfl T<|lE (F xC) fun cX jd xC=>gn rfl jd<|gm rfl<|lE xC fun iC kp xC=>gn rfl kp<|lE xC fun ik nF xC=>RT.add (.some rfl rfl) _ rfl rfl T nF<|lE xC fun eH jT xC=>gg _ rfl rfl jT ?_
 obtain rfl:=O xC
 exact pF rfl<|dn<|⟨eH,h,wR []⟩
 obtain rfl:=O (V xC)
 exact ww<|ww<|ww<|ww<|ww<|ww<|ww<|pT rfl<|dn<|⟨true,h,wR []⟩
 try dsimp only
 refine ae.n ?_
 cases PI
 refine fs<|qq<|sr<|mv rfl<|lE (F h) fun gC lS h=>ln rfl lS<|mv rfl<|dn<|bE h fun e9 hl9 NR=>?_
 refine aL (fun(PO:Unit)=>AS.bw 67 [(1,.sv (slc 5 (List.map RH x1))),(2,.ptr 2 0),(4,.ptr 4 0)] [(4,⟨26,[.sv (.v (.int .i64 0)),.sv (slc 1 (List.map (eS 4 eQ) [])),.sv (slc 1 (List.map (eS 4 eQ) [])),.sv (slc 4 (List.map eQ []))]⟩),(2,⟨26,[.sv (.v (.int .i64 az)),.sv (slc 1 (List.map (eS 4 eQ) aA)),.sv (slc 1 (List.map (eS 4 eQ) aE)),.sv (slc 4 (List.map eQ aF))]⟩)] []) (fun PO=>.inl PO=e9) ?_ (fun PO hx9=>?_)
 refine aq ?_
 refine aM hl9 (fun s9=>AS.bw 67 [(1,.sv (slc 5 (List.map RH x1))),(2,.ptr 2 0),(4,.ptr 4 0),(24,.sv (slc 5 (List.map RH x1))),(25,.sv (.v (.int .i64 gC))),(26,.sv (.v (.int .i64 s9)))] [(4,⟨26,[.sv (.v (.int .i64 0)),.sv (slc 1 (List.map (eS 4 eQ) [])),.sv (slc 1 (List.map (eS 4 eQ) [])),.sv (slc 4 (List.map eQ []))]⟩),(2,⟨26,[.sv (.v (.int .i64 az)),.sv (slc 1 (List.map (eS 4 eQ) aA)),.sv (slc 1 (List.map (eS 4 eQ) aE)),.sv (slc 4 (List.map eQ aF))]⟩)] []) (wR []) (fun AT y9 G9 h hG9 U9=>?_)
 try dsimp only
 refine sr<|lE h fun fF mR h=>ls _ rfl rfl mR<|dn<|qq ?_
 cases fF
 refine cF<|aS<|ae.x<|ae.x<|aD.x<|ae.n ?_
 obtain rfl:=O (F h)
 exact⟨(),U9 _ rfl,wR []⟩
 refine cT<|aC<|ae.n<|qq<|aq<|sr ?_
 obtain⟨⟨CN,⟨⟨Ii,Ij⟩,⟨Ik,U4⟩⟩⟩,o9,h⟩:=bS (V h)
 refine ix rfl rfl o9<|RT.nv (cs:=[_,_,_,_,_]) .none rfl T rfl rfl<|al (cs:=[slc 4 (List.map eQ []),.v (.bool false),slc 1 (List.map ak []),.v (.bool false),slc 1 (List.map ak [])]) (by exact⟨imp_nil,SV.aa _,imp_nil,SV.aa _,imp_nil,trivial⟩) rfl<|so rfl rfl rfl<|dn<|sr<|fa rfl rfl<|lV rfl rfl rfl<|lE h fun fI mZ h=>ln rfl mZ<|fa rfl rfl<|lV rfl rfl rfl<|lE h fun oB xm h=>gt _ rfl rfl xm ?_
 refine dn ?_
 cases oB
 refine cF<|aC<|aD.n<|ae.n<|af<|lE (F h) fun oU Bf h=>ad _ rfl rfl Bf<|mv rfl<|RT.done ?_
 obtain rfl:=O h
 exact ae.n ⟨oU,hG9 _ rfl,wR []⟩
 refine cT<|sr<|bI (cs:=[_,_,_,_]) (cs':=[.v (.int .i64 0),slc 1 (List.map (eS 4 eQ) []),slc 1 (List.map (eS 4 eQ) []),slc 4 (List.map eQ [])]) (.nil) ⟨SV.aa _,imp_nil,imp_nil,imp_nil,trivial⟩<|so rfl rfl rfl<|ag rfl<|dn<|aj<|aD.r<|ae.r ?_
 obtain rfl:=O (V h)
 have he9:=U9 _ rfl
 subst he9
 refine ae.r<|aD.r<|ae.r<|ae.r ?_
 obtain rfl:=O NR
 exact RZ (.agg rfl rfl (.cons rfl (.cons rfl (.cons rfl (.cons rfl (.nil))))) rfl (.tmp rfl (.nil)))
 subst hx9
 try dsimp only
 refine ae.n<|sr<|ld rfl rfl (.cons rfl (.cons rfl (.cons rfl (.cons rfl (.nil))))) ?_
 obtain⟨⟨uV,uW,Iq,Ir⟩,xp,NR⟩:=bS NR
 refine RT.Pt .none (D7 xp) [303,304] (by decide) rfl ⟨⟨rfl,T⟩,⟨rfl,T⟩,trivial⟩ rfl ⟨rfl,trivial⟩ T<|al (cs:=[.v (.int .i64 0),slc 1 (List.map (eS 4 eQ) []),.v (.slice none 0 0),.v (.slice none 0 0)]) (by exact⟨SV.aa _,imp_nil,SV.aa _,SV.aa _,trivial⟩) rfl<|RT.FU .none rfl rfl rfl ⟨(fun _ _ q_=>One.h _ _ q_),(fun _ _ q_=>One.h _ _ q_),⟨_,rfl⟩,⟨_,rfl⟩,trivial⟩ rfl rfl [303,304] rfl [.sv (.v (.int .i64 uV)),.sv (slc 1 (List.map (eS 4 eQ) uW)),.row 303,.row 304] rfl<|dn<|qq ?_
 refine sr<|mv rfl<|lE NR fun wI FE NR=>ln rfl FE<|mv rfl<|dn<|bE NR fun e15 afD afE=>?_
 refine aL (fun(Nm:(List (List Qr))×(List Qr))=>AS.bw 67 [(4,.ptr 4 0),(8,.ptr 8 0)] [(8,⟨26,[.sv (.v (.int .i64 uV)),.sv (slc 1 (List.map (eS 4 eQ) uW)),.row 307,.row 308]⟩),(4,⟨26,[.sv (.v (.int .i64 0)),.sv (slc 1 (List.map (eS 4 eQ) [])),.sv (slc 1 (List.map (eS 4 eQ) [])),.sv (slc 4 (List.map eQ []))]⟩)] [(307,TR 24 1 (eS 4 eQ) Nm.1),(308,TR 36 4 eQ Nm.2)]) (fun Nm=>Nm=e15) ?_ (fun Nm afF=>?_)
 refine aq ?_
 refine aM afD (fun Xs=>AS.bw 67 [(4,.ptr 4 0),(8,.ptr 8 0),(40,.sv (slc 5 (List.map RH x1))),(41,.sv (.v (.int .i64 wI))),(42,.sv (.v (.int .i64 Xs.1)))] [(8,⟨26,[.sv (.v (.int .i64 uV)),.sv (slc 1 (List.map (eS 4 eQ) uW)),.row 307,.row 308]⟩),(4,⟨26,[.sv (.v (.int .i64 0)),.sv (slc 1 (List.map (eS 4 eQ) [])),.sv (slc 1 (List.map (eS 4 eQ) [])),.sv (slc 4 (List.map eQ []))]⟩)] [(307,TR 24 1 (eS 4 eQ) Xs.2.1),(308,TR 36 4 eQ Xs.2.2)]) (bK (fun i=>bif Nat.beq i 307 then 303 else bif Nat.beq i 308 then 304 else i) rfl rfl rfl rfl rfl ⟨.ptr,.ptr,.sv (SV.aa _),.sv (SV.aa _),.sv (SV.aa _),trivial⟩ ⟨⟨_,rfl,⟨.sv (SV.aa _),.sv (SV.aa _),.row rfl,.row rfl,trivial⟩⟩,⟨_,rfl,⟨.sv (SV.aa _),.sv (SV.aa _),.sv (SV.aa _),.sv (SV.aa _),trivial⟩⟩,trivial⟩ ⟨⟨_,rfl,bB.refl _⟩,⟨_,rfl,bB.refl _⟩,trivial⟩ (fun i hi=>by rw[bf (show i≠307 by omega)];rw[bf (show i≠308 by omega)];rfl)) (fun Xs y15 G15 h afG afH=>?_)
 obtain⟨F3,By,Bz⟩:=Xs
 try dsimp only
 refine sr<|lE h fun zQ Jt h=>ls _ rfl rfl Jt<|dn<|qq ?_
 cases zQ
 refine cF<|aS<|ae.x<|ae.x<|aD.x<|ae.n ?_
 obtain rfl:=O (F h)
 exact⟨(By,Bz),afH _ rfl,wR []⟩
 refine cT<|aC<|ae.n<|qq<|aq<|sr ?_
 obtain⟨⟨Ey,⟨⟨HL,U5⟩,⟨U6,U7⟩⟩⟩,FI,h⟩:=bS (V h)
 refine ix rfl rfl FI<|RT.nv (cs:=[_,_,_,_,_]) .none rfl T rfl rfl<|al (cs:=[slc 4 (List.map eQ []),.v (.bool false),slc 1 (List.map ak []),.v (.bool false),slc 1 (List.map ak [])]) (by exact⟨imp_nil,SV.aa _,imp_nil,SV.aa _,imp_nil,trivial⟩) rfl<|so rfl rfl rfl<|dn<|qq<|ai mixed<|fa rfl rfl<|RT.ju .none (s:=.row _) rfl rfl rfl T<|fa rfl rfl<|lV rfl rfl rfl<|fa rfl rfl<|lV rfl rfl rfl ?_
 refine lE h fun xS Be h=>ln rfl Be<|bE h fun GX O2 h=>cl (D3 O2) ⟨rfl,rfl,trivial⟩<|bl (l:=[GX]) (e:=(eS 4 eQ)) (.one rfl (.nil)) rfl rfl rfl rfl rfl rfl<|bE h fun yq JZ h=>aR (k:=[GX]) (e:=(eS 4 eQ)) rfl rfl rfl JZ<|fa rfl rfl<|RT.jc (cells:=[_,_,_,_]) .none rfl rfl rfl rfl T rfl ?_
 refine RT.done ⟨by kernel_rfl,?_⟩
 refine ae.n<|ai mixed<|fa rfl rfl<|RT.ju .none (s:=.row _) rfl rfl rfl T<|fa rfl rfl<|ld rfl rfl (.cons rfl (.cons rfl (.cons rfl (.cons rfl (.nil))))) ?_
 obtain⟨⟨⟨LG,LH⟩,⟨LI,LJ⟩⟩,Sy,h⟩:=bS h
 refine cl (jm Sy) ⟨rfl,trivial⟩<|bl (l:=[⟨⟨LG,LH⟩,⟨LI,LJ⟩⟩]) (e:=eQ) (.agg rfl (.nil)) rfl rfl rfl rfl rfl rfl<|bE h fun NP h63 h=>aR (k:=[⟨⟨LG,LH⟩,⟨LI,LJ⟩⟩]) (e:=eQ) rfl rfl rfl h63<|fa rfl rfl<|RT.jc (cells:=[_,_,_,_]) .none rfl rfl rfl rfl T rfl ?_
 refine RT.done ⟨by kernel_rfl,?_⟩
 refine aD.n<|ae.n<|af<|lE h fun OR Up h=>ad _ rfl rfl Up<|mv rfl<|RT.done ?_
 obtain rfl:=O h
 exact ae.n ⟨(OR,yq,NP),afG _ rfl,bK (fun i=>bif Nat.beq i 307 then 55 else bif Nat.beq i 308 then 63 else i) rfl rfl rfl rfl rfl ⟨.ptr,.ptr,.sv (SV.aa _),.sv (SV.aa _),.sv (SV.aa _),trivial⟩ ⟨⟨_,rfl,⟨.sv (SV.aa _),.sv (SV.aa _),.row rfl,.row rfl,trivial⟩⟩,⟨_,rfl,⟨.sv (SV.aa _),.sv (SV.aa _),.sv (SV.aa _),.sv (SV.aa _),trivial⟩⟩,trivial⟩ ⟨⟨_,rfl,bB.refl _⟩,⟨_,rfl,bB.refl _⟩,trivial⟩ (fun i hi=>by rw[bf (show i≠307 by omega)];rw[bf (show i≠308 by omega)];rfl)⟩
 subst afF
 obtain⟨F4,F5⟩:=Nm
 try dsimp only
 refine ae.n<|qq<|aK (bh (i:=307) (E1:=24) (n:=1) (e:=(eS 4 eQ)) (l:=F4) rfl)<|aK (bh (i:=308) (E1:=36) (n:=4) (e:=eQ) (l:=F5) rfl)<|af<|ld rfl rfl (.cons rfl (.cons rfl (.cons rfl (.cons rfl (.nil)))))<|so rfl rfl rfl<|ag rfl<|dn<|aj ?_
 obtain rfl:=O afE
 exact RZ (.agg rfl rfl (.cons rfl (.cons rfl (.cons rfl (.cons rfl (.nil))))) rfl (.tmp rfl (.nil)))
 refine cT<|sr<|bI (cs:=[_,_,_,_]) (cs':=[.v (.int .i64 0),slc 1 (List.map (eS 4 eQ) []),slc 1 (List.map (eS 4 eQ) []),slc 4 (List.map eQ [])]) (.nil) ⟨SV.aa _,imp_nil,imp_nil,imp_nil,trivial⟩<|so rfl rfl rfl<|ag rfl<|dn<|aj<|ae.r ?_
 obtain rfl:=O (V h)
 exact RZ (.agg rfl rfl (.cons rfl (.cons rfl (.cons rfl (.cons rfl (.nil))))) rfl (.tmp rfl (.nil)))
theorem wh{x0:Lr}{x1:List Qr}{x2:Qr}{r:Lr×Int}(h:dP x0 x1 x2=some r):Pure Tryz.prog 28 [.agg (qO x0),slc 4 (List.map eQ x1),.agg (eQ x2)] (.xV [.agg (qO r.1),.v (.int .i64 r.2)]):=by
 obtain⟨az,aA,aE,aF⟩:=x0
 obtain⟨⟨jy,jz⟩,⟨nJ,nK⟩⟩:=x2
 refine ah Tryz.func28 rfl (Nat.le_of_ble_eq_true rfl) (fun b9 M vs hvs=>?_)
 unfold dP at h
 refine sr<|bx rfl<|bx rfl<|al (cs:=[.v (.int .i64 0),slc 1 (List.map (eS 4 eQ) []),slc 1 (List.map (eS 4 eQ) []),slc 4 (List.map eQ [])]) (by exact⟨SV.aa _,imp_nil,imp_nil,imp_nil,trivial⟩) rfl<|ag rfl<|dn<|sr<|ld rfl rfl (.cons rfl (.cons rfl (.cons rfl (.cons rfl (.nil)))))<|mv rfl<|ld rfl rfl (.cons rfl (.cons rfl (.cons rfl (.cons rfl (.nil)))))<|bI (cs:=[_,_,_,_,_]) (cs':=[slc 4 (List.map eQ x1),.v (.bool jy),slc 1 (List.map ak jz),.v (.bool nJ),slc 1 (List.map ak nK)]) (.one rfl (.agg rfl (.nil))) ⟨SV.aa _,SV.aa _,SV.aa _,SV.aa _,SV.aa _,trivial⟩ ?_
 refine bl (l:=[⟨x1,⟨⟨jy,jz⟩,⟨nJ,nK⟩⟩⟩]) (e:=RH) (.agg rfl (.nil)) rfl rfl rfl rfl rfl rfl ?_
 obtain⟨⟨⟨kg,kj,PK,PL⟩,v7⟩,jn,h⟩:=bS h
 refine cl (yL jn) ⟨rfl,rfl,trivial⟩<|ex rfl rfl<|ex rfl rfl<|so rfl rfl rfl<|ag rfl<|dn<|aj ?_
 obtain rfl:=O h
 exact RZ (.agg rfl rfl (.cons rfl (.cons rfl (.cons rfl (.cons rfl (.nil))))) rfl (.tmp rfl (.nil)))
theorem yM{x0:Lr}{x1:List Qr}{x2:Qr}{r:Lr×Int}(h:fC x0 x1 x2=some r):Pure Tryz.prog 30 [.agg (qO x0),slc 4 (List.map eQ x1),.agg (eQ x2)] (.xV [.agg (qO r.1),.v (.int .i64 r.2)]):=by
 obtain⟨az,aA,aE,aF⟩:=x0
 obtain⟨⟨jy,jz⟩,⟨nJ,nK⟩⟩:=x2
 refine ah Tryz.func30 rfl (Nat.le_of_ble_eq_true rfl) (fun b9 M vs hvs=>?_)
 unfold fC at h
 refine sr<|bx rfl<|bx rfl<|al (cs:=[.v (.int .i64 0),slc 1 (List.map (eS 4 eQ) []),slc 1 (List.map (eS 4 eQ) []),slc 4 (List.map eQ [])]) (by exact⟨SV.aa _,imp_nil,imp_nil,imp_nil,trivial⟩) rfl<|ag rfl<|dn<|qq<|ai mixed ?_
 obtain⟨⟨⟨CQ,CR⟩,⟨aaB,aaC⟩⟩,h9,h⟩:=bS h
 refine cl (fY h9) ⟨rfl,trivial⟩<|mv rfl<|bE h fun eE jS h=>cl (lZ jS) ⟨rfl,rfl,trivial⟩<|ld rfl rfl (.cons rfl (.cons rfl (.cons rfl (.cons rfl (.nil))))) ?_
 obtain⟨⟨⟨rF,rG⟩,⟨LK,LL⟩⟩,jn,h⟩:=bS h
 refine cl (uO jn) ⟨rfl,trivial⟩<|bI (cs:=[_,_,_,_,_]) (cs':=[slc 4 (List.map eQ eE),.v (.bool rF),slc 1 (List.map ak rG),.v (.bool LK),slc 1 (List.map ak LL)]) (.one rfl (.agg rfl (.nil))) ⟨SV.aa _,SV.aa _,SV.aa _,SV.aa _,SV.aa _,trivial⟩<|al (cs:=[slc 4 (List.map eQ []),.v (.bool false),slc 1 (List.map ak []),.v (.bool false),slc 1 (List.map ak [])]) (by exact⟨imp_nil,SV.aa _,imp_nil,SV.aa _,imp_nil,trivial⟩) rfl<|so rfl rfl rfl ?_
 refine RT.done ⟨by kernel_rfl,?_⟩
 refine ae.n<|sr<|ld rfl rfl (.cons rfl (.cons rfl (.cons rfl (.cons rfl (.nil)))))<|mv rfl<|ld rfl rfl (.cons rfl (.cons rfl (.cons rfl (.cons rfl (.nil)))))<|bI (cs:=[_,_,_,_,_]) (cs':=[slc 4 (List.map eQ x1),.v (.bool jy),slc 1 (List.map ak jz),.v (.bool nJ),slc 1 (List.map ak nK)]) (.one rfl (.agg rfl (.nil))) ⟨SV.aa _,SV.aa _,SV.aa _,SV.aa _,SV.aa _,trivial⟩<|ld rfl rfl (.cons rfl (.cons rfl (.cons rfl (.cons rfl (.cons rfl (.nil)))))) ?_
 refine bl (l:=[⟨x1,⟨⟨jy,jz⟩,⟨nJ,nK⟩⟩⟩,⟨eE,⟨⟨rF,rG⟩,⟨LK,LL⟩⟩⟩]) (e:=RH) (.agg rfl (.agg rfl (.nil))) rfl rfl rfl rfl rfl rfl ?_
 obtain⟨⟨⟨uC,uD,PM,PN⟩,Nj⟩,jT,h⟩:=bS h
 refine cl (yL jT) ⟨rfl,rfl,trivial⟩<|ex rfl rfl<|ex rfl rfl<|so rfl rfl rfl<|ag rfl<|dn<|aj ?_
 obtain rfl:=O h
 exact RZ (.agg rfl rfl (.cons rfl (.cons rfl (.cons rfl (.cons rfl (.nil))))) rfl (.tmp rfl (.nil)))
theorem Iw{x0:Lr}{x1:Lr}{r:Bool}(h:pK x0 x1=some r):Pure Tryz.prog 14 [.agg (qO x0),.agg (qO x1)] (.v (.bool r)):=by
 obtain⟨az,aA,aE,aF⟩:=x0
 obtain⟨aZ,aY,cI,cJ⟩:=x1
 refine ah Tryz.func14 rfl (Nat.le_of_ble_eq_true rfl) (fun b9 M vs hvs=>?_)
 unfold pK at h
 refine sr<|bx rfl<|bx rfl<|ag rfl<|dn<|qq<|qq<|ai mixed<|ld rfl rfl (.cons rfl (.cons rfl (.cons rfl (.cons rfl (.nil))))) ?_
 obtain⟨⟨xA,xB,aaD,aaE⟩,h6,h⟩:=bS h
 refine cl (qS h6) ⟨rfl,trivial⟩<|ld rfl rfl (.cons rfl (.cons rfl (.cons rfl (.cons rfl (.nil))))) ?_
 obtain⟨⟨og,oh,Is,It⟩,h8,h⟩:=bS h
 refine cl (qS h8) ⟨rfl,trivial⟩<|lE h fun x9 h9 h=>RT.Xk .none rfl rfl T h9 ?_
 refine RT.done ⟨by kernel_rfl,?_⟩
 refine ae.n ?_
 cases x9
 refine fs<|qq ?_
 refine aH (F h) (fun j6=>AS.bw 29 [(4,.sv (.v (.bool j6)))] [] []) (fun h=>?_) (fun aaF h=>?_)
 refine af<|fa rfl rfl<|lV rfl rfl rfl<|fa rfl rfl<|lV rfl rfl rfl<|bE h fun cG fT h=>cl (yI fT) ⟨rfl,rfl,trivial⟩<|mv rfl<|bE h fun U8 LM h=>?_
 cases cG
 obtain rfl:=O (F LM)
 refine ww<|ww<|ww<|ww<|ww<|pF rfl<|mv rfl<|bE h fun ajm hg9 h=>?_
 obtain rfl:=O (F hg9)
 exact ww<|ww<|ww<|ww<|ww<|pF rfl<|ag rfl<|dn<|⟨false,h,wR []⟩
 refine RT.fieldAddr (.some rfl rfl) rfl T rfl<|RT.kV (.some rfl rfl) rfl rfl rfl T<|RT.fieldAddr (.some rfl rfl) rfl T rfl<|RT.kV (.some rfl rfl) rfl rfl rfl T<|bE (V LM) fun ik nF LM=>gc (yI nF) ⟨rfl,rfl,trivial⟩ ?_
 obtain rfl:=O LM
 refine pT rfl<|mv rfl<|bE h fun ajn Cz h=>?_
 cases ik
 obtain rfl:=O (F Cz)
 exact ww<|ww<|ww<|ww<|ww<|pF rfl<|ag rfl<|dn<|⟨false,h,wR []⟩
 refine RT.fieldAddr (.some rfl rfl) rfl T rfl<|RT.kV (.some rfl rfl) rfl rfl rfl T<|RT.fieldAddr (.some rfl rfl) rfl T rfl<|RT.kV (.some rfl rfl) rfl rfl rfl T<|bE (V Cz) fun fF mR Cz=>gc (l6 mR) ⟨rfl,rfl,trivial⟩ ?_
 obtain rfl:=O Cz
 exact pT rfl<|ag rfl<|dn<|⟨fF,h,wR []⟩
 try dsimp only
 refine ae.n<|aj ?_
 obtain rfl:=O h
 exact R1 rfl
 refine cT<|sr<|ag rfl<|dn<|aj<|ae.r ?_
 obtain rfl:=O (V h)
 exact R1 rfl
end Go.Proofs.YtfoldppidpmchaaGreat
