/- A part of the proof: the framework, the plain functions, the followed functions, the plain laws. -/
import Derived.Test.YtningmnklfpfjaaGreatPTO2
set_option linter.unusedVariables false
set_option linter.unusedSimpArgs false
namespace Go.Proofs.YtningmnklfpfjaaGreat
open Go.Fw Go.Fw.Z Go.RowKit
theorem pL{x0:List Nat}{x1:Nat}{r:Nat×List Nat}(h:ia x0 x1=some r):IB Tryz.prog 204 [.row 1000,.sv (.v (.int .u64 ((x1:Nat):Int)))] (TR 130 1 ah x0) (.sv (.v (.int .u64 ((r.1:Nat):Int)))) (List.flatMap ah r.2):=by
 refine wh Tryz.func204 rfl (Nat.le_of_ble_eq_true rfl) rfl rfl (fun cE M v0=>?_)
 unfold ia at h
 refine sr<|ag rfl<|dn<|sr<|ag rfl<|dn<|qq<|sr<|mo (s:=.row _) rfl<|lE h fun x9 h9 h=>lL rfl rfl h9<|lE h fun dB fM h=>sb _ rfl rfl fM<|ag rfl<|dn<|bE h fun e8 Dg wE=>?_
 refine aV (fun(D3:Nat×(List Nat))=>AS.bG 34 [(5,.sv (.v (.int .u64 ((D3.1:Nat):Int))))] [] [(1000,TR 130 1 ah D3.2)]) (fun D3=>D3=e8) ?_ (fun D3 Dh=>?_)
 refine aq ?_
 refine aW Dg (fun s8=>AS.bG 34 [(0,.row 1000),(1,.sv (.v (.int .u64 ((x1:Nat):Int)))),(5,.sv (.v (.int .u64 ((s8.1:Nat):Int)))),(6,.sv (.v (.int .i64 s8.2.1)))] [] [(1000,TR 130 1 ah s8.2.2)]) (wR []) (fun s8 y8 G8 h Di Dj=>?_)
 obtain⟨MW,MX,rL⟩:=s8
 try dsimp only
 refine qq<|sr<|mv rfl<|lE h fun dh ey h=>ge _ rfl rfl ey<|dn ?_
 cases dh
 refine cF<|aZ<|ae.x<|ae.x<|aG.x<|ae.n ?_
 obtain rfl:=O (F h)
 exact⟨(MW,rL),Dj _ rfl,wR []⟩
 refine cT<|aE<|ae.n<|qq<|aq<|sr<|mv rfl<|lE (V h) fun gy jA h=>RT.shl .none _ rfl rfl T (by decide) (UK.shl (a:=MW) (q:=32) (s:=32) rfl jA)<|mo (s:=.row _) rfl<|mv rfl<|bE h fun k8 kn h=>iR rfl rfl rfl kn<|bE h fun gV l8 h=>lR rfl rfl l8 rfl<|lE h fun gz mH h=>cv _ rfl (UK.nat mH)<|lE h fun kf nK h=>RT.or .none _ rfl rfl T (UK.or (a:=gy) (b:=gz) nK)<|ag rfl<|dn<|sr<|mo (s:=.row _) rfl ?_
 refine mv rfl<|mv rfl<|mv rfl<|bE h fun kj og h=>RT.quo .none _ rfl rfl T (nzU og) (UK.quo og)<|lE h fun nX tR h=>cv _ rfl (UK.nat tR)<|bE h fun gA iP h=>iR rfl rfl rfl iP<|bE h fun tJ nf h=>sR nX rfl rfl rfl rfl nf<|dn<|af<|mv rfl<|mv rfl<|bE h fun iE kA h=>RT.rem .none _ rfl rfl T (Ye kA) (KY kA)<|ag rfl<|RT.done<|aG.n<|ae.n<|af<|mv rfl<|lE h fun eH jc h=>sb _ rfl rfl jc ?_
 refine ag rfl<|RT.done ?_
 obtain rfl:=O h
 exact ae.n ⟨(iE,eH,tJ),Di _ rfl,wR []⟩
 subst Dh
 obtain⟨Zh,Az⟩:=D3
 try dsimp only
 refine ae.n<|sr<|mv rfl<|ag rfl<|dn<|aj<|bE wE fun _ hle wE=>?_
 obtain rfl:=O wE
 exact⟨.inr rfl,.sv (gw (.tmp rfl (.nil)) (SV.aa _)),(by show _=kV.live ⟨130,1,x0.length,List.flatMap ah Az⟩;rw[←iD hle];rfl)⟩
theorem oA{x0:List Nat}{x1:Nat}{r:List Nat}(h:fe x0 x1=some r):Pure Tryz.prog 211 [slc 1 (List.map ah x0),.v (.int .u64 ((x1:Nat):Int))] (slc 1 (List.map ah r)):=by
 refine ay Tryz.func211 rfl (Nat.le_of_ble_eq_true rfl) (fun cE M vs hvs=>?_)
 unfold fe at h
 refine sr<|aI rfl (imp_nil (n:=1) (e:=ah))<|dn<|sr<|RT.tu .none (cw 0) rfl ⟨rfl,trivial⟩ T rfl rfl<|an (s:=.ek _ _) rfl<|dn<|sr<|mv rfl<|lE h fun gY mG h=>ln rfl mG<|lE h fun dh ey h=>ad _ rfl rfl ey<|bE h fun iu gN h=>RT.vK (e:=ah) .none rfl rfl T rfl T gN<|an (s:=.row _) rfl<|dn<|qq<|sr<|mv rfl<|lE h fun dQ fN h=>ln rfl fN ?_
 refine mv rfl<|dn<|bE h fun e8 Dg wE=>?_
 refine aV (fun(D3:Nat×(List Nat))=>AS.bG 35 [(5,.ek 202 [.box 9]),(6,.row 302)] [(9,⟨128,[.sv (.v (.int .u64 ((D3.1:Nat):Int)))]⟩)] [(302,TR 130 1 ah D3.2)]) (fun D3=>D3=e8) ?_ (fun D3 Dh=>?_)
 refine aq ?_
 refine aW Dg (fun s8=>AS.bG 35 [(1,.sv (.v (.int .u64 ((x1:Nat):Int)))),(5,.ek 202 [.box 9]),(6,.row 302),(14,.sv (slc 1 (List.map ah x0))),(15,.sv (.v (.int .i64 dQ))),(16,.sv (.v (.int .i64 s8.1)))] [(9,⟨128,[.sv (.v (.int .u64 ((s8.2.1:Nat):Int)))]⟩)] [(302,TR 130 1 ah s8.2.2)]) (cS (fun i=>bif Nat.beq i 302 then 13 else i) rfl rfl rfl rfl rfl ⟨.sv (SV.aa _),.ek,.row rfl,.sv (SV.aa _),.sv (SV.aa _),.sv (SV.aa _),trivial⟩ ⟨⟨_,rfl,⟨.sv (SV.aa _),trivial⟩⟩,trivial⟩ ⟨⟨_,rfl,bV.refl _⟩,trivial⟩ (fun i hi=>by rw[bQ (show i≠302 by omega)];rfl)) (fun s8 y8 G8 h Di Dj=>?_)
 obtain⟨xz,rM,gj⟩:=s8
 try dsimp only
 refine sr<|lE h fun gh kJ h=>ls _ rfl rfl kJ<|dn<|qq ?_
 cases gh
 refine cF<|aZ<|ae.x<|ae.x<|aG.x<|ae.n ?_
 obtain rfl:=O (F h)
 exact⟨(rM,gj),Dj _ rfl,wR []⟩
 refine cT<|aE<|ae.n<|qq<|aq<|sr<|bE (V h) fun eD ij h=>ix rfl rfl ij<|lr rfl rfl<|ag rfl<|dn<|af<|mo (s:=.row _) rfl<|mo (s:=.ek _ _) rfl<|mv rfl<|lE h fun jw pz h=>cv _ rfl (UK.nat pz)<|mv rfl<|lE h fun ym qC h=>RT.shl .none _ rfl rfl T (Int.natCast_nonneg _) (UK.shl (a:=jw) (q:=((x1:Nat):Int)) (s:=min x1 64) rfl qC) ?_
 obtain⟨⟨lf,UU⟩,nY,h⟩:=bS h
 refine cB (aU nY) 9 rfl ⟨rfl,trivial⟩<|bl (l:=[lf]) (e:=ah) (.one rfl (.nil)) rfl rfl rfl rfl rfl rfl<|bE h fun nX tR h=>aR (k:=[lf]) (e:=ah) rfl rfl rfl tR<|an (s:=.row _) rfl<|RT.done<|aG.n<|ae.n<|af<|lE h fun gA iP h=>ad _ rfl rfl iP<|mv rfl<|RT.done ?_
 obtain rfl:=O h
 exact ae.n ⟨(gA,UU,nX),Di _ rfl,cS (fun i=>bif Nat.beq i 302 then 28 else i) rfl rfl rfl rfl rfl ⟨.sv (SV.aa _),.ek,.row rfl,.sv (SV.aa _),.sv (SV.aa _),.sv (SV.aa _),trivial⟩ ⟨⟨_,rfl,⟨.sv (SV.aa _),trivial⟩⟩,trivial⟩ ⟨⟨_,rfl,bV.refl _⟩,trivial⟩ (fun i hi=>by rw[bQ (show i≠302 by omega)];rfl)⟩
 subst Dh
 obtain⟨Bl,MY⟩:=D3
 try dsimp only
 refine ae.n<|sr<|mo (s:=.row _) rfl<|mo (s:=.ek _ _) rfl ?_
 obtain⟨⟨iE,k12⟩,kA,wE⟩:=bS wE
 refine cB (aU kA) 9 rfl ⟨rfl,trivial⟩<|bl (l:=[iE]) (e:=ah) (.one rfl (.nil)) rfl rfl rfl rfl rfl rfl<|bE wE fun o9 qf wE=>RT.QA (k:=[iE]) (e:=ah) .none rfl rfl rfl T rfl T qf<|ag rfl<|dn<|aj ?_
 obtain rfl:=O wE
 exact R1 rfl
theorem nU{x0:List Nat}{x1:Nat}{r:List Nat}(h:iF x0 x1=some r):A8 Tryz.prog 211 [slc 1 (List.map ah x0),.v (.int .u64 ((x1:Nat):Int))] (TR 130 1 ah r):=by
 refine rC Tryz.func211 rfl (Nat.le_of_ble_eq_true rfl) (fun cE M vs hvs=>?_)
 unfold iF at h
 refine sr<|ag rfl<|dn<|bz (iO 4 304 130 1 rfl rfl T)<|sr<|RT.tu .none (cw 0) rfl ⟨rfl,trivial⟩ T rfl rfl<|an (s:=.ek _ _) rfl<|dn<|sr<|mv rfl<|lE h fun gY mG h=>ln rfl mG<|lE h fun dh ey h=>ad _ rfl rfl ey<|bE h fun iu gN h=>RT.vK (e:=ah) .none rfl rfl T rfl T gN<|an (s:=.row _) rfl<|dn<|qq<|sr<|mv rfl<|lE h fun dQ fN h=>ln rfl fN ?_
 refine mv rfl<|dn<|bE h fun e8 Dg wE=>?_
 refine aV (fun(D3:Nat×(List Nat))=>AS.bG 35 [(5,.ek 202 [.box 9]),(6,.row 306)] [(9,⟨128,[.sv (.v (.int .u64 ((D3.1:Nat):Int)))]⟩)] [(306,TR 130 1 ah D3.2)]) (fun D3=>D3=e8) ?_ (fun D3 Dh=>?_)
 refine aq ?_
 refine aW Dg (fun s8=>AS.bG 35 [(1,.sv (.v (.int .u64 ((x1:Nat):Int)))),(5,.ek 202 [.box 9]),(6,.row 306),(14,.sv (slc 1 (List.map ah x0))),(15,.sv (.v (.int .i64 dQ))),(16,.sv (.v (.int .i64 s8.1)))] [(9,⟨128,[.sv (.v (.int .u64 ((s8.2.1:Nat):Int)))]⟩)] [(306,TR 130 1 ah s8.2.2)]) (cS (fun i=>bif Nat.beq i 306 then 13 else i) rfl rfl rfl rfl rfl ⟨.sv (SV.aa _),.ek,.row rfl,.sv (SV.aa _),.sv (SV.aa _),.sv (SV.aa _),trivial⟩ ⟨⟨_,rfl,⟨.sv (SV.aa _),trivial⟩⟩,trivial⟩ ⟨⟨_,rfl,bV.refl _⟩,trivial⟩ (fun i hi=>by rw[bQ (show i≠306 by omega)];rfl)) (fun s8 y8 G8 h Di Dj=>?_)
 obtain⟨xz,rM,EY⟩:=s8
 try dsimp only
 refine sr<|lE h fun gh kJ h=>ls _ rfl rfl kJ<|dn<|qq ?_
 cases gh
 refine cF<|aZ<|ae.x<|ae.x<|aG.x<|ae.n ?_
 obtain rfl:=O (F h)
 exact⟨(rM,EY),Dj _ rfl,wR []⟩
 refine cT<|aE<|ae.n<|qq<|aq<|sr<|bE (V h) fun eD ij h=>ix rfl rfl ij<|lr rfl rfl<|ag rfl<|dn<|af<|mo (s:=.row _) rfl<|mo (s:=.ek _ _) rfl<|mv rfl<|lE h fun jw pz h=>cv _ rfl (UK.nat pz)<|mv rfl<|lE h fun ym qC h=>RT.shl .none _ rfl rfl T (Int.natCast_nonneg _) (UK.shl (a:=jw) (q:=((x1:Nat):Int)) (s:=min x1 64) rfl qC) ?_
 obtain⟨⟨lf,UU⟩,nY,h⟩:=bS h
 refine cB (aU nY) 9 rfl ⟨rfl,trivial⟩<|bl (l:=[lf]) (e:=ah) (.one rfl (.nil)) rfl rfl rfl rfl rfl rfl<|bE h fun nX tR h=>aR (k:=[lf]) (e:=ah) rfl rfl rfl tR<|an (s:=.row _) rfl<|RT.done<|aG.n<|ae.n<|af<|lE h fun gA iP h=>ad _ rfl rfl iP<|mv rfl<|RT.done ?_
 obtain rfl:=O h
 exact ae.n ⟨(gA,UU,nX),Di _ rfl,cS (fun i=>bif Nat.beq i 306 then 28 else i) rfl rfl rfl rfl rfl ⟨.sv (SV.aa _),.ek,.row rfl,.sv (SV.aa _),.sv (SV.aa _),.sv (SV.aa _),trivial⟩ ⟨⟨_,rfl,⟨.sv (SV.aa _),trivial⟩⟩,trivial⟩ ⟨⟨_,rfl,bV.refl _⟩,trivial⟩ (fun i hi=>by rw[bQ (show i≠306 by omega)];rfl)⟩
 subst Dh
 obtain⟨Bl,MZ⟩:=D3
 try dsimp only
 refine ae.n<|sr<|mo (s:=.row _) rfl<|mo (s:=.ek _ _) rfl ?_
 obtain⟨⟨iE,k12⟩,kA,wE⟩:=bS wE
 refine cB (aU kA) 9 rfl ⟨rfl,trivial⟩<|bl (l:=[iE]) (e:=ah) (.one rfl (.nil)) rfl rfl rfl rfl rfl rfl<|bE wE fun o9 qf wE=>aR (k:=[iE]) (e:=ah) rfl rfl rfl qf<|an (s:=.row _) rfl<|dn<|aj ?_
 obtain rfl:=O wE
 exact⟨.inr rfl,_,.tmp rfl,rfl⟩
theorem wF{x0:Nat}{r:Int}(h:gB x0=some r):Pure Tryz.prog 215 [.v (.int .u32 ((x0:Nat):Int))] (.v (.int .i64 r)):=by
 refine ay Tryz.func215 rfl (Nat.le_of_ble_eq_true rfl) (fun cE M vs hvs=>?_)
 unfold gB at h
 refine sr<|ag rfl<|dn<|qq<|sr<|mv rfl<|lE h fun x4 h4 h=>ge _ rfl rfl (leN (p:=65536) (q:=x0) h4)<|dn ?_
 refine aF h (fun j2=>AS.bG 19 [(0,.sv (.v (.int .u32 ((j2.1:Nat):Int)))),(2,.sv (.v (.int .i64 j2.2)))] [] []) (fun h=>?_) (fun j2 h=>?_)
 cases x4
 exact fs<|⟨(x0,0),(F h),wR []⟩
 exact cT<|sr<|mv rfl<|lE (V h) fun x6 h6 h=>RT.shr .none _ rfl rfl T (by decide) (zU (k:=.u32) (a:=x0) (q:=16) (s:=16) rfl h6)<|ag rfl<|dn<|af<|ag rfl<|dn<|⟨(x6,16),h,wR []⟩
 obtain⟨IJ,QJ⟩:=j2
 try dsimp only
 refine ae.n<|qq<|sr<|mv rfl<|lE h fun x8 h8 h=>ge _ rfl rfl (leN (p:=256) (q:=IJ) h8)<|dn ?_
 refine aF h (fun j4=>AS.bG 19 [(0,.sv (.v (.int .u32 ((j4.1:Nat):Int)))),(2,.sv (.v (.int .i64 j4.2)))] [] []) (fun h=>?_) (fun j4 h=>?_)
 cases x8
 exact fs<|⟨(IJ,QJ),(F h),wR []⟩
 exact cT<|sr<|mv rfl<|lE (V h) fun dB fM h=>RT.shr .none _ rfl rfl T (by decide) (zU (k:=.u32) (a:=IJ) (q:=8) (s:=8) rfl fM)<|ag rfl<|dn<|af<|mv rfl<|lE h fun dh ey h=>ad _ rfl rfl ey<|ag rfl<|dn<|⟨(dB,dh),h,wR []⟩
 obtain⟨Zi,Zj⟩:=j4
 try dsimp only
 refine ae.n<|sr<|mv rfl<|mv rfl<|lE h fun dQ fN h=>cv _ rfl (UK.nat fN)<|bE h fun gy jA h=>?_
 refine RT.six (l:=[0,1,2,2,3,3,3,3,4,4,4,4,4,4,4,4,5,5,5,5,5,5,5,5,5,5,5,5,5,5,5,5,6,6,6,6,6,6,6,6,6,6,6,6,6,6,6,6,6,6,6,6,6,6,6,6,6,6,6,6,6,6,6,6,7,7,7,7,7,7,7,7,7,7,7,7,7,7,7,7,7,7,7,7,7,7,7,7,7,7,7,7,7,7,7,7,7,7,7,7,7,7,7,7,7,7,7,7,7,7,7,7,7,7,7,7,7,7,7,7,7,7,7,7,7,7,7,7,8,8,8,8,8,8,8,8,8,8,8,8,8,8,8,8,8,8,8,8,8,8,8,8,8,8,8,8,8,8,8,8,8,8,8,8,8,8,8,8,8,8,8,8,8,8,8,8,8,8,8,8,8,8,8,8,8,8,8,8,8,8,8,8,8,8,8,8,8,8,8,8,8,8,8,8,8,8,8,8,8,8,8,8,8,8,8,8,8,8,8,8,8,8,8,8,8,8,8,8,8,8,8,8,8,8,8,8,8,8,8,8,8,8,8,8,8,8,8,8,8,8,8,8,8,8,8,8]) .none rfl rfl T jA ?_
 refine lE h fun gh kJ h=>cv _ rfl kJ<|lE h fun eD ij h=>ad _ rfl rfl ij<|ag rfl<|dn<|aj ?_
 obtain rfl:=O h
 exact R1 rfl
theorem jo{x0:Nat}{r:Int}(h:cW x0=some r):Pure Tryz.prog 210 [.v (.int .u32 ((x0:Nat):Int))] (.v (.int .i64 r)):=by
 refine ay Tryz.func210 rfl (Nat.le_of_ble_eq_true rfl) (fun cE M vs hvs=>?_)
 unfold cW at h
 refine sr<|ag rfl<|dn<|sr<|mv rfl<|bE h fun x4 h4 h=>cl (wF h4) ⟨rfl,trivial⟩<|lE h fun x5 h5 h=>sb _ rfl rfl h5<|ag rfl<|dn<|aj ?_
 obtain rfl:=O h
 exact R1 rfl
theorem pM{x0:List Nat}{o0:Nat}{n0:Nat}{x1:List Nat}{r:Nat×List Nat}(h:ic x0 o0 n0 x1=some r):IB Tryz.prog 212 [.nF 1000 (o0*1) n0,.sv (slc 1 (List.map ah x1))] (TR 130 1 ah x0) (.sv (.v (.int .u64 ((r.1:Nat):Int)))) (List.flatMap ah r.2):=by
 refine wh Tryz.func212 rfl (Nat.le_of_ble_eq_true rfl) rfl rfl (fun cE M v0=>?_)
 unfold ic at h
 refine sr<|ag rfl<|dn<|sr<|mv rfl<|lE h fun dh ey h=>ln rfl ey<|ag rfl<|dn<|qq<|ai mixed<|mo (s:=.nF _ _ _) rfl<|mv rfl<|bE h fun dQ fN h=>RT.GL .none rfl rfl T fN<|bE h fun gy jA h=>lR rfl rfl jA rfl<|lE h fun gh kJ h=>cv _ rfl (UK.nat kJ)<|lE h fun eD ij h=>RT.shl .none _ rfl rfl T (by decide) (UK.shl (a:=gh) (q:=32) (s:=32) rfl ij)<|mo (s:=.nF _ _ _) rfl ?_
 refine mv rfl<|lE h fun gz mH h=>sb _ rfl rfl mH<|bE h fun kf nK h=>RT.GL .none rfl rfl T nK<|bE h fun jw pz h=>lR rfl rfl pz rfl<|lE h fun gM l9 h=>cv _ rfl (UK.nat l9)<|lE h fun ym qC h=>RT.or .none _ rfl rfl T (UK.or (a:=eD) (b:=gM) qC)<|ag rfl ?_
 refine RT.done ⟨by kernel_rfl,?_⟩
 refine ae.n<|qq<|ai mixed<|mv rfl<|mv rfl<|lE h fun nX tR h=>sb _ rfl rfl tR<|bE h fun gA iP h=>ix rfl rfl iP<|lr rfl rfl<|lE h fun sW xD h=>cv _ rfl (UK.nat xD)<|mv rfl<|mv rfl<|lE h fun o9 qf h=>sb _ rfl rfl qf<|bE h fun rJ yM h=>ix rfl rfl yM<|lr rfl rfl<|lE h fun vn yP h=>cv _ rfl (UK.nat yP)<|ag rfl<|ag rfl ?_
 refine RT.done ⟨by kernel_rfl,?_⟩
 refine ae.n<|qq<|ai mixed<|mv rfl<|mv rfl<|bE h fun kg mQ h=>RT.quo .none _ rfl rfl T (nzU mQ) (UK.quo mQ)<|mv rfl<|mv rfl<|bE h fun ri AA h=>RT.rem .none _ rfl rfl T (Ye AA) (KY AA)<|ag rfl<|ag rfl ?_
 refine RT.done ⟨by kernel_rfl,?_⟩
 refine ae.n<|qq<|bE h fun Nv E6 zW=>?_
 refine aV (fun(La:Nat)=>AS.bG 71 [(9,.sv (.v (.int .u64 ((La:Nat):Int))))] [] [(1000,TR 130 1 ah x0)]) (fun La=>La=Nv) ?_ (fun La E7=>?_)
 refine aq ?_
 refine aW E6 (fun EZ=>AS.bG 71 [(0,.nF 1000 (o0*1) n0),(5,.sv (.v (.int .i64 dh))),(7,.sv (.v (.int .u64 ((sW:Nat):Int)))),(8,.sv (.v (.int .u64 ((vn:Nat):Int)))),(9,.sv (.v (.int .u64 ((EZ.1:Nat):Int)))),(10,.sv (.v (.int .u64 ((EZ.2:Nat):Int))))] [] [(1000,TR 130 1 ah x0)]) (wR []) (fun EZ y10 G10 h E8 By=>?_)
 obtain⟨Dd,DV⟩:=EZ
 try dsimp only
 refine qq<|qq ?_
 refine aF h (fun Lh=>AS.bG 71 [(0,.nF 1000 (o0*1) n0),(5,.sv (.v (.int .i64 dh))),(7,.sv (.v (.int .u64 ((sW:Nat):Int)))),(8,.sv (.v (.int .u64 ((vn:Nat):Int)))),(9,.sv (.v (.int .u64 ((Dd:Nat):Int)))),(10,.sv (.v (.int .u64 ((DV:Nat):Int)))),(61,.sv (.v (.bool Lh)))] [] [(1000,TR 130 1 ah x0)]) (fun h=>?_) (fun IK h=>?_)
 refine af<|mv rfl<|lE h fun C0 IS h=>RT.shr .none _ rfl rfl T (by decide) (zU (k:=.u64) (a:=Dd) (q:=32) (s:=32) rfl IS)<|lE h fun uV h46 h=>ne _ rfl rfl (neN (p:=C0) (q:=0) h46)<|mv rfl<|bE h fun M1 ew h=>?_
 cases uV
 refine gm rfl<|gm rfl<|lE (F ew) fun sM BA ew=>RT.mul (.some rfl rfl) _ rfl rfl T (UK.mul (a:=Dd) (b:=vn) BA)<|gm rfl<|lE ew fun vO yO ew=>RT.shl (.some rfl rfl) _ rfl rfl T (by decide) (UK.shl (a:=DV) (q:=32) (s:=32) rfl yO)<|RT.move (.some rfl rfl) (s:=.nF _ _ _) rfl T<|gm rfl<|lE ew fun xe IU ew=>RT.sub (.some rfl rfl) _ rfl rfl T IU<|bE ew fun EW IT ew=>RT.GL (.some rfl rfl) rfl rfl T IT<|bE ew fun Qa Vs ew=>RT.Y4 (.some rfl rfl) rfl rfl Vs rfl T ?_
 refine lE ew fun x58 h58 ew=>RT.conv (.some rfl rfl) _ rfl T (UK.nat h58)<|lE ew fun II NB ew=>RT.or (.some rfl rfl) _ rfl rfl T (UK.or (a:=vO) (b:=x58) NB)<|lE ew fun JR Li ew=>gg _ rfl rfl (Y0 (p:=II) (q:=sM) Li) ?_
 obtain rfl:=O ew
 exact pF rfl<|dn<|⟨JR,h,wR []⟩
 obtain rfl:=O (V ew)
 exact ww<|ww<|ww<|ww<|ww<|ww<|ww<|ww<|ww<|ww<|ww<|ww<|ww<|pT rfl<|dn<|⟨true,h,wR []⟩
 try dsimp only
 refine ae.n ?_
 cases IK
 refine cF<|aZ<|ae.x<|ae.x<|aG.x<|ae.n ?_
 obtain rfl:=O (F h)
 exact⟨Dd,By _ rfl,wR []⟩
 refine cT<|aE<|ae.n<|aq<|sr<|mv rfl<|lE (V h) fun Zk h63 h=>sb _ rfl rfl (UK.sub (a:=Dd) (b:=1) h63)<|ag rfl<|dn<|sr<|mv rfl<|mv rfl<|lE h fun Il Vt h=>ad _ rfl rfl (UK.add (a:=DV) (b:=sW) Vt)<|ag rfl<|dn<|sr<|mv rfl<|lE h fun L1 Zw h=>RT.shr .none _ rfl rfl T (by decide) (zU (k:=.u64) (a:=Il) (q:=32) (s:=32) rfl Zw)<|lE h fun IL Vu h=>ne _ rfl rfl (neN (p:=L1) (q:=0) Vu) ?_
 refine dn ?_
 cases IL
 refine cF<|aE<|aG.n ?_
 obtain rfl:=O (F h)
 exact ae.n ⟨(Zk,Il),E8 _ rfl,wR []⟩
 refine cT<|aZ<|aG.y (by decide)<|ae.x<|aG.x<|ae.n ?_
 obtain rfl:=O (V h)
 exact⟨Zk,By _ rfl,wR []⟩
 subst E7
 try dsimp only
 refine ae.n<|sr<|mv rfl<|ag rfl<|dn<|aj<|bE zW fun _ hle zW=>?_
 obtain rfl:=O zW
 exact⟨.inr rfl,.sv (gw (.tmp rfl (.nil)) (SV.aa _)),(by show _=kV.live ⟨130,1,x0.length,List.flatMap ah x0⟩;rw[←iD hle];rfl)⟩
theorem jZ{x0:List Nat}{o0:Nat}{n0:Nat}{x1:List Nat}{x2:Nat}{r:Bool×List Nat}(h:cK x0 o0 n0 x1 x2=some r):IB Tryz.prog 213 [.nF 1000 (o0*1) n0,.sv (slc 1 (List.map ah x1)),.sv (.v (.int .u64 ((x2:Nat):Int)))] (TR 130 1 ah x0) (.sv (.v (.bool r.1))) (List.flatMap ah r.2):=by
 refine wh Tryz.func213 rfl (Nat.le_of_ble_eq_true rfl) rfl rfl (fun cE M v0=>?_)
 unfold cK at h
 refine sr<|ag rfl<|dn<|sr<|ag rfl<|dn<|sr<|RT.tu .none (cw 0) rfl ⟨rfl,trivial⟩ T rfl rfl<|an (s:=.ek _ _) rfl<|dn<|qq<|sr<|mo (s:=.nF _ _ _) rfl<|lE h fun eH jc h=>RT.UQ .none rfl T jc<|mv rfl<|dn<|bE h fun JS BB ik=>?_
 refine aV (fun(qD:Nat×(List Nat))=>AS.bG 51 [(7,.sv (.v (.int .u64 ((qD.1:Nat):Int))))] [] [(1000,TR 130 1 ah qD.2)]) (fun qD=>qD=JS) ?_ (fun qD IV=>?_)
 refine aq ?_
 refine aW BB (fun xg=>AS.bG 51 [(0,.nF 1000 (o0*1) n0),(1,.sv (slc 1 (List.map ah x1))),(2,.sv (.v (.int .u64 ((x2:Nat):Int)))),(7,.sv (.v (.int .u64 ((xg.1:Nat):Int)))),(8,.ek 202 [.box 12]),(14,.sv (.v (.int .i64 eH))),(15,.sv (.v (.int .i64 xg.2.1)))] [(12,⟨128,[.sv (.v (.int .u64 ((xg.2.2.1:Nat):Int)))]⟩)] [(1000,TR 130 1 ah xg.2.2.2)]) (wR []) (fun xg y12 G12 h Fh Fi=>?_)
 obtain⟨Lb,xA,E4,uW⟩:=xg
 try dsimp only
 refine sr<|lE h fun gy jA h=>ls _ rfl rfl jA<|dn<|qq ?_
 cases gy
 refine cF<|aZ<|ae.x<|ae.x<|aG.x<|ae.n ?_
 obtain rfl:=O (F h)
 exact⟨(Lb,uW),Fi _ rfl,wR []⟩
 refine cT<|aE<|ae.n<|qq<|aq<|sr<|mv rfl<|ag rfl<|dn<|sr<|ag rfl<|dn<|qq<|sr<|mv rfl<|mv rfl<|lE (V h) fun gV l8 h=>ln rfl l8<|lE h fun gz mH h=>ls _ rfl rfl mH<|dn ?_
 refine aF h (fun j14=>AS.bG 51 [(0,.nF 1000 (o0*1) n0),(1,.sv (slc 1 (List.map ah x1))),(2,.sv (.v (.int .u64 ((x2:Nat):Int)))),(7,.sv (.v (.int .u64 ((Lb:Nat):Int)))),(8,.ek 202 [.box 12]),(9,.sv (.v (.int .i64 xA))),(10,.sv (.v (.int .u64 ((j14:Nat):Int)))),(14,.sv (.v (.int .i64 eH))),(15,.sv (.v (.int .i64 xA)))] [(12,⟨128,[.sv (.v (.int .u64 ((E4:Nat):Int)))]⟩)] [(1000,TR 130 1 ah uW)]) (fun h=>?_) (fun M3 h=>?_)
 cases gz
 exact fs<|⟨0,(F h),wR []⟩
 exact cT<|af<|mv rfl<|mv rfl<|bE (V h) fun gM l9 h=>ix rfl rfl l9<|lr rfl rfl<|lE h fun lf nY h=>cv _ rfl (UK.nat nY)<|mv rfl<|lE h fun nX tR h=>RT.mul .none _ rfl rfl T (UK.mul (a:=lf) (b:=x2) tR)<|ag rfl<|dn<|⟨nX,h,wR []⟩
 try dsimp only
 refine ae.n<|qq<|ai mixed<|mo (s:=.nF _ _ _) rfl<|mv rfl<|bE h fun sW xD h=>RT.GL .none rfl rfl T xD<|bE h fun iE kA h=>lR rfl rfl kA rfl<|lE h fun rN rT h=>cv _ rfl (UK.nat rT)<|mo (s:=.ek _ _) rfl<|mv rfl ?_
 obtain⟨⟨pH,k16⟩,pA,h⟩:=bS h
 refine cB (aU pA) 12 rfl ⟨rfl,trivial⟩<|lE h fun vn yP h=>cv _ rfl (UK.nat yP)<|lE h fun xy Ff h=>sb _ rfl rfl (UK.sub (a:=rN) (b:=vn) Ff)<|mv rfl<|lE h fun kg mQ h=>sb _ rfl rfl (UK.sub (a:=xy) (b:=Lb) mQ)<|ag rfl ?_
 refine RT.done ⟨by kernel_rfl,?_⟩
 refine ae.n<|sr<|mo (s:=.nF _ _ _) rfl<|mv rfl<|mv rfl<|lE h fun yH zZ h=>cv _ rfl (UK.nat zZ)<|bE h fun C0 IS h=>RT.GL .none rfl rfl T IS<|bE h fun l18 Zx h=>sR yH rfl rfl rfl rfl Zx<|dn<|af<|mv rfl<|lE h fun sL vo h=>RT.shr .none _ rfl rfl T (by decide) (zU (k:=.u64) (a:=kg) (q:=63) (s:=63) rfl vo)<|ag rfl<|RT.done<|aG.n<|ae.n<|af<|lE h fun rK h48 h=>ad _ rfl rfl h48<|mv rfl<|RT.done ?_
 obtain rfl:=O h
 exact ae.n ⟨(sL,rK,k16,l18),Fh _ rfl,wR []⟩
 subst IV
 obtain⟨M4,xB⟩:=qD
 try dsimp only
 refine ae.n<|sr<|mv rfl<|lE ik fun sM BA ik=>ne _ rfl rfl (neN (p:=M4) (q:=0) BA)<|ag rfl<|dn<|aj<|bE ik fun _ hle ik=>?_
 obtain rfl:=O ik
 exact⟨.inr rfl,.sv (gw (.tmp rfl (.nil)) (SV.aa _)),(by show _=kV.live ⟨130,1,x0.length,List.flatMap ah xB⟩;rw[←iD hle];rfl)⟩
set_option maxHeartbeats 4000000 in
theorem yQ{x0:List Nat}{x1:List Nat}{r:(List Nat)×(List Nat)}(h:fm x0 x1=some r):Pure Tryz.prog 205 [slc 1 (List.map ah x0),slc 1 (List.map ah x1)] (.vG [slc 1 (List.map ah r.1),slc 1 (List.map ah r.2)]):=by
 refine ay Tryz.func205 rfl (Nat.le_of_ble_eq_true rfl) (fun cE M vs hvs=>?_)
 unfold fm at h
 refine sr<|ag rfl<|ag rfl<|dn<|bz (iO 4 306 130 1 rfl rfl T)<|bz (iO 5 308 130 1 rfl rfl T)<|sr<|mv rfl<|lE h fun gh kJ h=>ln rfl kJ<|ag rfl<|dn<|sr<|mv rfl<|mv rfl<|lE h fun gV l8 h=>sb _ rfl rfl l8<|bE h fun gz mH h=>ix rfl rfl mH<|lr rfl rfl<|bE h fun jw pz h=>cl (jo pz) ⟨rfl,trivial⟩ ?_
 refine lE h fun gM l9 h=>cv _ rfl (UK.conv l9)<|ag rfl<|dn<|qq<|ai mixed<|mv rfl<|mv rfl<|bE h fun kj og h=>cN (nU og) ⟨rfl,rfl,trivial⟩<|mv rfl<|mv rfl<|bE h fun yG wD h=>cl (oA wD) ⟨rfl,rfl,trivial⟩<|mv rfl<|bE h fun iE kA h=>RT.yz .none 0 gh rfl rfl ⟨_,rfl⟩ T kA<|an (s:=.row _) rfl<|ag rfl ?_
 refine RT.done ⟨by kernel_rfl,?_⟩
 refine ae.n<|sr<|mv rfl<|lE h fun o9 qf h=>ln rfl qf<|mv rfl<|lE h fun pH pA h=>sb _ rfl rfl pA<|lE h fun vn yP h=>ad _ rfl rfl yP<|bE h fun xy Ff h=>RT.kO (n:=1) (e:=ah) .none rfl rfl T rfl T (by rfl) (by decide) (by exact⟨SV.aa _,trivial⟩) Ff<|an (s:=.row _) rfl<|dn<|qq<|sr<|mv rfl<|lE h fun kg mQ h=>ln rfl mQ<|mv rfl<|lE h fun rf yN h=>sb _ rfl rfl yN ?_
 refine ag rfl<|dn<|bE h fun Zt Vv IW=>?_
 refine aV (fun(yR:(List Nat)×(List Nat))=>AS.bG 141 [(4,.row 38),(6,.sv (.v (.int .i64 gh))),(7,.sv (.v (.int .u64 ((gM:Nat):Int)))),(8,.row 27)] [] [(38,TR 130 1 ah yR.1),(27,TR 130 1 ah yR.2)]) (fun yR=>yR=Zt) ?_ (fun yR Vw=>?_)
 refine aq ?_
 refine aW Vv (fun Lc=>AS.bG 141 [(4,.row 38),(6,.sv (.v (.int .i64 gh))),(7,.sv (.v (.int .u64 ((gM:Nat):Int)))),(8,.row 27),(9,.sv (slc 1 (List.map ah iE))),(10,.sv (.v (.int .i64 Lc.1)))] [] [(38,TR 130 1 ah Lc.2.1),(27,TR 130 1 ah Lc.2.2)]) (wR []) (fun Lc y36 G36 h Vx Vy=>?_)
 obtain⟨fS,mE,qe⟩:=Lc
 try dsimp only
 refine qq<|sr<|mv rfl<|lE h fun yH zZ h=>ge _ rfl rfl zZ<|dn ?_
 cases yH
 refine cF<|aZ<|ae.x<|ae.x<|aG.x<|ae.n ?_
 obtain rfl:=O (F h)
 exact⟨(mE,qe),Vy _ rfl,wR []⟩
 refine cT<|aE<|ae.n<|qq<|aq<|sr<|mo (s:=.row _) rfl<|mv rfl<|mv rfl<|mv rfl<|lE (V h) fun EU Fg h=>ad _ rfl rfl Fg<|lE h fun vO yO h=>ad _ rfl rfl yO ?_
 obtain⟨⟨o53,n53⟩,QU,h⟩:=bS h
 refine RT.QD .none fS vO rfl rfl ⟨_,rfl⟩ ⟨_,rfl⟩ T QU<|mv rfl ?_
 obtain⟨⟨xe,Im⟩,IU,h⟩:=bS h
 refine bE h fun _ Vz h=>cR (l:=qe) (l':=Im) (e:=ah) (pM IU) (iD Vz) 27 rfl (.cons rfl (.cons rfl (.nil)))<|ag rfl<|dn<|qq<|sr<|mo (s:=.row _) rfl<|mv rfl<|mv rfl<|mv rfl<|lE h fun JR Li h=>ad _ rfl rfl Li<|lE h fun EX ND h=>ad _ rfl rfl ND ?_
 obtain⟨⟨o62,n62⟩,Zy,h⟩:=bS h
 refine RT.QD .none fS EX rfl rfl ⟨_,rfl⟩ ⟨_,rfl⟩ T Zy<|mv rfl<|mv rfl ?_
 obtain⟨⟨Zl,Ld⟩,h65,h⟩:=bS h
 refine bE h fun _ VA h=>cR (l:=Im) (l':=Ld) (e:=ah) (jZ h65) (iD VA) 27 rfl (.cons rfl (.cons rfl (.cons rfl (.nil))))<|dn ?_
 refine aF h (fun Le=>AS.bG 141 [(4,.row 38),(6,.sv (.v (.int .i64 gh))),(7,.sv (.v (.int .u64 ((gM:Nat):Int)))),(8,.row 27),(9,.sv (slc 1 (List.map ah iE))),(10,.sv (.v (.int .i64 fS))),(11,.sv (.v (.int .u64 ((Le.1:Nat):Int))))] [] [(38,TR 130 1 ah mE),(27,TR 130 1 ah Le.2)]) (fun h=>?_) (fun Le h=>?_)
 cases Zl
 exact fs<|⟨(xe,Ld),(F h),wR []⟩
 refine cT<|sr<|mv rfl<|lE (V h) fun L2 VB h=>sb _ rfl rfl (UK.sub (a:=xe) (b:=1) VB)<|ag rfl<|dn<|sr<|RT.tu .none (cw 0) rfl ⟨rfl,trivial⟩ T rfl rfl<|an (s:=.ek _ _) rfl<|dn<|qq<|sr<|mv rfl<|lE h fun M6 Zz h=>ln rfl Zz<|mv rfl<|dn<|bE h fun Zq VC jB=>?_
 refine aV (fun(yS:Nat×(List Nat))=>AS.bG 141 [(4,.row 38),(6,.sv (.v (.int .i64 gh))),(7,.sv (.v (.int .u64 ((gM:Nat):Int)))),(8,.row 27),(9,.sv (slc 1 (List.map ah iE))),(10,.sv (.v (.int .i64 fS))),(11,.sv (.v (.int .u64 ((L2:Nat):Int)))),(12,.ek 202 [.box 68])] [(68,⟨128,[.sv (.v (.int .u64 ((yS.1:Nat):Int)))]⟩)] [(38,TR 130 1 ah mE),(27,TR 130 1 ah yS.2)]) (fun yS=>yS=Zq) ?_ (fun yS VD=>?_)
 refine aq ?_
 refine aW VC (fun Lf=>AS.bG 141 [(4,.row 38),(6,.sv (.v (.int .i64 gh))),(7,.sv (.v (.int .u64 ((gM:Nat):Int)))),(8,.row 27),(9,.sv (slc 1 (List.map ah iE))),(10,.sv (.v (.int .i64 fS))),(11,.sv (.v (.int .u64 ((L2:Nat):Int)))),(12,.ek 202 [.box 68]),(69,.sv (slc 1 (List.map ah iE))),(70,.sv (.v (.int .i64 M6))),(71,.sv (.v (.int .i64 Lf.1)))] [(68,⟨128,[.sv (.v (.int .u64 ((Lf.2.1:Nat):Int)))]⟩)] [(38,TR 130 1 ah mE),(27,TR 130 1 ah Lf.2.2)]) (wR []) (fun Lf y65 G65 h VE VF=>?_)
 obtain⟨wC,qB,rO⟩:=Lf
 try dsimp only
 refine sr<|lE h fun IN QV h=>ls _ rfl rfl QV<|dn<|qq ?_
 cases IN
 refine cF<|aZ<|ae.x<|ae.x<|aG.x<|ae.n ?_
 obtain rfl:=O (F h)
 exact⟨(qB,rO),VF _ rfl,wR []⟩
 refine cT<|aE<|ae.n<|qq<|aq<|sr<|mv rfl<|bE (V h) fun x74 h74 h=>ix rfl rfl h74<|lr rfl rfl<|ag rfl<|ag rfl<|dn<|af<|mo (s:=.row _) rfl<|mv rfl<|mv rfl<|lE h fun Qb VG h=>ad _ rfl rfl VG<|mo (s:=.ek _ _) rfl<|mo (s:=.row _) rfl<|mv rfl<|mv rfl<|lE h fun x84 ZA h=>ad _ rfl rfl ZA<|bE h fun Yg ZB h=>iR rfl rfl rfl ZB ?_
 refine bE h fun M7 VH h=>lR rfl rfl VH rfl<|lE h fun L3 VI h=>cv _ rfl (UK.nat VI)<|mv rfl<|lE h fun QK ZC h=>cv _ rfl (UK.nat ZC)<|lE h fun UX ZD h=>ad _ rfl rfl (UK.add (a:=L3) (b:=QK) ZD) ?_
 obtain⟨⟨Zn,Zo⟩,h91,h⟩:=bS h
 refine cB (aU h91) 68 rfl ⟨rfl,trivial⟩<|bE h fun Yh ZE h=>iR rfl rfl rfl ZE<|bE h fun Zp NF h=>sR Zn rfl rfl rfl rfl NF<|RT.done<|aG.n<|ae.n<|af<|lE h fun QL ZF h=>ad _ rfl rfl ZF<|mv rfl<|RT.done ?_
 obtain rfl:=O h
 exact ae.n ⟨(QL,Zo,Zp),VE _ rfl,wR []⟩
 subst VD
 obtain⟨Bn,yI⟩:=yS
 try dsimp only
 refine ae.n<|af<|mo (s:=.row _) rfl<|mv rfl<|mv rfl<|lE jB fun UY ZG jB=>ad _ rfl rfl ZG<|mo (s:=.ek _ _) rfl<|mo (s:=.row _) rfl<|mv rfl<|mv rfl<|lE jB fun Lg NG jB=>ad _ rfl rfl NG<|bE jB fun Bo IX jB=>iR rfl rfl rfl IX<|bE jB fun UZ VJ jB=>lR rfl rfl VJ rfl<|lE jB fun U0 VK jB=>cv _ rfl (UK.nat VK) ?_
 obtain⟨⟨M8,k72⟩,VL,jB⟩:=bS jB
 exact cB (aU VL) 68 rfl ⟨rfl,trivial⟩<|bE jB fun U1 VM jB=>iR rfl rfl rfl VM<|bE jB fun Zs NH jB=>sR M8 rfl rfl rfl rfl NH<|dn<|⟨(L2,Zs),jB,wR []⟩
 obtain⟨IM,Bm⟩:=Le
 try dsimp only
 refine ae.n<|af<|mo (s:=.row _) rfl<|mv rfl<|mv rfl<|lE h fun M5 VN h=>cv _ rfl (UK.nat VN)<|bE h fun UW VO h=>iR rfl rfl rfl VO<|bE h fun Zm NI h=>sR M5 rfl rfl rfl rfl NI<|RT.done<|aG.n<|ae.n<|af<|mv rfl<|lE h fun uV h46 h=>sb _ rfl rfl h46<|ag rfl<|RT.done ?_
 obtain rfl:=O h
 exact ae.n ⟨(uV,Zm,Bm),Vx _ rfl,wR []⟩
 subst Vw
 obtain⟨rP,tK⟩:=yR
 try dsimp only
 refine ae.n<|sr<|mv rfl<|bE IW fun U3 VP IW=>RT.kO (n:=1) (e:=ah) .none rfl rfl T rfl T (by rfl) (by decide) (by exact⟨SV.aa _,trivial⟩) VP<|an (s:=.row _) rfl<|dn<|qq<|sr<|mv rfl<|mv rfl<|dn<|bE IW fun e81 VQ VR=>?_
 refine aV (fun(jP:(List Nat))=>AS.bG 141 [(4,.row 38),(5,.row 114)] [] [(38,TR 130 1 ah rP),(114,TR 130 1 ah jP)]) (fun jP=>jP=e81) ?_ (fun jP VS=>?_)
 refine aq ?_
 refine aW VQ (fun M9=>AS.bG 141 [(4,.row 38),(5,.row 114),(7,.sv (.v (.int .u64 ((gM:Nat):Int)))),(8,.row 27),(115,.sv (.v (.int .i64 gh))),(116,.sv (.v (.int .i64 M9.1)))] [] [(38,TR 130 1 ah rP),(114,TR 130 1 ah M9.2),(27,TR 130 1 ah tK)]) (wR []) (fun M9 y81 G81 h VT VU=>?_)
 obtain⟨rQ,rR⟩:=M9
 try dsimp only
 refine sr<|lE h fun Na VV h=>ls _ rfl rfl VV<|dn<|qq ?_
 cases Na
 refine cF<|aZ<|ae.x<|ae.x<|aG.x<|ae.n ?_
 obtain rfl:=O (F h)
 exact⟨rR,VU _ rfl,wR []⟩
 refine cT<|aE<|ae.n<|qq<|aq<|sr<|mv rfl<|ag rfl<|dn<|ai mixed<|mo (s:=.row _) rfl<|mv rfl<|mo (s:=.row _) rfl<|mv rfl<|bE (V h) fun U4 VW h=>iR rfl rfl rfl VW<|bE h fun U5 VX h=>lR rfl rfl VX rfl<|lE h fun Nb VY h=>cv _ rfl (UK.nat VY)<|mo (s:=.row _) rfl<|mv rfl<|lE h fun U6 h128 h=>ad _ rfl rfl h128<|bE h fun U7 VZ h=>?_
 refine iR rfl rfl rfl VZ<|bE h fun U8 V0 h=>lR rfl rfl V0 rfl<|lE h fun Nc V1 h=>cv _ rfl (UK.nat V1)<|lE h fun Nd V3 h=>RT.shl .none _ rfl rfl T (by decide) (UK.shl (a:=Nc) (q:=32) (s:=32) rfl V3)<|lE h fun Nf V4 h=>RT.or .none _ rfl rfl T (UK.or (a:=Nb) (b:=Nd) V4)<|mv rfl<|lE h fun U9 V5 h=>RT.shr .none _ rfl rfl T (Int.natCast_nonneg _) (zU (k:=.u64) (a:=Nf) (q:=((gM:Nat):Int)) (s:=min gM 64) rfl V5)<|lE h fun Ng V6 h=>cv _ rfl (UK.nat V6) ?_
 refine bE h fun Vc V7 h=>iR rfl rfl rfl V7<|bE h fun Zu NJ h=>sR Ng rfl rfl rfl rfl NJ ?_
 refine RT.done ⟨by kernel_rfl,?_⟩
 refine aG.n<|ae.n<|af<|lE h fun Nh V8 h=>ad _ rfl rfl V8<|mv rfl<|RT.done ?_
 obtain rfl:=O h
 exact ae.n ⟨(Nh,Zu),VT _ rfl,wR []⟩
 subst VS
 try dsimp only
 refine ae.n<|sr<|mo (s:=.row _) rfl<|mo (s:=.row _) rfl<|an (s:=.row _) rfl<|an (s:=.row _) rfl<|dn<|bz (dK (i:=38) (E1:=130) (n:=1) (e:=ah) (l:=rP) rfl)<|bz (dK (i:=114) (E1:=130) (n:=1) (e:=ah) (l:=jP) rfl)<|aj ?_
 obtain rfl:=O VR
 exact R2 rfl rfl
theorem pN{x0:List Nat}{x1:List Nat}{r:(List Nat)×(List Nat)}(h:dM x0 x1=some r):Pure Tryz.prog 193 [slc 1 (List.map ah x0),slc 1 (List.map ah x1)] (.vG [slc 1 (List.map ah r.1),slc 1 (List.map ah r.2)]):=by
 refine ay Tryz.func193 rfl (Nat.le_of_ble_eq_true rfl) (fun cE M vs hvs=>?_)
 unfold dM at h
 refine sr<|ag rfl<|aI rfl (imp_nil (n:=1) (e:=ah))<|dn<|bz (iO 4 304 130 1 rfl rfl T)<|qq<|aq<|sr<|mv rfl<|mv rfl<|bE h fun dh ey h=>cl (dj ey) ⟨rfl,rfl,trivial⟩<|lE h fun iu gN h=>ls _ rfl rfl gN<|ag rfl<|dn ?_
 cases iu
 refine cF<|sr<|mv rfl<|lE (F h) fun eD ij h=>ln rfl ij<|lE h fun k8 kn h=>RT.leq .none _ rfl rfl T kn<|ag rfl<|dn ?_
 cases k8
 refine cF<|sr<|mv rfl<|lE (F h) fun pH pA h=>ln rfl pA<|lE h fun vn yP h=>eq _ rfl rfl (tB (p:=pH) (q:=1) yP)<|ag rfl<|dn ?_
 cases vn
 refine cF<|aE<|aG.n<|ae.n<|sr<|mv rfl<|mv rfl ?_
 obtain⟨⟨Vd,Ve⟩,yO,h⟩:=bS (F h)
 refine cl (yQ yO) ⟨rfl,rfl,trivial⟩<|ex rfl rfl<|ex rfl rfl<|ag rfl<|ag rfl<|dn<|aj ?_
 obtain rfl:=O h
 exact R2 rfl rfl
 refine cT<|sr<|mv rfl<|bE (V h) fun rj z4 h=>cN (mF z4) ⟨rfl,trivial⟩<|an (s:=.row _) rfl<|dn<|sr<|mo (s:=.row _) rfl<|mv rfl<|bE h fun rf yN h=>ix rfl rfl yN<|lr rfl rfl<|lE h fun yH zZ h=>cv _ rfl (UK.nat zZ) ?_
 obtain⟨⟨C0,l5⟩,IS,h⟩:=bS h
 refine bE h fun _ he5 h=>cR (l:=rj) (l':=l5) (e:=ah) (pL IS) (iD he5) 39 rfl (.cons rfl (.cons rfl (.nil)))<|ag rfl<|dn<|sr<|mo (s:=.row _) rfl<|mv rfl<|lE h fun rK h48 h=>cv _ rfl (UK.nat h48)<|bl (l:=[rK]) (e:=ah) (.one rfl (.nil)) rfl rfl rfl rfl rfl rfl<|an (s:=.row _) rfl<|ag rfl<|dn<|bz (dK (i:=39) (E1:=130) (n:=1) (e:=ah) (l:=l5) rfl)<|aj ?_
 refine aG.r<|ae.r ?_
 obtain rfl:=O h
 exact R2 rfl rfl
 refine cT<|sr<|mv rfl<|bE (V h) fun gz mH h=>cl (c7 mH) ⟨rfl,trivial⟩<|mv rfl<|bE h fun jw pz h=>cl (c7 pz) ⟨rfl,trivial⟩<|ag rfl<|ag rfl<|dn<|qq<|ai mixed<|mv rfl<|mv rfl<|bE h fun lf nY h=>RT.quo .none _ rfl rfl T (nzU nY) (UK.quo nY) ?_
 obtain⟨⟨SL,Ni⟩,og,h⟩:=bS h
 refine cl (jz og) ⟨rfl,rfl,trivial⟩<|fl rfl rfl<|mv rfl<|mv rfl<|bE h fun sW xD h=>RT.rem .none _ rfl rfl T (Ye xD) (KY xD) ?_
 obtain⟨⟨m9,mc⟩,kA,h⟩:=bS h
 refine cl (jz kA) ⟨rfl,rfl,trivial⟩<|fl rfl rfl<|ag rfl<|ag rfl ?_
 refine RT.done ⟨by kernel_rfl,?_⟩
 refine ae.n<|aj<|aG.r<|ae.r ?_
 obtain rfl:=O h
 exact R2 rfl rfl
 refine cT<|sr<|mv rfl<|bE (V h) fun dQ fN h=>cl (nJ fN) ⟨rfl,trivial⟩<|ag rfl<|ag rfl<|dn<|bz (iO 4 310 130 1 rfl rfl T)<|bz (dK (i:=310) (E1:=130) (n:=1) (e:=ah) (l:=[]) rfl)<|aj<|aG.r<|ae.r ?_
 obtain rfl:=O h
 exact R2 rfl rfl
end Go.Proofs.YtningmnklfpfjaaGreat
namespace Go.Proofs.YtningmnklfpfjaaGreat
open Go.Fw Go.Fw.Z Go.RowKit
theorem dD{x0:Int}{r:Zr}(h:bp x0=some r):Pure Tryz.prog 90 [.v (.int .i64 x0)] (.agg (eZ r)):=by
 refine ay Tryz.func90 rfl (Nat.le_of_ble_eq_true rfl) (fun cE M vs hvs=>?_)
 unfold bp at h
 refine sr<|al (cs:=[.v (.bool false),slc 1 (List.map ah [])]) (by exact⟨SV.aa _,imp_nil,trivial⟩) rfl<|dn<|sr<|mv rfl<|lE h fun x5 h5 h=>cv _ rfl (UK.conv h5)<|ag rfl<|dn<|qq<|sr<|mv rfl<|lE h fun x7 h7 h=>ls _ rfl rfl h7<|dn ?_
 refine aF h (fun j2=>AS.bG 14 [(0,.sv (.v (.int .i64 x0))),(2,.ptr 2 0),(3,.sv (.v (.int .u64 ((j2:Nat):Int))))] [(2,⟨41,[.sv (.v (.bool false)),.sv (slc 1 (List.map ah []))]⟩)] []) (fun h=>?_) (fun Vf h=>?_)
 cases x7
 exact fs<|⟨x5,(F h),wR []⟩
 exact cT<|af<|mv rfl<|lE (V h) fun x9 h9 h=>RT.neg .none _ rfl T (UK.neg h9)<|ag rfl<|dn<|⟨x9,h,wR []⟩
 try dsimp only
 refine ae.n<|sr<|mv rfl<|lE h fun gY mG h=>ls _ rfl rfl mG<|mv rfl ?_
 obtain⟨⟨DW,DX⟩,gN,h⟩:=bS h
 refine cl (jz gN) ⟨rfl,rfl,trivial⟩<|so rfl rfl rfl<|dn<|aj ?_
 obtain rfl:=O h
 exact RZ (.agg rfl rfl (.cons rfl (.cons rfl (.nil))) rfl (.nil))
theorem cJ{x0:Zr}{r:Int×Bool}(h:cZ x0=some r):Pure Tryz.prog 166 [.agg (eZ x0)] (.vG [.v (.int .i64 r.1),.v (.bool r.2)]):=by
 obtain⟨aA,aB⟩:=x0
 refine ay Tryz.func166 rfl (Nat.le_of_ble_eq_true rfl) (fun cE M vs hvs=>?_)
 unfold cZ at h
 refine sr<|bx rfl<|ag rfl<|ag rfl<|dn<|sr<|fa rfl rfl<|lV rfl rfl rfl<|bE h fun x8 h8 h=>cl (aS h8) ⟨rfl,trivial⟩<|ag rfl<|dn<|qq<|sr<|mv rfl<|lE h fun dB fM h=>ln rfl fM<|lE h fun gY mG h=>gt _ rfl rfl mG<|dn ?_
 cases gY
 refine fs<|sr<|mv rfl<|bE (F h) fun iu gN h=>cl (c7 gN) ⟨rfl,trivial⟩<|ag rfl<|dn<|qq<|sr<|fa rfl rfl<|lV rfl rfl rfl<|dn ?_
 cases aA
 refine fs<|qq<|sr<|mv rfl<|lE (F h) fun kf nK h=>ge _ rfl rfl (leN (p:=9223372036854775808) (q:=iu) nK)<|dn ?_
 cases kf
 refine fs<|sr<|mv rfl<|lE (F h) fun gM l9 h=>cv _ rfl l9<|ag rfl<|ag rfl<|dn<|aj ?_
 obtain rfl:=O h
 exact R2 rfl rfl
 refine cT<|sr<|ag rfl<|ag rfl<|dn<|aj<|ae.r ?_
 obtain rfl:=O (V h)
 exact R2 rfl rfl
 refine cT<|qq<|sr<|mv rfl<|lE (V h) fun gh kJ h=>gt _ rfl rfl (Y0 (p:=9223372036854775808) (q:=iu) kJ)<|dn ?_
 cases gh
 refine fs<|sr<|mv rfl<|lE (F h) fun k8 kn h=>RT.neg .none _ rfl T (UK.neg kn)<|lE h fun gV l8 h=>cv _ rfl l8<|ag rfl<|ag rfl<|dn<|aj<|ae.r ?_
 obtain rfl:=O h
 exact R2 rfl rfl
 refine cT<|sr<|ag rfl<|ag rfl<|dn<|aj<|ae.r<|ae.r ?_
 obtain rfl:=O (V h)
 exact R2 rfl rfl
 refine cT<|sr<|ag rfl<|ag rfl<|dn<|aj<|ae.r ?_
 obtain rfl:=O (V h)
 exact R2 rfl rfl
theorem oB{x0:Bool}{x1:List Nat}{x2:Bool}{x3:List Nat}{r:Zr}(h:cc x0 x1 x2 x3=some r):Pure Tryz.prog 203 [.v (.bool x0),slc 1 (List.map ah x1),.v (.bool x2),slc 1 (List.map ah x3)] (.agg (eZ r)):=by
 refine ay Tryz.func203 rfl (Nat.le_of_ble_eq_true rfl) (fun cE M vs hvs=>?_)
 unfold cc at h
 refine sr<|al (cs:=[.v (.bool false),slc 1 (List.map ah [])]) (by exact⟨SV.aa _,imp_nil,trivial⟩) rfl<|dn<|qq<|sr<|mv rfl<|mv rfl<|lE h fun gY mG h=>RT.YC .none _ rfl rfl T mG<|dn ?_
 cases gY
 refine fs<|qq<|sr<|mv rfl<|mv rfl<|bE (F h) fun k8 kn h=>cl (dj kn) ⟨rfl,rfl,trivial⟩<|lE h fun gV l8 h=>ls _ rfl rfl l8<|dn ?_
 cases gV
 refine fs<|sr<|mv rfl<|mv rfl<|mv rfl<|bE (F h) fun gA iP h=>cl (lq iP) ⟨rfl,rfl,trivial⟩ ?_
 obtain⟨⟨ow,oz⟩,wD,h⟩:=bS h
 refine cl (eK wD) ⟨rfl,rfl,trivial⟩<|so rfl rfl rfl<|dn<|aj ?_
 obtain rfl:=O h
 exact RZ (.agg rfl rfl (.cons rfl (.cons rfl (.nil))) rfl (.nil))
 refine cT<|sr<|mv rfl<|mv rfl<|mv rfl<|bE (V h) fun gM l9 h=>cl (lq l9) ⟨rfl,rfl,trivial⟩ ?_
 obtain⟨⟨ig,gW⟩,qC,h⟩:=bS h
 refine cl (eK qC) ⟨rfl,rfl,trivial⟩<|so rfl rfl rfl<|dn<|aj<|ae.r ?_
 obtain rfl:=O h
 exact RZ (.agg rfl rfl (.cons rfl (.cons rfl (.nil))) rfl (.nil))
 refine cT<|sr<|mv rfl<|mv rfl<|mv rfl<|bE (V h) fun dQ fN h=>cl (pK fN) ⟨rfl,rfl,trivial⟩ ?_
 obtain⟨⟨kQ,kR⟩,jA,h⟩:=bS h
 refine cl (eK jA) ⟨rfl,rfl,trivial⟩<|so rfl rfl rfl<|dn<|aj<|ae.r ?_
 obtain rfl:=O h
 exact RZ (.agg rfl rfl (.cons rfl (.cons rfl (.nil))) rfl (.nil))
theorem Fj{x0:Zr}{x1:Zr}{r:Zr}(h:jx x0 x1=some r):Pure Tryz.prog 188 [.agg (eZ x0),.agg (eZ x1)] (.agg (eZ r)):=by
 obtain⟨aA,aB⟩:=x0
 obtain⟨bD,bC⟩:=x1
 refine ay Tryz.func188 rfl (Nat.le_of_ble_eq_true rfl) (fun cE M vs hvs=>?_)
 unfold jx at h
 refine sr<|bx rfl<|bx rfl<|al (cs:=[.v (.bool false),slc 1 (List.map ah [])]) (by exact⟨SV.aa _,imp_nil,trivial⟩) rfl<|dn<|sr<|ld rfl rfl (.cons rfl (.cons rfl (.nil))) ?_
 obtain⟨⟨xC,Bp⟩,ey,h⟩:=bS h
 refine cl (cJ ey) ⟨rfl,trivial⟩<|mv rfl<|ex rfl rfl<|ex rfl rfl<|ag rfl<|ag rfl<|dn<|sr<|ld rfl rfl (.cons rfl (.cons rfl (.nil))) ?_
 obtain⟨⟨yJ,Bq⟩,kJ,h⟩:=bS h
 refine cl (cJ kJ) ⟨rfl,trivial⟩<|mv rfl<|ex rfl rfl<|ex rfl rfl<|ag rfl<|ag rfl<|dn<|qq<|qq ?_
 refine aF h (fun j3=>AS.bG 48 [(2,.ptr 2 0),(3,.ptr 3 0),(4,.ptr 4 0),(5,.sv (.v (.int .i64 xC))),(7,.sv (.v (.int .i64 yJ))),(23,.sv (.v (.bool j3)))] [(4,⟨41,[.sv (.v (.bool false)),.sv (slc 1 (List.map ah []))]⟩),(3,⟨41,[.sv (.v (.bool bD)),.sv (slc 1 (List.map ah bC))]⟩),(2,⟨41,[.sv (.v (.bool aA)),.sv (slc 1 (List.map ah aB))]⟩)] []) (fun h=>?_) (fun tL h=>?_)
 refine af<|mv rfl<|mv rfl<|bE h fun Br vP h=>?_
 cases Bp
 obtain rfl:=O (F vP)
 exact ww<|pF rfl<|dn<|⟨false,h,wR []⟩
 refine gm rfl ?_
 obtain rfl:=O (V vP)
 exact pT rfl<|dn<|⟨Bq,h,wR []⟩
 try dsimp only
 refine ae.n ?_
 refine aF h (fun j5=>AS.bG 48 [(2,.ptr 2 0),(3,.ptr 3 0),(4,.ptr 4 0)] [(4,⟨41,[.sv (.v (.bool false)),.sv (slc 1 (List.map ah []))]⟩),(3,⟨41,[.sv (.v (.bool bD)),.sv (slc 1 (List.map ah bC))]⟩),(2,⟨41,[.sv (.v (.bool aA)),.sv (slc 1 (List.map ah aB))]⟩)] []) (fun h=>?_) (fun j5 h=>?_)
 cases tL
 exact fs<|⟨(),(F h),wR []⟩
 refine cT<|sr<|mv rfl<|mv rfl<|lE (V h) fun lf nY h=>ad _ rfl rfl nY<|ag rfl<|dn<|sr<|mv rfl<|mv rfl<|lE h fun gA iP h=>RT.xor .none _ rfl rfl T iP<|mv rfl<|mv rfl<|lE h fun iE kA h=>RT.xor .none _ rfl rfl T kA<|lE h fun rN rT h=>RT.and .none _ rfl rfl T rT<|lE h fun o9 qf h=>ge _ rfl rfl qf<|dn ?_
 cases o9
 exact fs<|⟨(),(F h),wR []⟩
 refine cT<|sr<|mv rfl ?_
 obtain⟨⟨pI,pJ⟩,pA,h⟩:=bS (V h)
 refine cl (dD pA) ⟨rfl,trivial⟩<|so rfl rfl rfl<|dn<|aj<|ae.r<|ae.r ?_
 obtain rfl:=O h
 exact RZ (.agg rfl rfl (.cons rfl (.cons rfl (.nil))) rfl (.nil))
 try dsimp only
 refine ae.n<|qq<|ai mixed<|fa rfl rfl<|lV rfl rfl rfl<|fa rfl rfl<|lV rfl rfl rfl<|bE h fun tH zY h=>cl (aS zY) ⟨rfl,trivial⟩<|fa rfl rfl<|lV rfl rfl rfl<|fa rfl rfl<|lV rfl rfl rfl<|bE h fun uV h46 h=>cl (aS h46) ⟨rfl,trivial⟩ ?_
 obtain⟨⟨DY,DZ⟩,vo,h⟩:=bS h
 refine cl (oB vo) ⟨rfl,rfl,rfl,rfl,trivial⟩<|so rfl rfl rfl ?_
 refine RT.done ⟨by kernel_rfl,?_⟩
 refine ae.n<|aj ?_
 obtain rfl:=O h
 exact RZ (.agg rfl rfl (.cons rfl (.cons rfl (.nil))) rfl (.nil))
theorem Fk{x0:Zr}{x1:Zr}{r:Zr}(h:jy x0 x1=some r):Pure Tryz.prog 190 [.agg (eZ x0),.agg (eZ x1)] (.agg (eZ r)):=by
 obtain⟨aA,aB⟩:=x0
 obtain⟨bD,bC⟩:=x1
 refine ay Tryz.func190 rfl (Nat.le_of_ble_eq_true rfl) (fun cE M vs hvs=>?_)
 unfold jy at h
 refine sr<|bx rfl<|bx rfl<|al (cs:=[.v (.bool false),slc 1 (List.map ah [])]) (by exact⟨SV.aa _,imp_nil,trivial⟩) rfl<|dn<|sr<|ld rfl rfl (.cons rfl (.cons rfl (.nil))) ?_
 obtain⟨⟨xC,Bp⟩,ey,h⟩:=bS h
 refine cl (cJ ey) ⟨rfl,trivial⟩<|mv rfl<|ex rfl rfl<|ex rfl rfl<|ag rfl<|ag rfl<|dn<|sr<|ld rfl rfl (.cons rfl (.cons rfl (.nil))) ?_
 obtain⟨⟨yJ,Bq⟩,kJ,h⟩:=bS h
 refine cl (cJ kJ) ⟨rfl,trivial⟩<|mv rfl<|ex rfl rfl<|ex rfl rfl<|ag rfl<|ag rfl<|dn<|qq<|qq ?_
 refine aF h (fun j3=>AS.bG 49 [(2,.ptr 2 0),(3,.ptr 3 0),(4,.ptr 4 0),(5,.sv (.v (.int .i64 xC))),(7,.sv (.v (.int .i64 yJ))),(23,.sv (.v (.bool j3)))] [(4,⟨41,[.sv (.v (.bool false)),.sv (slc 1 (List.map ah []))]⟩),(3,⟨41,[.sv (.v (.bool bD)),.sv (slc 1 (List.map ah bC))]⟩),(2,⟨41,[.sv (.v (.bool aA)),.sv (slc 1 (List.map ah aB))]⟩)] []) (fun h=>?_) (fun tL h=>?_)
 refine af<|mv rfl<|mv rfl<|bE h fun Br vP h=>?_
 cases Bp
 obtain rfl:=O (F vP)
 exact ww<|pF rfl<|dn<|⟨false,h,wR []⟩
 refine gm rfl ?_
 obtain rfl:=O (V vP)
 exact pT rfl<|dn<|⟨Bq,h,wR []⟩
 try dsimp only
 refine ae.n ?_
 refine aF h (fun j5=>AS.bG 49 [(2,.ptr 2 0),(3,.ptr 3 0),(4,.ptr 4 0)] [(4,⟨41,[.sv (.v (.bool false)),.sv (slc 1 (List.map ah []))]⟩),(3,⟨41,[.sv (.v (.bool bD)),.sv (slc 1 (List.map ah bC))]⟩),(2,⟨41,[.sv (.v (.bool aA)),.sv (slc 1 (List.map ah aB))]⟩)] []) (fun h=>?_) (fun j5 h=>?_)
 cases tL
 exact fs<|⟨(),(F h),wR []⟩
 refine cT<|sr<|mv rfl<|mv rfl<|lE (V h) fun lf nY h=>sb _ rfl rfl nY<|ag rfl<|dn<|sr<|mv rfl<|mv rfl<|lE h fun gA iP h=>RT.xor .none _ rfl rfl T iP<|mv rfl<|mv rfl<|lE h fun iE kA h=>RT.xor .none _ rfl rfl T kA<|lE h fun rN rT h=>RT.and .none _ rfl rfl T rT<|lE h fun o9 qf h=>ge _ rfl rfl qf<|dn ?_
 cases o9
 exact fs<|⟨(),(F h),wR []⟩
 refine cT<|sr<|mv rfl ?_
 obtain⟨⟨pI,pJ⟩,pA,h⟩:=bS (V h)
 refine cl (dD pA) ⟨rfl,trivial⟩<|so rfl rfl rfl<|dn<|aj<|ae.r<|ae.r ?_
 obtain rfl:=O h
 exact RZ (.agg rfl rfl (.cons rfl (.cons rfl (.nil))) rfl (.nil))
 try dsimp only
 refine ae.n<|qq<|ai mixed<|fa rfl rfl<|lV rfl rfl rfl<|fa rfl rfl<|lV rfl rfl rfl<|bE h fun tH zY h=>cl (aS zY) ⟨rfl,trivial⟩<|fa rfl rfl<|lV rfl rfl rfl<|lE h fun yH zZ h=>nt rfl _ zZ<|fa rfl rfl<|lV rfl rfl rfl<|bE h fun sL vo h=>cl (aS vo) ⟨rfl,trivial⟩ ?_
 obtain⟨⟨Nj,Nk⟩,h48,h⟩:=bS h
 refine cl (oB h48) ⟨rfl,rfl,rfl,rfl,trivial⟩<|so rfl rfl rfl ?_
 refine RT.done ⟨by kernel_rfl,?_⟩
 refine ae.n<|aj ?_
 obtain rfl:=O h
 exact RZ (.agg rfl rfl (.cons rfl (.cons rfl (.nil))) rfl (.nil))
theorem dy{x0:Zr}{x1:Zr}{r:Zr}(h:cq x0 x1=some r):Pure Tryz.prog 130 [.agg (eZ x0),.agg (eZ x1)] (.agg (eZ r)):=by
 obtain⟨aA,aB⟩:=x0
 obtain⟨bD,bC⟩:=x1
 refine ay Tryz.func130 rfl (Nat.le_of_ble_eq_true rfl) (fun cE M vs hvs=>?_)
 unfold cq at h
 refine sr<|bx rfl<|bx rfl<|al (cs:=[.v (.bool false),slc 1 (List.map ah [])]) (by exact⟨SV.aa _,imp_nil,trivial⟩) rfl<|dn<|qq<|ai mixed<|fa rfl rfl<|lV rfl rfl rfl<|bE h fun x9 h9 h=>cl (aS h9) ⟨rfl,trivial⟩<|fa rfl rfl<|lV rfl rfl rfl<|bE h fun dh ey h=>cl (aS ey) ⟨rfl,trivial⟩<|ag rfl<|ag rfl ?_
 refine RT.done ⟨by kernel_rfl,?_⟩
 refine ae.n<|qq<|qq ?_
 refine aF h (fun j3=>AS.bG 41 [(2,.ptr 2 0),(3,.ptr 3 0),(4,.ptr 4 0),(5,.sv (slc 1 (List.map ah x9))),(6,.sv (slc 1 (List.map ah dh))),(20,.sv (.v (.bool j3)))] [(4,⟨41,[.sv (.v (.bool false)),.sv (slc 1 (List.map ah []))]⟩),(3,⟨41,[.sv (.v (.bool bD)),.sv (slc 1 (List.map ah bC))]⟩),(2,⟨41,[.sv (.v (.bool aA)),.sv (slc 1 (List.map ah aB))]⟩)] []) (fun h=>?_) (fun GO h=>?_)
 refine af<|mv rfl<|lE h fun eH jc h=>ln rfl jc<|lE h fun dQ fN h=>RT.leq .none _ rfl rfl T fN<|mv rfl<|bE h fun Nn mR h=>?_
 cases dQ
 obtain rfl:=O (F mR)
 exact ww<|ww<|ww<|pF rfl<|dn<|⟨false,h,wR []⟩
 refine gm rfl<|lE (V mR) fun eD ij mR=>gn rfl ij<|lE mR fun k8 kn mR=>RT.leq (.some rfl rfl) _ rfl rfl T kn ?_
 obtain rfl:=O mR
 exact pT rfl<|dn<|⟨k8,h,wR []⟩
 try dsimp only
 refine ae.n ?_
 cases GO
 refine fs<|qq<|ai mixed<|fa rfl rfl<|lV rfl rfl rfl<|fa rfl rfl<|lV rfl rfl rfl<|lE (F h) fun pH pA h=>RT.Ip .none _ rfl rfl T pA<|mv rfl<|mv rfl<|bE h fun rj z4 h=>cl (xE z4) ⟨rfl,rfl,trivial⟩ ?_
 obtain⟨⟨tN,tO⟩,mQ,h⟩:=bS h
 refine cl (eK mQ) ⟨rfl,rfl,trivial⟩<|so rfl rfl rfl ?_
 refine RT.done ⟨by kernel_rfl,?_⟩
 refine ae.n<|aj ?_
 obtain rfl:=O h
 exact RZ (.agg rfl rfl (.cons rfl (.cons rfl (.nil))) rfl (.nil))
 refine cT<|qq<|ai mixed<|fa rfl rfl<|lV rfl rfl rfl<|fa rfl rfl<|lV rfl rfl rfl<|lE (V h) fun ym qC h=>RT.Ip .none _ rfl rfl T qC<|mv rfl<|bE h fun kj og h=>cl (c7 og) ⟨rfl,trivial⟩<|mv rfl<|bE h fun gA iP h=>cl (c7 iP) ⟨rfl,trivial⟩<|lE h fun yG wD h=>RT.mul .none _ rfl rfl T (UK.mul (a:=kj) (b:=gA) wD) ?_
 obtain⟨⟨Nl,Nm⟩,xD,h⟩:=bS h
 refine cl (jz xD) ⟨rfl,rfl,trivial⟩<|so rfl rfl rfl ?_
 refine RT.done ⟨by kernel_rfl,?_⟩
 refine ae.n<|aj<|ae.r ?_
 obtain rfl:=O h
 exact RZ (.agg rfl rfl (.cons rfl (.cons rfl (.nil))) rfl (.nil))
theorem lu{x0:Zr}{r:Zr}(h:eJ x0=some r):Pure Tryz.prog 145 [.agg (eZ x0)] (.agg (eZ r)):=by
 obtain⟨aA,aB⟩:=x0
 refine ay Tryz.func145 rfl (Nat.le_of_ble_eq_true rfl) (fun cE M vs hvs=>?_)
 unfold eJ at h
 refine sr<|bx rfl<|al (cs:=[.v (.bool false),slc 1 (List.map ah [])]) (by exact⟨SV.aa _,imp_nil,trivial⟩) rfl<|dn<|qq<|ai mixed<|fa rfl rfl<|lV rfl rfl rfl<|lE h fun x5 h5 h=>nt rfl _ h5<|fa rfl rfl<|lV rfl rfl rfl<|bE h fun x8 h8 h=>cl (aS h8) ⟨rfl,trivial⟩<|bE h fun x9 h9 h=>cl (nJ h9) ⟨rfl,trivial⟩ ?_
 obtain⟨⟨Bs,Bt⟩,fM,h⟩:=bS h
 refine cl (eK fM) ⟨rfl,rfl,trivial⟩<|so rfl rfl rfl ?_
 refine RT.done ⟨by kernel_rfl,?_⟩
 refine ae.n<|aj ?_
 obtain rfl:=O h
 exact RZ (.agg rfl rfl (.cons rfl (.cons rfl (.nil))) rfl (.nil))
theorem dS{x0:Zr}{r:Int}(h:cD x0=some r):Pure Tryz.prog 104 [.agg (eZ x0)] (.v (.int .i64 r)):=by
 obtain⟨aA,aB⟩:=x0
 refine ay Tryz.func104 rfl (Nat.le_of_ble_eq_true rfl) (fun cE M vs hvs=>?_)
 unfold cD at h
 refine sr<|bx rfl<|ag rfl<|dn<|qq<|aq<|sr<|fa rfl rfl<|lV rfl rfl rfl<|bE h fun x6 h6 h=>cl (aS h6) ⟨rfl,trivial⟩<|lE h fun x7 h7 h=>ln rfl h7<|lE h fun x8 h8 h=>eq _ rfl rfl (tB (p:=x7) (q:=0) h8)<|ag rfl<|dn ?_
 cases x8
 refine cF<|sr<|fa rfl rfl<|lV rfl rfl rfl<|ag rfl<|dn ?_
 replace h:=F h
 cases aA
 refine cF<|aE<|aG.n<|ae.n<|sr<|ag rfl<|dn<|aj ?_
 obtain rfl:=O (F h)
 exact R1 rfl
 refine cT<|sr<|ag rfl<|dn<|aj<|aG.r<|ae.r ?_
 obtain rfl:=O (V h)
 exact R1 rfl
 refine cT<|sr<|ag rfl<|dn<|aj<|aG.r<|ae.r ?_
 obtain rfl:=O (V h)
 exact R1 rfl
theorem Fl{x0:Zr}{x1:Zr}{r:Int}(h:nc x0 x1=some r):Pure Tryz.prog 129 [.agg (eZ x0),.agg (eZ x1)] (.v (.int .i64 r)):=by
 obtain⟨aA,aB⟩:=x0
 obtain⟨bD,bC⟩:=x1
 refine ay Tryz.func129 rfl (Nat.le_of_ble_eq_true rfl) (fun cE M vs hvs=>?_)
 unfold nc at h
 refine sr<|bx rfl<|bx rfl<|ag rfl<|dn<|qq<|ai mixed<|ld rfl rfl (.cons rfl (.cons rfl (.nil)))<|bE h fun x8 h8 h=>cl (dS h8) ⟨rfl,trivial⟩<|ld rfl rfl (.cons rfl (.cons rfl (.nil)))<|bE h fun dB fM h=>cl (dS fM) ⟨rfl,trivial⟩<|ag rfl<|ag rfl ?_
 refine RT.done ⟨by kernel_rfl,?_⟩
 refine ae.n<|qq<|aq<|sr<|mv rfl<|mv rfl<|lE h fun eH jc h=>ls _ rfl rfl jc<|ag rfl<|dn ?_
 cases eH
 refine cF<|sr<|mv rfl<|mv rfl<|lE (F h) fun eD ij h=>gt _ rfl rfl ij<|ag rfl<|dn ?_
 cases eD
 refine cF<|sr<|mv rfl<|lE (F h) fun gz mH h=>ls _ rfl rfl mH<|ag rfl<|dn ?_
 cases gz
 refine cF<|aE<|aG.n<|ae.n<|qq<|ai mixed<|fa rfl rfl<|lV rfl rfl rfl<|bE (F h) fun sW xD h=>cl (aS xD) ⟨rfl,trivial⟩<|fa rfl rfl<|lV rfl rfl rfl<|bE h fun o9 qf h=>cl (aS qf) ⟨rfl,trivial⟩<|bE h fun rJ yM h=>cl (dj yM) ⟨rfl,rfl,trivial⟩<|ag rfl ?_
 refine RT.done ⟨by kernel_rfl,?_⟩
 refine ae.n<|aj ?_
 obtain rfl:=O h
 exact R1 rfl
 refine cT<|qq<|ai mixed<|fa rfl rfl<|lV rfl rfl rfl<|bE (V h) fun gM l9 h=>cl (aS l9) ⟨rfl,trivial⟩<|fa rfl rfl<|lV rfl rfl rfl<|bE h fun kj og h=>cl (aS og) ⟨rfl,trivial⟩<|bE h fun nX tR h=>cl (dj tR) ⟨rfl,rfl,trivial⟩<|ag rfl ?_
 refine RT.done ⟨by kernel_rfl,?_⟩
 refine ae.n<|aj<|aG.r<|ae.r ?_
 obtain rfl:=O h
 exact R1 rfl
 refine cT<|sr<|ag rfl<|dn<|aj<|aG.r<|ae.r ?_
 obtain rfl:=O (V h)
 exact R1 rfl
 refine cT<|sr<|ag rfl<|dn<|aj<|aG.r<|ae.r ?_
 obtain rfl:=O (V h)
 exact R1 rfl
theorem sN{x0:Zr}{x1:Zr}{r:Zr×Zr×Int}(h:dr x0 x1=some r):Pure Tryz.prog 169 [.agg (eZ x0),.agg (eZ x1)] (.vG [.agg (eZ r.1),.agg (eZ r.2.1),.v (.int .i64 r.2.2)]):=by
 obtain⟨aA,aB⟩:=x0
 obtain⟨bD,bC⟩:=x1
 refine ay Tryz.func169 rfl (Nat.le_of_ble_eq_true rfl) (fun cE M vs hvs=>?_)
 unfold dr at h
 refine sr<|bx rfl<|bx rfl<|al (cs:=[.v (.bool false),slc 1 (List.map ah [])]) (by exact⟨SV.aa _,imp_nil,trivial⟩) rfl<|al (cs:=[.v (.bool false),slc 1 (List.map ah [])]) (by exact⟨SV.aa _,imp_nil,trivial⟩) rfl<|ag rfl<|dn<|qq<|ai mixed<|fa rfl rfl<|lV rfl rfl rfl<|bE h fun iu gN h=>cl (aS gN) ⟨rfl,trivial⟩<|fa rfl rfl<|lV rfl rfl rfl ?_
 refine bE h fun gy jA h=>cl (aS jA) ⟨rfl,trivial⟩<|ag rfl<|ag rfl ?_
 refine RT.done ⟨by kernel_rfl,?_⟩
 refine ae.n<|qq<|sr<|mv rfl<|lE h fun eD ij h=>ln rfl ij<|lE h fun k8 kn h=>eq _ rfl rfl (tB (p:=eD) (q:=0) kn)<|dn ?_
 cases k8
 refine fs<|sr<|mv rfl<|mv rfl ?_
 obtain⟨⟨GP,Vg⟩,qC,h⟩:=bS (F h)
 refine cl (pN qC) ⟨rfl,rfl,trivial⟩<|mv rfl<|ex rfl rfl<|ex rfl rfl<|ag rfl<|ag rfl<|dn<|sr<|mv rfl<|bE h fun gA iP h=>cl (aS iP) ⟨rfl,trivial⟩<|ag rfl<|dn<|qq<|qq ?_
 refine aF h (fun j3=>AS.bG 52 [(2,.ptr 2 0),(3,.ptr 3 0),(4,.ptr 4 0),(5,.ptr 5 0),(8,.sv (slc 1 (List.map ah gy))),(9,.sv (slc 1 (List.map ah GP))),(10,.sv (slc 1 (List.map ah gA))),(36,.sv (.v (.bool j3.1)))] [(5,⟨41,[.sv (.v (.bool false)),.sv (slc 1 (List.map ah []))]⟩),(4,⟨41,[.sv (.v (.bool false)),.sv (slc 1 (List.map ah []))]⟩),(3,⟨41,[.sv (.v (.bool bD)),.sv (slc 1 (List.map ah bC))]⟩),(2,⟨41,[.sv (.v (.bool j3.2)),.sv (slc 1 (List.map ah aB))]⟩)] []) (fun h=>?_) (fun j3 h=>?_)
 refine af<|fa rfl rfl<|lV rfl rfl rfl<|mv rfl<|bE h fun Nr vP h=>?_
 cases aA
 obtain rfl:=O (F vP)
 exact ww<|ww<|ww<|pF rfl<|dn<|⟨(false,false),h,wR []⟩
 refine gm rfl<|lE (V vP) fun o9 qf vP=>gn rfl qf<|lE vP fun rJ yM vP=>gg _ rfl rfl yM ?_
 obtain rfl:=O vP
 exact pT rfl<|dn<|⟨(rJ,true),h,wR []⟩
 obtain⟨GQ,Bu⟩:=j3
 try dsimp only
 refine ae.n ?_
 refine aF h (fun j5=>AS.bG 52 [(2,.ptr 2 0),(3,.ptr 3 0),(4,.ptr 4 0),(5,.ptr 5 0),(9,.sv (slc 1 (List.map ah j5.1))),(10,.sv (slc 1 (List.map ah j5.2)))] [(5,⟨41,[.sv (.v (.bool false)),.sv (slc 1 (List.map ah []))]⟩),(4,⟨41,[.sv (.v (.bool false)),.sv (slc 1 (List.map ah []))]⟩),(3,⟨41,[.sv (.v (.bool bD)),.sv (slc 1 (List.map ah bC))]⟩),(2,⟨41,[.sv (.v (.bool Bu)),.sv (slc 1 (List.map ah aB))]⟩)] []) (fun h=>?_) (fun j5 h=>?_)
 cases GQ
 exact fs<|⟨(GP,gA),(F h),wR []⟩
 exact cT<|sr<|mv rfl<|bl (l:=[1]) (e:=ah) (.one rfl (.nil)) rfl rfl rfl rfl rfl rfl<|bE (V h) fun rj z4 h=>cl (pK z4) ⟨rfl,rfl,trivial⟩<|ag rfl<|dn<|af<|mv rfl<|mv rfl<|bE h fun rf yN h=>cl (lq yN) ⟨rfl,rfl,trivial⟩<|ag rfl<|dn<|⟨(rj,rf),h,wR []⟩
 obtain⟨Vh,No⟩:=j5
 try dsimp only
 refine ae.n<|sr<|fa rfl rfl<|lV rfl rfl rfl<|fa rfl rfl<|lV rfl rfl rfl<|lE h fun sL vo h=>RT.Ip .none _ rfl rfl T vo<|mv rfl ?_
 obtain⟨⟨Np,Nq⟩,QT,h⟩:=bS h
 refine cl (eK QT) ⟨rfl,rfl,trivial⟩<|mv rfl ?_
 obtain⟨⟨Bv,Bw⟩,Fg,h⟩:=bS h
 refine cl (eK Fg) ⟨rfl,rfl,trivial⟩<|so rfl rfl rfl<|so rfl rfl rfl<|ag rfl<|dn<|aj ?_
 obtain rfl:=O h
 exact RZ (.agg rfl rfl (.cons rfl (.cons rfl (.nil))) rfl (.agg rfl rfl (.cons rfl (.cons rfl (.nil))) rfl (.tmp rfl (.nil))))
 refine cT<|sr<|bI (cs:=[_,_]) (cs':=[.v (.bool false),slc 1 (List.map ah [])]) (.nil) ⟨SV.aa _,imp_nil,trivial⟩<|bI (cs:=[_,_]) (cs':=[.v (.bool false),slc 1 (List.map ah [])]) (.nil) ⟨SV.aa _,imp_nil,trivial⟩<|so rfl rfl rfl<|so rfl rfl rfl<|ag rfl<|dn<|aj<|ae.r ?_
 obtain rfl:=O (V h)
 exact RZ (.agg rfl rfl (.cons rfl (.cons rfl (.nil))) rfl (.agg rfl rfl (.cons rfl (.cons rfl (.nil))) rfl (.tmp rfl (.nil))))
theorem Fm{x0:Zr}{x1:Zr}{r:Zr}(h:iz x0 x1=some r):Pure Tryz.prog 168 [.agg (eZ x0),.agg (eZ x1)] (.agg (eZ r)):=by
 obtain⟨aA,aB⟩:=x0
 obtain⟨bD,bC⟩:=x1
 refine ay Tryz.func168 rfl (Nat.le_of_ble_eq_true rfl) (fun cE M vs hvs=>?_)
 unfold iz at h
 refine sr<|bx rfl<|bx rfl<|al (cs:=[.v (.bool false),slc 1 (List.map ah [])]) (by exact⟨SV.aa _,imp_nil,trivial⟩) rfl<|dn<|qq<|ai mixed<|fa rfl rfl<|lV rfl rfl rfl<|bE h fun iu gN h=>cl (aS gN) ⟨rfl,trivial⟩<|fa rfl rfl<|lV rfl rfl rfl<|bE h fun gy jA h=>cl (aS jA) ⟨rfl,trivial⟩<|ag rfl<|ag rfl ?_
 refine RT.done ⟨by kernel_rfl,?_⟩
 refine ae.n<|qq<|bE h fun JS BB ik=>?_
 refine aV (fun(qD:(List Nat)×(List Nat))=>AS.bG 57 [(4,.ptr 4 0),(5,.sv (slc 1 (List.map ah qD.1))),(6,.sv (slc 1 (List.map ah qD.2)))] [(4,⟨41,[.sv (.v (.bool false)),.sv (slc 1 (List.map ah []))]⟩)] []) (fun qD=>qD=JS) ?_ (fun qD IV=>?_)
 refine aq ?_
 refine aW BB (fun xg=>AS.bG 57 [(4,.ptr 4 0),(5,.sv (slc 1 (List.map ah xg.1))),(6,.sv (slc 1 (List.map ah xg.2)))] [(4,⟨41,[.sv (.v (.bool false)),.sv (slc 1 (List.map ah []))]⟩)] []) (wR []) (fun xg y12 G12 h Fh Fi=>?_)
 obtain⟨E5,yK⟩:=xg
 try dsimp only
 refine qq<|qq ?_
 refine aF h (fun ZH=>AS.bG 57 [(4,.ptr 4 0),(5,.sv (slc 1 (List.map ah E5))),(6,.sv (slc 1 (List.map ah yK))),(29,.sv (.v (.bool ZH)))] [(4,⟨41,[.sv (.v (.bool false)),.sv (slc 1 (List.map ah []))]⟩)] []) (fun h=>?_) (fun Bx h=>?_)
 refine af<|mv rfl<|lE h fun eD ij h=>ln rfl ij<|lE h fun k8 kn h=>gt _ rfl rfl kn<|mv rfl<|bE h fun IQ jr h=>?_
 cases k8
 obtain rfl:=O (F jr)
 exact ww<|ww<|ww<|ww<|wu<|wu<|wu<|ww<|pF rfl<|dn<|⟨false,h,wR []⟩
 refine gm rfl<|lE (V jr) fun kf nK jr=>gn rfl nK<|lE jr fun jw pz jr=>gg _ rfl rfl pz<|gm rfl<|bE jr fun IP ko jr=>?_
 cases jw
 refine gm rfl<|lE (F ko) fun lf nY ko=>gn rfl nY<|lE ko fun kj og ko=>gg _ rfl rfl og ?_
 obtain rfl:=O ko
 refine gF rfl ?_
 obtain rfl:=O jr
 exact pT rfl<|dn<|⟨kj,h,wR []⟩
 obtain rfl:=O (V ko)
 refine ww<|ww<|ww<|gT rfl ?_
 obtain rfl:=O jr
 exact pT rfl<|dn<|⟨true,h,wR []⟩
 try dsimp only
 refine ae.n ?_
 cases Bx
 refine cF<|aZ<|ae.x<|ae.x<|aG.x<|ae.n ?_
 obtain rfl:=O (F h)
 exact⟨(E5,yK),Fi _ rfl,wR []⟩
 refine cT<|aE<|ae.n<|aq<|sr<|mv rfl<|mv rfl ?_
 obtain⟨⟨Zv,Vi⟩,rT,h⟩:=bS (V h)
 refine cl (pN rT) ⟨rfl,rfl,trivial⟩<|mv rfl<|ex rfl rfl<|ex rfl rfl<|ag rfl<|ag rfl<|dn<|af<|mv rfl<|mv rfl<|bE h fun xy Ff h=>cl (aS Ff) ⟨rfl,trivial⟩<|ag rfl<|ag rfl<|RT.done<|aG.n ?_
 obtain rfl:=O h
 exact ae.n ⟨(yK,xy),Fh _ rfl,wR []⟩
 subst IV
 obtain⟨JU,JV⟩:=qD
 try dsimp only
 refine ae.n<|qq<|sr<|mv rfl<|lE ik fun kg mQ ik=>ln rfl mQ<|lE ik fun tH zY ik=>eq _ rfl rfl (tB (p:=kg) (q:=0) zY)<|dn ?_
 cases tH
 refine fs<|sr<|mv rfl<|bE (F ik) fun uV h46 ik=>cl (c7 h46) ⟨rfl,trivial⟩<|mv rfl<|bE ik fun rK h48 ik=>cl (c7 h48) ⟨rfl,trivial⟩<|ag rfl<|ag rfl<|dn<|qq<|bE ik fun e24 V9 IY=>?_
 refine aV (fun(tQ:Nat)=>AS.bG 57 [(4,.ptr 4 0),(9,.sv (.v (.int .u64 ((tQ:Nat):Int))))] [(4,⟨41,[.sv (.v (.bool false)),.sv (slc 1 (List.map ah []))]⟩)] []) (fun tQ=>tQ=e24) ?_ (fun tQ Wa=>?_)
 refine aq ?_
 refine aW V9 (fun Ns=>AS.bG 57 [(4,.ptr 4 0),(9,.sv (.v (.int .u64 ((Ns.1:Nat):Int)))),(10,.sv (.v (.int .u64 ((Ns.2:Nat):Int))))] [(4,⟨41,[.sv (.v (.bool false)),.sv (slc 1 (List.map ah []))]⟩)] []) (wR []) (fun Ns y24 G24 h Wb Wc=>?_)
 obtain⟨D2,rS⟩:=Ns
 try dsimp only
 refine qq<|sr<|mv rfl<|lE h fun sM BA h=>gt _ rfl rfl (Y0 (p:=0) (q:=rS) BA)<|dn ?_
 cases sM
 refine cF<|aZ<|ae.x<|ae.x<|aG.x<|ae.n ?_
 obtain rfl:=O (F h)
 exact⟨D2,Wc _ rfl,wR []⟩
 refine cT<|aE<|ae.n<|aq<|ai mixed<|mv rfl<|mv rfl<|mv rfl<|bE (V h) fun De Fo h=>RT.rem .none _ rfl rfl T (Ye Fo) (KY Fo)<|ag rfl<|ag rfl ?_
 refine RT.done ⟨by kernel_rfl,?_⟩
 refine aG.n ?_
 obtain rfl:=O h
 exact ae.n ⟨(rS,De),Wb _ rfl,wR []⟩
 subst Wa
 try dsimp only
 refine ae.n<|sr<|mv rfl ?_
 obtain⟨⟨Nt,Nu⟩,IT,IY⟩:=bS IY
 refine cl (jz IT) ⟨rfl,rfl,trivial⟩<|so rfl rfl rfl<|dn<|aj ?_
 obtain rfl:=O IY
 exact RZ (.agg rfl rfl (.cons rfl (.cons rfl (.nil))) rfl (.nil))
 refine cT<|sr<|mv rfl<|bE (V ik) fun ri AA ik=>cl (nJ AA) ⟨rfl,trivial⟩ ?_
 obtain⟨⟨D0,D1⟩,zZ,ik⟩:=bS ik
 refine cl (eK zZ) ⟨rfl,rfl,trivial⟩<|so rfl rfl rfl<|dn<|aj<|ae.r ?_
 obtain rfl:=O ik
 exact RZ (.agg rfl rfl (.cons rfl (.cons rfl (.nil))) rfl (.nil))
end Go.Proofs.YtningmnklfpfjaaGreat
namespace Go.Proofs.YtningmnklfpfjaaGreat
open Go.Fw
noncomputable def dX(x0:Zr)(x1:Zr)(x2:Zr)(x3:Zr):Option (Zr×Zr):=match x0 with|⟨aA,aB⟩=>match x1 with|⟨bD,bC⟩=>match x2 with|⟨lz,lA⟩=>match x3 with|⟨vp,vr⟩=>(cq ⟨aA,aB⟩ ⟨vp,vr⟩).bind fun⟨fT,fH⟩=>(cq ⟨lz,lA⟩ ⟨bD,bC⟩).bind fun⟨jC,jD⟩=>(jx ⟨fT,fH⟩ ⟨jC,jD⟩).bind fun⟨kQ,kR⟩=>(cq ⟨bD,bC⟩ ⟨vp,vr⟩).bind fun⟨me,mg⟩=>some (⟨kQ,kR⟩,⟨me,mg⟩)
noncomputable def dY(x0:Zr)(x1:Zr)(x2:Zr)(x3:Zr):Option (Zr×Zr):=match x0 with|⟨aA,aB⟩=>match x1 with|⟨bD,bC⟩=>match x2 with|⟨lz,lA⟩=>match x3 with|⟨vp,vr⟩=>(cq ⟨aA,aB⟩ ⟨vp,vr⟩).bind fun⟨fT,fH⟩=>(cq ⟨lz,lA⟩ ⟨bD,bC⟩).bind fun⟨jC,jD⟩=>(jy ⟨fT,fH⟩ ⟨jC,jD⟩).bind fun⟨kQ,kR⟩=>(cq ⟨bD,bC⟩ ⟨vp,vr⟩).bind fun⟨me,mg⟩=>some (⟨kQ,kR⟩,⟨me,mg⟩)
noncomputable def dZ(x0:Zr)(x1:Zr)(x2:Zr)(x3:Zr):Option (Zr×Zr):=match x0 with|⟨aA,aB⟩=>match x1 with|⟨bD,bC⟩=>match x2 with|⟨lz,lA⟩=>match x3 with|⟨vp,vr⟩=>(cq ⟨aA,aB⟩ ⟨lz,lA⟩).bind fun⟨fT,fH⟩=>(cq ⟨bD,bC⟩ ⟨vp,vr⟩).bind fun⟨jC,jD⟩=>some (⟨fT,fH⟩,⟨jC,jD⟩)
noncomputable def g9(x0:Zr)(x1:Zr)(x2:Zr)(x3:Zr):Option (Zr×Zr):=match x0 with|⟨aA,aB⟩=>match x1 with|⟨bD,bC⟩=>match x2 with|⟨lz,lA⟩=>match x3 with|⟨vp,vr⟩=>(cq ⟨aA,aB⟩ ⟨vp,vr⟩).bind fun⟨fT,fH⟩=>(cq ⟨bD,bC⟩ ⟨lz,lA⟩).bind fun⟨jC,jD⟩=>some (⟨fT,fH⟩,⟨jC,jD⟩)
noncomputable def cG(x0:Qr):Option (Zr×Zr):=match x0 with|⟨⟨aA,aB⟩,⟨aK,aL⟩⟩=>(cD ⟨aK,aL⟩).bind fun x6=>(some (decide ((x6:Int)=0))).bind fun x8=>(bif x8 then(bp 1).bind fun⟨SM,SN⟩=>some (⟨aA,aB⟩,⟨SM,SN⟩)else(some (decide ((x6:Int)=(-1)))).bind fun iu=>(bif iu then(eJ ⟨aA,aB⟩).bind fun⟨kQ,kR⟩=>(eJ ⟨aK,aL⟩).bind fun⟨me,mg⟩=>some (⟨kQ,kR⟩,⟨me,mg⟩)else some (⟨aA,aB⟩,⟨aK,aL⟩)))
noncomputable def dw(x0:Zr)(x1:Zr):Option (Qr):=match x0 with|⟨aA,aB⟩=>match x1 with|⟨bD,bC⟩=>(cD ⟨bD,bC⟩).bind fun x9=>(some (decide ((x9:Int)<0))).bind fun dB=>cm (fun(j2:Bool×(List Nat)×Bool×(List Nat))=>match j2 with|⟨Fp,Fq,Fs,Ft⟩=>(iz ⟨Fs,Ft⟩ ⟨Fp,Fq⟩).bind fun⟨oC,oD⟩=>(dr ⟨Fs,Ft⟩ ⟨oC,oD⟩).bind fun⟨⟨rU,rV⟩,⟨NK,NL⟩,ZI⟩=>(dr ⟨Fp,Fq⟩ ⟨oC,oD⟩).bind fun⟨⟨rW,rX⟩,⟨NM,NN⟩,ZJ⟩=>(cZ ⟨rW,rX⟩).bind fun⟨NO,NP⟩=>cm (fun(GV:Bool)=>cm (fun(j7:Bool×(List Nat))=>match j7 with|⟨BC,BD⟩=>some ⟨⟨rU,rV⟩,⟨BC,BD⟩⟩) fun K7=>(bif GV then K7 (false,[])else K7 (rW,rX))) fun K5=>(bif NP then(some (decide ((NO:Int)=1))).bind fun kg=>some kg else some false).bind fun NQ=>K5 NQ) fun K2=>(bif dB then(eJ ⟨aA,aB⟩).bind fun⟨fT,fH⟩=>(eJ ⟨bD,bC⟩).bind fun⟨GW,GX⟩=>K2 (GW,GX,fT,fH)else K2 (bD,bC,aA,aB))
noncomputable def c8(x0:Qr):Option (Int×Int×Bool):=match x0 with|⟨⟨aA,aB⟩,⟨aK,aL⟩⟩=>(cZ ⟨aA,aB⟩).bind fun⟨Fu,ZK⟩=>(cZ ⟨aK,aL⟩).bind fun⟨Dk,ZL⟩=>cm (fun(IZ:Bool)=>(bif IZ then some (0,0,false)else(some (decide ((Dk:Int)=0))).bind fun ri=>cm (fun(SO:Int×Int)=>match SO with|⟨GY,SP⟩=>some (GY,SP,true)) fun K24=>(bif ri then K24 (Fu,1)else(some (decide ((Dk:Int)<0))).bind fun uV=>cm (fun(SQ:Int×Int)=>match SQ with|⟨NR,NS⟩=>K24 (NR,NS)) fun K26=>(bif uV then(some (IntKind.i64.wrap (0-Fu))).bind fun rK=>(some (IntKind.i64.wrap (0-Dk))).bind fun sM=>K26 (rK,sM)else K26 (Fu,Dk))))) fun Yi=>(some (!ZK)).bind fun gV=>(bif gV then some true else(some (!ZL)).bind fun jw=>some jw).bind fun NT=>(bif NT then some true else(some (decide ((Fu:Int)≤(-2147483648)))).bind fun kj=>some kj).bind fun Wd=>(bif Wd then some true else(some (decide ((2147483648:Int)≤Fu))).bind fun sW=>some sW).bind fun We=>(bif We then some true else(some (decide ((Dk:Int)≤(-2147483648)))).bind fun rJ=>some rJ).bind fun Wf=>(bif Wf then some true else(some (decide ((2147483648:Int)≤Dk))).bind fun rj=>some rj).bind fun Wg=>Yi Wg
noncomputable def dV(x0:Int)(x1:Int):Option (Qr):=(bT (fun(s6:Int×Int)=>match s6 with|⟨qy,Fv⟩=>(show Option ((Int×Int)⊕(Int))from(some (decide ((Fv:Int)≠0))).bind fun dB=>(bif dB then(KX qy Fv).bind fun eH=>some (.inl (Fv,eH))else some (.inr qy)))) (x0,x1)).bind fun wG=>(some (decide ((wG:Int)<0))).bind fun gy=>cm (fun(GZ:Int)=>(some (decide ((GZ:Int)=x1))).bind fun gz=>(bif gz then(xx x0 GZ).bind fun gM=>(bp gM).bind fun⟨ig,gW⟩=>some ⟨⟨ig,gW⟩,⟨false,[]⟩⟩else(xx x0 GZ).bind fun gA=>(bp gA).bind fun⟨ow,oz⟩=>(xx x1 GZ).bind fun rN=>(bp rN).bind fun⟨G0,G1⟩=>some ⟨⟨ow,oz⟩,⟨G0,G1⟩⟩)) fun K8=>(bif gy then(some (IntKind.i64.wrap (0-wG))).bind fun eD=>K8 eD else K8 wG)
noncomputable def pO(x0:Int):Option (Int):=(some (decide ((x0:Int)<0))).bind fun x5=>(bif x5 then some (-1)else(some (decide ((0:Int)<x0))).bind fun x8=>(bif x8 then some 1 else some 0))
noncomputable def fU(x1:Qr)(x2:Qr):Option (Qr):=match x1 with|⟨⟨bD,bC⟩,⟨eL,eM⟩⟩=>match x2 with|⟨⟨lz,lA⟩,⟨xF,xG⟩⟩=>(cG ⟨⟨bD,bC⟩,⟨eL,eM⟩⟩).bind fun⟨⟨iG,iH⟩,⟨je,jg⟩⟩=>(cG ⟨⟨lz,lA⟩,⟨xF,xG⟩⟩).bind fun⟨⟨iI,iJ⟩,⟨jh,ji⟩⟩=>(dX ⟨iG,iH⟩ ⟨je,jg⟩ ⟨iI,iJ⟩ ⟨jh,ji⟩).bind fun⟨⟨jE,jF⟩,⟨jG,jH⟩⟩=>(dw ⟨jE,jF⟩ ⟨jG,jH⟩).bind fun⟨⟨m9,mc⟩,⟨pP,pQ⟩⟩=>some ⟨⟨m9,mc⟩,⟨pP,pQ⟩⟩
noncomputable def fV(x1:Qr)(x2:Qr):Option (Qr):=match x1 with|⟨⟨bD,bC⟩,⟨eL,eM⟩⟩=>match x2 with|⟨⟨lz,lA⟩,⟨xF,xG⟩⟩=>(cG ⟨⟨bD,bC⟩,⟨eL,eM⟩⟩).bind fun⟨⟨iG,iH⟩,⟨je,jg⟩⟩=>(cG ⟨⟨lz,lA⟩,⟨xF,xG⟩⟩).bind fun⟨⟨iI,iJ⟩,⟨jh,ji⟩⟩=>(dY ⟨iG,iH⟩ ⟨je,jg⟩ ⟨iI,iJ⟩ ⟨jh,ji⟩).bind fun⟨⟨jE,jF⟩,⟨jG,jH⟩⟩=>(dw ⟨jE,jF⟩ ⟨jG,jH⟩).bind fun⟨⟨m9,mc⟩,⟨pP,pQ⟩⟩=>some ⟨⟨m9,mc⟩,⟨pP,pQ⟩⟩
noncomputable def fW(x1:Qr)(x2:Qr):Option (Qr):=match x1 with|⟨⟨bD,bC⟩,⟨eL,eM⟩⟩=>match x2 with|⟨⟨lz,lA⟩,⟨xF,xG⟩⟩=>(cG ⟨⟨bD,bC⟩,⟨eL,eM⟩⟩).bind fun⟨⟨iG,iH⟩,⟨je,jg⟩⟩=>(cG ⟨⟨lz,lA⟩,⟨xF,xG⟩⟩).bind fun⟨⟨iI,iJ⟩,⟨jh,ji⟩⟩=>(dZ ⟨iG,iH⟩ ⟨je,jg⟩ ⟨iI,iJ⟩ ⟨jh,ji⟩).bind fun⟨⟨jE,jF⟩,⟨jG,jH⟩⟩=>(dw ⟨jE,jF⟩ ⟨jG,jH⟩).bind fun⟨⟨m9,mc⟩,⟨pP,pQ⟩⟩=>some ⟨⟨m9,mc⟩,⟨pP,pQ⟩⟩
noncomputable def jI(x1:Qr)(x2:Qr):Option (Qr):=match x1 with|⟨⟨bD,bC⟩,⟨eL,eM⟩⟩=>match x2 with|⟨⟨lz,lA⟩,⟨xF,xG⟩⟩=>(cG ⟨⟨bD,bC⟩,⟨eL,eM⟩⟩).bind fun⟨⟨iG,iH⟩,⟨je,jg⟩⟩=>(cG ⟨⟨lz,lA⟩,⟨xF,xG⟩⟩).bind fun⟨⟨iI,iJ⟩,⟨jh,ji⟩⟩=>(g9 ⟨iG,iH⟩ ⟨je,jg⟩ ⟨iI,iJ⟩ ⟨jh,ji⟩).bind fun⟨⟨jE,jF⟩,⟨jG,jH⟩⟩=>(dw ⟨jE,jF⟩ ⟨jG,jH⟩).bind fun⟨⟨m9,mc⟩,⟨pP,pQ⟩⟩=>some ⟨⟨m9,mc⟩,⟨pP,pQ⟩⟩
noncomputable def cx(x0:Int):Option (Qr):=(bp x0).bind fun⟨Wh,Wi⟩=>some ⟨⟨Wh,Wi⟩,⟨false,[]⟩⟩
noncomputable def bZ(x0:Qr):Option (Qr):=match x0 with|⟨⟨aA,aB⟩,⟨aK,aL⟩⟩=>(c8 ⟨⟨aA,aB⟩,⟨aK,aL⟩⟩).bind fun⟨x8a,x8b,ZM⟩=>(bif ZM then(dV x8a x8b).bind fun⟨⟨jC,jD⟩,⟨D4,D5⟩⟩=>some ⟨⟨jC,jD⟩,⟨D4,D5⟩⟩else(cG ⟨⟨aA,aB⟩,⟨aK,aL⟩⟩).bind fun⟨⟨I0,I1⟩,⟨I2,I3⟩⟩=>(dw ⟨I0,I1⟩ ⟨I2,I3⟩).bind fun⟨⟨NU,NV⟩,⟨NW,NX⟩⟩=>some ⟨⟨NU,NV⟩,⟨NW,NX⟩⟩)
noncomputable def ef(x0:Qr):Option (Int):=match x0 with|⟨⟨aA,aB⟩,⟨aK,aL⟩⟩=>(cD ⟨aK,aL⟩).bind fun x5=>(some (decide ((x5:Int)<0))).bind fun x6=>(bif x6 then(cD ⟨aA,aB⟩).bind fun x9=>(some (IntKind.i64.wrap (0-x9))).bind fun dB=>some dB else(cD ⟨aA,aB⟩).bind fun iu=>some iu)
noncomputable def jJ(x0:Qr)(x1:Qr):Option (Qr):=match x0 with|⟨⟨aA,aB⟩,⟨aK,aL⟩⟩=>match x1 with|⟨⟨bD,bC⟩,⟨eL,eM⟩⟩=>(c8 ⟨⟨aA,aB⟩,⟨aK,aL⟩⟩).bind fun⟨tW,rY,tX⟩=>(c8 ⟨⟨bD,bC⟩,⟨eL,eM⟩⟩).bind fun⟨tY,rZ,tZ⟩=>cm (fun(nh:Bool)=>(bif nh then(some (IntKind.i64.wrap (tW*rZ))).bind fun gA=>(some (IntKind.i64.wrap (tY*rY))).bind fun iE=>(some (IntKind.i64.wrap (gA+iE))).bind fun rN=>(some (IntKind.i64.wrap (rY*rZ))).bind fun pH=>(dV rN pH).bind fun⟨⟨BE,BF⟩,⟨BG,BH⟩⟩=>some ⟨⟨BE,BF⟩,⟨BG,BH⟩⟩else(fU ⟨⟨aA,aB⟩,⟨aK,aL⟩⟩ ⟨⟨bD,bC⟩,⟨eL,eM⟩⟩).bind fun⟨⟨tN,tO⟩,⟨BI,BJ⟩⟩=>some ⟨⟨tN,tO⟩,⟨BI,BJ⟩⟩)) fun K3=>(bif tX then some tZ else some false).bind fun ua=>K3 ua
noncomputable def kK(x0:Qr)(x1:Qr):Option (Qr):=match x0 with|⟨⟨aA,aB⟩,⟨aK,aL⟩⟩=>match x1 with|⟨⟨bD,bC⟩,⟨eL,eM⟩⟩=>(c8 ⟨⟨aA,aB⟩,⟨aK,aL⟩⟩).bind fun⟨tW,rY,tX⟩=>(c8 ⟨⟨bD,bC⟩,⟨eL,eM⟩⟩).bind fun⟨tY,rZ,tZ⟩=>cm (fun(nh:Bool)=>(bif nh then(some (IntKind.i64.wrap (tW*rZ))).bind fun gA=>(some (IntKind.i64.wrap (tY*rY))).bind fun iE=>(some (IntKind.i64.wrap (gA-iE))).bind fun rN=>(some (IntKind.i64.wrap (rY*rZ))).bind fun pH=>(dV rN pH).bind fun⟨⟨BE,BF⟩,⟨BG,BH⟩⟩=>some ⟨⟨BE,BF⟩,⟨BG,BH⟩⟩else(fV ⟨⟨aA,aB⟩,⟨aK,aL⟩⟩ ⟨⟨bD,bC⟩,⟨eL,eM⟩⟩).bind fun⟨⟨tN,tO⟩,⟨BI,BJ⟩⟩=>some ⟨⟨tN,tO⟩,⟨BI,BJ⟩⟩)) fun K3=>(bif tX then some tZ else some false).bind fun ua=>K3 ua
noncomputable def iK(x0:Qr)(x1:Qr):Option (Qr):=match x0 with|⟨⟨aA,aB⟩,⟨aK,aL⟩⟩=>match x1 with|⟨⟨bD,bC⟩,⟨eL,eM⟩⟩=>(c8 ⟨⟨aA,aB⟩,⟨aK,aL⟩⟩).bind fun⟨tW,rY,tX⟩=>(c8 ⟨⟨bD,bC⟩,⟨eL,eM⟩⟩).bind fun⟨tY,rZ,tZ⟩=>cm (fun(nh:Bool)=>(bif nh then(some (IntKind.i64.wrap (tW*tY))).bind fun gA=>(some (IntKind.i64.wrap (rY*rZ))).bind fun iE=>(dV gA iE).bind fun⟨⟨NY,NZ⟩,⟨N0,N3⟩⟩=>some ⟨⟨NY,NZ⟩,⟨N0,N3⟩⟩else(fW ⟨⟨aA,aB⟩,⟨aK,aL⟩⟩ ⟨⟨bD,bC⟩,⟨eL,eM⟩⟩).bind fun⟨⟨pI,pJ⟩,⟨D6,D7⟩⟩=>some ⟨⟨pI,pJ⟩,⟨D6,D7⟩⟩)) fun K3=>(bif tX then some tZ else some false).bind fun ua=>K3 ua
noncomputable def oE(x0:Qr)(x1:Qr):Option (Qr×Int):=match x0 with|⟨⟨aA,aB⟩,⟨aK,aL⟩⟩=>match x1 with|⟨⟨bD,bC⟩,⟨eL,eM⟩⟩=>(ef ⟨⟨bD,bC⟩,⟨eL,eM⟩⟩).bind fun iu=>(some (decide ((iu:Int)=0))).bind fun eH=>(bif eH then some (⟨⟨false,[]⟩,⟨false,[]⟩⟩,7)else(c8 ⟨⟨aA,aB⟩,⟨aK,aL⟩⟩).bind fun⟨N4,QW,Wj⟩=>(c8 ⟨⟨bD,bC⟩,⟨eL,eM⟩⟩).bind fun⟨Lj,Lk,Wk⟩=>cm (fun(BK:Bool)=>(bif BK then(some (decide ((Lj:Int)<0))).bind fun rN=>cm (fun(j6:Int×Int)=>match j6 with|⟨ZN,ZO⟩=>(some (IntKind.i64.wrap (ZN*Lk))).bind fun kg=>(some (IntKind.i64.wrap (QW*ZO))).bind fun ri=>(dV kg ri).bind fun⟨⟨D0,D1⟩,⟨SR,SS⟩⟩=>some (⟨⟨D0,D1⟩,⟨SR,SS⟩⟩,0)) fun K6=>(bif rN then(some (IntKind.i64.wrap (0-N4))).bind fun rJ=>(some (IntKind.i64.wrap (0-Lj))).bind fun vn=>K6 (rJ,vn)else K6 (N4,Lj))else(jI ⟨⟨aA,aB⟩,⟨aK,aL⟩⟩ ⟨⟨bD,bC⟩,⟨eL,eM⟩⟩).bind fun⟨⟨DY,DZ⟩,⟨SU,SW⟩⟩=>some (⟨⟨DY,DZ⟩,⟨SU,SW⟩⟩,0))) fun K3=>(bif Wj then some Wk else some false).bind fun SX=>K3 SX)
noncomputable def oF(x0:Qr):Option (Qr):=match x0 with|⟨⟨aA,aB⟩,⟨aK,aL⟩⟩=>(bZ ⟨⟨aA,aB⟩,⟨aK,aL⟩⟩).bind fun⟨⟨Dl,G2⟩,⟨Dm,Fx⟩⟩=>(eJ ⟨Dl,G2⟩).bind fun⟨vu,vv⟩=>some ⟨⟨vu,vv⟩,⟨Dm,Fx⟩⟩
noncomputable def mI(x0:Qr)(x1:Qr):Option (Int):=match x0 with|⟨⟨aA,aB⟩,⟨aK,aL⟩⟩=>match x1 with|⟨⟨bD,bC⟩,⟨eL,eM⟩⟩=>(cG ⟨⟨aA,aB⟩,⟨aK,aL⟩⟩).bind fun⟨⟨iG,iH⟩,⟨je,jg⟩⟩=>(cG ⟨⟨bD,bC⟩,⟨eL,eM⟩⟩).bind fun⟨⟨iI,iJ⟩,⟨jh,ji⟩⟩=>(cD ⟨iG,iH⟩).bind fun kf=>(cD ⟨iI,iJ⟩).bind fun gM=>cm (fun(BK:Bool)=>(bif BK then(some (IntKind.i64.wrap (kf-gM))).bind fun o9=>(pO o9).bind fun rJ=>some rJ else(cq ⟨iG,iH⟩ ⟨jh,ji⟩).bind fun⟨SY,SZ⟩=>(cq ⟨iI,iJ⟩ ⟨je,jg⟩).bind fun⟨S0,S3⟩=>(nc ⟨SY,SZ⟩ ⟨S0,S3⟩).bind fun rf=>some rf)) fun K3=>(some (decide ((kf:Int)≠gM))).bind fun kj=>(bif kj then some true else(some (decide ((kf:Int)=0))).bind fun yG=>some yG).bind fun S4=>K3 S4
end Go.Proofs.YtningmnklfpfjaaGreat
namespace Go.Proofs.YtningmnklfpfjaaGreat
open Go.Fw Go.Fw.Z Go.RowKit
abbrev N5:List (Value×Value):=[(.int .u8 43,.agg #[.func (.func 187) #[] #[]]),(.int .u8 45,.agg #[.func (.func 189) #[] #[]]),(.int .u8 42,.agg #[.func (.func 191) #[] #[]]),(.int .u8 47,.agg #[.func (.func 192) #[] #[]])]
theorem dG:Pure Tryz.prog 167 [] (MM N5):=by
 refine ay Tryz.func167 rfl (Nat.le_of_ble_eq_true rfl) (fun cE M vs hvs=>?_)
 refine aN<|af<|RT.A4 .none rfl T<|RT.done<|ae.n<|aN<|QE (Nat.le_of_ble_eq_true rfl) rfl rfl rfl (fun S' h0=>?_)
 exact aj (R1 h0)
theorem uc{x0:Zr}{x1:Zr}{x2:Zr}{x3:Zr}{r:Zr×Zr}(h:dX x0 x1 x2 x3=some r):Pure Tryz.prog 187 [.agg (eZ x0),.agg (eZ x1),.agg (eZ x2),.agg (eZ x3)] (.vG [.agg (eZ r.1),.agg (eZ r.2)]):=by
 obtain⟨aA,aB⟩:=x0
 obtain⟨bD,bC⟩:=x1
 obtain⟨lz,lA⟩:=x2
 obtain⟨vp,vr⟩:=x3
 refine ay Tryz.func187 rfl (Nat.le_of_ble_eq_true rfl) (fun cE M vs hvs=>?_)
 unfold dX at h
 refine sr<|bx rfl<|bx rfl<|bx rfl<|bx rfl<|al (cs:=[.v (.bool false),slc 1 (List.map ah [])]) (by exact⟨SV.aa _,imp_nil,trivial⟩) rfl<|al (cs:=[.v (.bool false),slc 1 (List.map ah [])]) (by exact⟨SV.aa _,imp_nil,trivial⟩) rfl<|dn<|qq<|ai mixed<|ld rfl rfl (.cons rfl (.cons rfl (.nil)))<|ld rfl rfl (.cons rfl (.cons rfl (.nil))) ?_
 obtain⟨⟨fT,fH⟩,ey,h⟩:=bS h
 refine cl (dy ey) ⟨rfl,rfl,trivial⟩<|ld rfl rfl (.cons rfl (.cons rfl (.nil)))<|ld rfl rfl (.cons rfl (.cons rfl (.nil))) ?_
 obtain⟨⟨jC,jD⟩,fN,h⟩:=bS h
 refine cl (dy fN) ⟨rfl,rfl,trivial⟩ ?_
 obtain⟨⟨kQ,kR⟩,jA,h⟩:=bS h
 refine cl (Fj jA) ⟨rfl,rfl,trivial⟩<|ld rfl rfl (.cons rfl (.cons rfl (.nil)))<|ld rfl rfl (.cons rfl (.cons rfl (.nil))) ?_
 obtain⟨⟨me,mg⟩,kn,h⟩:=bS h
 refine cl (dy kn) ⟨rfl,rfl,trivial⟩<|so rfl rfl rfl<|so rfl rfl rfl ?_
 refine RT.done ⟨by kernel_rfl,?_⟩
 refine ae.n<|aj ?_
 obtain rfl:=O h
 exact RZ (.agg rfl rfl (.cons rfl (.cons rfl (.nil))) rfl (.agg rfl rfl (.cons rfl (.cons rfl (.nil))) rfl (.nil)))
theorem ud{x0:Zr}{x1:Zr}{x2:Zr}{x3:Zr}{r:Zr×Zr}(h:dY x0 x1 x2 x3=some r):Pure Tryz.prog 189 [.agg (eZ x0),.agg (eZ x1),.agg (eZ x2),.agg (eZ x3)] (.vG [.agg (eZ r.1),.agg (eZ r.2)]):=by
 obtain⟨aA,aB⟩:=x0
 obtain⟨bD,bC⟩:=x1
 obtain⟨lz,lA⟩:=x2
 obtain⟨vp,vr⟩:=x3
 refine ay Tryz.func189 rfl (Nat.le_of_ble_eq_true rfl) (fun cE M vs hvs=>?_)
 unfold dY at h
 refine sr<|bx rfl<|bx rfl<|bx rfl<|bx rfl<|al (cs:=[.v (.bool false),slc 1 (List.map ah [])]) (by exact⟨SV.aa _,imp_nil,trivial⟩) rfl<|al (cs:=[.v (.bool false),slc 1 (List.map ah [])]) (by exact⟨SV.aa _,imp_nil,trivial⟩) rfl<|dn<|qq<|ai mixed<|ld rfl rfl (.cons rfl (.cons rfl (.nil)))<|ld rfl rfl (.cons rfl (.cons rfl (.nil))) ?_
 obtain⟨⟨fT,fH⟩,ey,h⟩:=bS h
 refine cl (dy ey) ⟨rfl,rfl,trivial⟩<|ld rfl rfl (.cons rfl (.cons rfl (.nil)))<|ld rfl rfl (.cons rfl (.cons rfl (.nil))) ?_
 obtain⟨⟨jC,jD⟩,fN,h⟩:=bS h
 refine cl (dy fN) ⟨rfl,rfl,trivial⟩ ?_
 obtain⟨⟨kQ,kR⟩,jA,h⟩:=bS h
 refine cl (Fk jA) ⟨rfl,rfl,trivial⟩<|ld rfl rfl (.cons rfl (.cons rfl (.nil)))<|ld rfl rfl (.cons rfl (.cons rfl (.nil))) ?_
 obtain⟨⟨me,mg⟩,kn,h⟩:=bS h
 refine cl (dy kn) ⟨rfl,rfl,trivial⟩<|so rfl rfl rfl<|so rfl rfl rfl ?_
 refine RT.done ⟨by kernel_rfl,?_⟩
 refine ae.n<|aj ?_
 obtain rfl:=O h
 exact RZ (.agg rfl rfl (.cons rfl (.cons rfl (.nil))) rfl (.agg rfl rfl (.cons rfl (.cons rfl (.nil))) rfl (.nil)))
theorem ue{x0:Zr}{x1:Zr}{x2:Zr}{x3:Zr}{r:Zr×Zr}(h:dZ x0 x1 x2 x3=some r):Pure Tryz.prog 191 [.agg (eZ x0),.agg (eZ x1),.agg (eZ x2),.agg (eZ x3)] (.vG [.agg (eZ r.1),.agg (eZ r.2)]):=by
 obtain⟨aA,aB⟩:=x0
 obtain⟨bD,bC⟩:=x1
 obtain⟨lz,lA⟩:=x2
 obtain⟨vp,vr⟩:=x3
 refine ay Tryz.func191 rfl (Nat.le_of_ble_eq_true rfl) (fun cE M vs hvs=>?_)
 unfold dZ at h
 refine sr<|bx rfl<|bx rfl<|bx rfl<|bx rfl<|al (cs:=[.v (.bool false),slc 1 (List.map ah [])]) (by exact⟨SV.aa _,imp_nil,trivial⟩) rfl<|al (cs:=[.v (.bool false),slc 1 (List.map ah [])]) (by exact⟨SV.aa _,imp_nil,trivial⟩) rfl<|dn<|qq<|ai mixed<|ld rfl rfl (.cons rfl (.cons rfl (.nil)))<|ld rfl rfl (.cons rfl (.cons rfl (.nil))) ?_
 obtain⟨⟨fT,fH⟩,ey,h⟩:=bS h
 refine cl (dy ey) ⟨rfl,rfl,trivial⟩<|ld rfl rfl (.cons rfl (.cons rfl (.nil)))<|ld rfl rfl (.cons rfl (.cons rfl (.nil))) ?_
 obtain⟨⟨jC,jD⟩,fN,h⟩:=bS h
 refine cl (dy fN) ⟨rfl,rfl,trivial⟩<|so rfl rfl rfl<|so rfl rfl rfl ?_
 refine RT.done ⟨by kernel_rfl,?_⟩
 refine ae.n<|aj ?_
 obtain rfl:=O h
 exact RZ (.agg rfl rfl (.cons rfl (.cons rfl (.nil))) rfl (.agg rfl rfl (.cons rfl (.cons rfl (.nil))) rfl (.nil)))
theorem uf{x0:Zr}{x1:Zr}{x2:Zr}{x3:Zr}{r:Zr×Zr}(h:g9 x0 x1 x2 x3=some r):Pure Tryz.prog 192 [.agg (eZ x0),.agg (eZ x1),.agg (eZ x2),.agg (eZ x3)] (.vG [.agg (eZ r.1),.agg (eZ r.2)]):=by
 obtain⟨aA,aB⟩:=x0
 obtain⟨bD,bC⟩:=x1
 obtain⟨lz,lA⟩:=x2
 obtain⟨vp,vr⟩:=x3
 refine ay Tryz.func192 rfl (Nat.le_of_ble_eq_true rfl) (fun cE M vs hvs=>?_)
 unfold g9 at h
 refine sr<|bx rfl<|bx rfl<|bx rfl<|bx rfl<|al (cs:=[.v (.bool false),slc 1 (List.map ah [])]) (by exact⟨SV.aa _,imp_nil,trivial⟩) rfl<|al (cs:=[.v (.bool false),slc 1 (List.map ah [])]) (by exact⟨SV.aa _,imp_nil,trivial⟩) rfl<|dn<|qq<|ai mixed<|ld rfl rfl (.cons rfl (.cons rfl (.nil)))<|ld rfl rfl (.cons rfl (.cons rfl (.nil))) ?_
 obtain⟨⟨fT,fH⟩,ey,h⟩:=bS h
 refine cl (dy ey) ⟨rfl,rfl,trivial⟩<|ld rfl rfl (.cons rfl (.cons rfl (.nil)))<|ld rfl rfl (.cons rfl (.cons rfl (.nil))) ?_
 obtain⟨⟨jC,jD⟩,fN,h⟩:=bS h
 refine cl (dy fN) ⟨rfl,rfl,trivial⟩<|so rfl rfl rfl<|so rfl rfl rfl ?_
 refine RT.done ⟨by kernel_rfl,?_⟩
 refine ae.n<|aj ?_
 obtain rfl:=O h
 exact RZ (.agg rfl rfl (.cons rfl (.cons rfl (.nil))) rfl (.agg rfl rfl (.cons rfl (.cons rfl (.nil))) rfl (.nil)))
theorem bJ{x0:Qr}{r:Zr×Zr}(h:cG x0=some r):Pure Tryz.prog 127 [.agg (eQ x0)] (.vG [.agg (eZ r.1),.agg (eZ r.2)]):=by
 obtain⟨⟨aA,aB⟩,⟨aK,aL⟩⟩:=x0
 refine ay Tryz.func127 rfl (Nat.le_of_ble_eq_true rfl) (fun cE M vs hvs=>?_)
 unfold cG at h
 refine sr<|bx rfl<|al (cs:=[.v (.bool false),slc 1 (List.map ah [])]) (by exact⟨SV.aa _,imp_nil,trivial⟩) rfl<|al (cs:=[.v (.bool false),slc 1 (List.map ah [])]) (by exact⟨SV.aa _,imp_nil,trivial⟩) rfl<|dn<|qq<|sr<|fa rfl rfl<|ld rfl rfl (.cons rfl (.cons rfl (.nil)))<|bE h fun x6 h6 h=>cl (dS h6) ⟨rfl,trivial⟩<|dn<|aq<|sr<|lE h fun x8 h8 h=>eq _ rfl rfl (tB (p:=x6) (q:=0) h8) ?_
 refine ag rfl<|dn ?_
 cases x8
 refine cF<|sr<|lE (F h) fun iu gN h=>eq _ rfl rfl (tB (p:=x6) (q:=(-1)) gN)<|ag rfl<|dn ?_
 cases iu
 refine cF<|aE<|aG.n<|ae.n<|qq<|ai mixed<|fa rfl rfl<|ld rfl rfl (.cons rfl (.cons rfl (.nil)))<|fa rfl rfl<|ld rfl rfl (.cons rfl (.cons rfl (.nil)))<|so rfl rfl rfl<|so rfl rfl rfl ?_
 refine RT.done ⟨by kernel_rfl,?_⟩
 refine ae.n<|aj ?_
 obtain rfl:=O (F h)
 exact RZ (.agg rfl rfl (.cons rfl (.cons rfl (.nil))) rfl (.agg rfl rfl (.cons rfl (.cons rfl (.nil))) rfl (.nil)))
 refine cT<|qq<|ai mixed<|fa rfl rfl<|ld rfl rfl (.cons rfl (.cons rfl (.nil))) ?_
 obtain⟨⟨kQ,kR⟩,jA,h⟩:=bS (V h)
 refine cl (lu jA) ⟨rfl,trivial⟩<|fa rfl rfl<|ld rfl rfl (.cons rfl (.cons rfl (.nil))) ?_
 obtain⟨⟨me,mg⟩,kn,h⟩:=bS h
 refine cl (lu kn) ⟨rfl,trivial⟩<|so rfl rfl rfl<|so rfl rfl rfl ?_
 refine RT.done ⟨by kernel_rfl,?_⟩
 refine ae.n<|aj<|aG.r<|ae.r ?_
 obtain rfl:=O h
 exact RZ (.agg rfl rfl (.cons rfl (.cons rfl (.nil))) rfl (.agg rfl rfl (.cons rfl (.cons rfl (.nil))) rfl (.nil)))
 refine cT<|qq<|ai mixed<|fa rfl rfl<|ld rfl rfl (.cons rfl (.cons rfl (.nil))) ?_
 obtain⟨⟨SM,SN⟩,mG,h⟩:=bS (V h)
 refine cl (dD mG) ⟨rfl,trivial⟩<|so rfl rfl rfl<|so rfl rfl rfl ?_
 refine RT.done ⟨by kernel_rfl,?_⟩
 refine ae.n<|aj<|aG.r<|ae.r ?_
 obtain rfl:=O h
 exact RZ (.agg rfl rfl (.cons rfl (.cons rfl (.nil))) rfl (.agg rfl rfl (.cons rfl (.cons rfl (.nil))) rfl (.nil)))
theorem jK{x0:Zr}{x1:Zr}{r:Qr}(h:dw x0 x1=some r):Pure Tryz.prog 140 [.agg (eZ x0),.agg (eZ x1)] (.agg (eQ r)):=by
 obtain⟨aA,aB⟩:=x0
 obtain⟨bD,bC⟩:=x1
 refine ay Tryz.func140 rfl (Nat.le_of_ble_eq_true rfl) (fun cE M vs hvs=>?_)
 unfold dw at h
 refine sr<|bx rfl<|bx rfl<|al (cs:=[.v (.bool false),slc 1 (List.map ah []),.v (.bool false),slc 1 (List.map ah [])]) (by exact⟨SV.aa _,imp_nil,SV.aa _,imp_nil,trivial⟩) rfl<|dn<|qq<|sr<|ld rfl rfl (.cons rfl (.cons rfl (.nil)))<|bE h fun x9 h9 h=>cl (dS h9) ⟨rfl,trivial⟩<|lE h fun dB fM h=>ls _ rfl rfl fM<|dn ?_
 refine aF h (fun j2=>AS.bG 46 [(2,.ptr 2 0),(3,.ptr 3 0),(4,.ptr 4 0)] [(4,⟨43,[.sv (.v (.bool false)),.sv (slc 1 (List.map ah [])),.sv (.v (.bool false)),.sv (slc 1 (List.map ah []))]⟩),(3,⟨41,[.sv (.v (.bool j2.1)),.sv (slc 1 (List.map ah j2.2.1))]⟩),(2,⟨41,[.sv (.v (.bool j2.2.2.1)),.sv (slc 1 (List.map ah j2.2.2.2))]⟩)] []) (fun h=>?_) (fun j2 h=>?_)
 cases dB
 exact fs<|⟨(bD,bC,aA,aB),(F h),wR []⟩
 refine cT<|ai mixed<|ld rfl rfl (.cons rfl (.cons rfl (.nil))) ?_
 obtain⟨⟨fT,fH⟩,ey,h⟩:=bS (V h)
 refine cl (lu ey) ⟨rfl,trivial⟩<|ld rfl rfl (.cons rfl (.cons rfl (.nil))) ?_
 obtain⟨⟨GW,GX⟩,jc,h⟩:=bS h
 refine cl (lu jc) ⟨rfl,trivial⟩<|so rfl rfl rfl<|so rfl rfl rfl ?_
 refine RT.done ⟨by kernel_rfl,?_⟩
 exact ae.n<|⟨(GW,GX,fT,fH),h,wR []⟩
 obtain⟨Fp,Fq,Fs,Ft⟩:=j2
 try dsimp only
 refine ae.n<|sr<|ld rfl rfl (.cons rfl (.cons rfl (.nil)))<|ld rfl rfl (.cons rfl (.cons rfl (.nil))) ?_
 obtain⟨⟨oC,oD⟩,kJ,h⟩:=bS h
 refine cl (Fm kJ) ⟨rfl,rfl,trivial⟩<|al (cs:=[.v (.bool false),slc 1 (List.map ah [])]) (by exact⟨SV.aa _,imp_nil,trivial⟩) rfl<|so rfl rfl rfl<|dn<|sr<|ld rfl rfl (.cons rfl (.cons rfl (.nil)))<|ld rfl rfl (.cons rfl (.cons rfl (.nil))) ?_
 obtain⟨⟨⟨rU,rV⟩,⟨NK,NL⟩,ZI⟩,mH,h⟩:=bS h
 refine cl (sN mH) ⟨rfl,rfl,trivial⟩<|mv rfl<|ex rfl rfl<|ex rfl rfl<|ex rfl rfl<|so rfl rfl rfl<|dn<|sr<|ld rfl rfl (.cons rfl (.cons rfl (.nil)))<|ld rfl rfl (.cons rfl (.cons rfl (.nil))) ?_
 obtain⟨⟨⟨rW,rX⟩,⟨NM,NN⟩,ZJ⟩,tR,h⟩:=bS h
 refine cl (sN tR) ⟨rfl,rfl,trivial⟩<|mv rfl<|ex rfl rfl<|ex rfl rfl<|ex rfl rfl<|so rfl rfl rfl<|dn<|qq<|sr<|ld rfl rfl (.cons rfl (.cons rfl (.nil))) ?_
 obtain⟨⟨NO,NP⟩,qf,h⟩:=bS h
 refine cl (cJ qf) ⟨rfl,trivial⟩<|mv rfl<|ex rfl rfl<|ex rfl rfl<|ag rfl<|ag rfl<|dn<|qq ?_
 refine aF h (fun j5=>AS.bG 46 [(2,.ptr 2 0),(3,.ptr 3 0),(4,.ptr 4 0),(41,.sv (.v (.bool j5)))] [(4,⟨43,[.sv (.v (.bool false)),.sv (slc 1 (List.map ah [])),.sv (.v (.bool false)),.sv (slc 1 (List.map ah []))]⟩),(3,⟨41,[.sv (.v (.bool rW)),.sv (slc 1 (List.map ah rX))]⟩),(2,⟨41,[.sv (.v (.bool rU)),.sv (slc 1 (List.map ah rV))]⟩)] []) (fun h=>?_) (fun GV h=>?_)
 refine af<|mv rfl<|mv rfl<|bE h fun NQ BL h=>?_
 cases NP
 obtain rfl:=O (F BL)
 exact ww<|ww<|pF rfl<|dn<|⟨false,h,wR []⟩
 refine gm rfl<|lE (V BL) fun kg mQ BL=>Za _ rfl rfl (tB (p:=NO) (q:=1) mQ) ?_
 obtain rfl:=O BL
 exact pT rfl<|dn<|⟨kg,h,wR []⟩
 try dsimp only
 refine ae.n ?_
 refine aF h (fun j7=>AS.bG 46 [(2,.ptr 2 0),(3,.ptr 3 0),(4,.ptr 4 0)] [(4,⟨43,[.sv (.v (.bool false)),.sv (slc 1 (List.map ah [])),.sv (.v (.bool false)),.sv (slc 1 (List.map ah []))]⟩),(3,⟨41,[.sv (.v (.bool j7.1)),.sv (slc 1 (List.map ah j7.2))]⟩),(2,⟨41,[.sv (.v (.bool rU)),.sv (slc 1 (List.map ah rV))]⟩)] []) (fun h=>?_) (fun j7 h=>?_)
 cases GV
 exact fs<|⟨(rW,rX),(F h),wR []⟩
 exact cT<|af<|bI (cs:=[_,_]) (cs':=[.v (.bool false),slc 1 (List.map ah [])]) (.nil) ⟨SV.aa _,imp_nil,trivial⟩<|so rfl rfl rfl<|dn<|⟨(false,[]),(V h),wR []⟩
 obtain⟨BC,BD⟩:=j7
 try dsimp only
 refine ae.n<|sr<|ld rfl rfl (.cons rfl (.cons rfl (.nil)))<|ld rfl rfl (.cons rfl (.cons rfl (.nil)))<|bI (cs:=[_,_,_,_]) (cs':=[.v (.bool rU),slc 1 (List.map ah rV),.v (.bool BC),slc 1 (List.map ah BD)]) (.agg rfl (.agg rfl (.nil))) ⟨SV.aa _,SV.aa _,SV.aa _,SV.aa _,trivial⟩<|so rfl rfl rfl<|dn<|aj ?_
 obtain rfl:=O h
 exact RZ (.agg rfl rfl (.cons rfl (.cons rfl (.cons rfl (.cons rfl (.nil))))) rfl (.nil))
theorem bW{x0:Qr}{r:Int×Int×Bool}(h:c8 x0=some r):Pure Tryz.prog 134 [.agg (eQ x0)] (.vG [.v (.int .i64 r.1),.v (.int .i64 r.2.1),.v (.bool r.2.2)]):=by
 obtain⟨⟨aA,aB⟩,⟨aK,aL⟩⟩:=x0
 refine ay Tryz.func134 rfl (Nat.le_of_ble_eq_true rfl) (fun cE M vs hvs=>?_)
 unfold c8 at h
 refine sr<|bx rfl<|ag rfl<|ag rfl<|ag rfl<|dn<|sr<|fa rfl rfl<|ld rfl rfl (.cons rfl (.cons rfl (.nil))) ?_
 obtain⟨⟨Fu,ZK⟩,fM,h⟩:=bS h
 refine cl (cJ fM) ⟨rfl,trivial⟩<|mv rfl<|ex rfl rfl<|ex rfl rfl<|ag rfl<|ag rfl<|dn<|sr<|fa rfl rfl<|ld rfl rfl (.cons rfl (.cons rfl (.nil))) ?_
 obtain⟨⟨Dk,ZL⟩,jA,h⟩:=bS h
 refine cl (cJ jA) ⟨rfl,trivial⟩<|mv rfl<|ex rfl rfl<|ex rfl rfl<|ag rfl<|ag rfl<|dn<|qq<|qq ?_
 refine aF h (fun Wm=>AS.bG 53 [(2,.sv (.v (.int .i64 Fu))),(3,.sv (.v (.int .i64 Dk))),(40,.sv (.v (.bool Wm)))] [] []) (fun h=>?_) (fun IZ h=>?_)
 refine af<|mv rfl<|lE h fun gV l8 h=>nt rfl _ l8<|mv rfl<|bE h fun NT sX h=>?_
 cases gV
 refine gm rfl<|lE (F sX) fun jw pz sX=>LZ rfl _ pz ?_
 obtain rfl:=O sX
 refine pF rfl<|mv rfl<|bE h fun adG yT h=>?_
 cases jw
 refine gm rfl<|lE (F yT) fun kj og yT=>RT.leq (.some rfl rfl) _ rfl rfl T og ?_
 obtain rfl:=O yT
 refine pF rfl<|mv rfl<|bE h fun adH yU h=>?_
 cases kj
 refine gm rfl<|lE (F yU) fun sW xD yU=>RT.geq (.some rfl rfl) _ rfl rfl T xD ?_
 obtain rfl:=O yU
 refine pF rfl<|mv rfl<|bE h fun adI wH h=>?_
 cases sW
 refine gm rfl<|lE (F wH) fun rJ yM wH=>RT.leq (.some rfl rfl) _ rfl rfl T yM ?_
 obtain rfl:=O wH
 refine pF rfl<|mv rfl<|bE h fun adJ Ll h=>?_
 cases rJ
 refine gm rfl<|lE (F Ll) fun rj z4 Ll=>RT.geq (.some rfl rfl) _ rfl rfl T z4 ?_
 obtain rfl:=O Ll
 exact pF rfl<|dn<|⟨rj,h,wR []⟩
 obtain rfl:=O (V Ll)
 exact ww<|ww<|pT rfl<|dn<|⟨true,h,wR []⟩
 obtain rfl:=O (V wH)
 refine ww<|ww<|pT rfl<|mv rfl<|bE h fun adK Wn h=>?_
 obtain rfl:=O (V Wn)
 exact ww<|ww<|pT rfl<|dn<|⟨true,h,wR []⟩
 obtain rfl:=O (V yU)
 refine ww<|ww<|pT rfl<|mv rfl<|bE h fun adL Wo h=>?_
 obtain rfl:=O (V Wo)
 refine ww<|ww<|pT rfl<|mv rfl<|bE h fun adM Wp h=>?_
 obtain rfl:=O (V Wp)
 exact ww<|ww<|pT rfl<|dn<|⟨true,h,wR []⟩
 obtain rfl:=O (V yT)
 refine ww<|ww<|pT rfl<|mv rfl<|bE h fun adN Wq h=>?_
 obtain rfl:=O (V Wq)
 refine ww<|ww<|pT rfl<|mv rfl<|bE h fun adO Wr h=>?_
 obtain rfl:=O (V Wr)
 refine ww<|ww<|pT rfl<|mv rfl<|bE h fun adP Ws h=>?_
 obtain rfl:=O (V Ws)
 exact ww<|ww<|pT rfl<|dn<|⟨true,h,wR []⟩
 obtain rfl:=O (V sX)
 refine ww<|ww<|pT rfl<|mv rfl<|bE h fun adQ Wt h=>?_
 obtain rfl:=O (V Wt)
 refine ww<|ww<|pT rfl<|mv rfl<|bE h fun adR Wu h=>?_
 obtain rfl:=O (V Wu)
 refine ww<|ww<|pT rfl<|mv rfl<|bE h fun adS Wv h=>?_
 obtain rfl:=O (V Wv)
 refine ww<|ww<|pT rfl<|mv rfl<|bE h fun adT adU h=>?_
 obtain rfl:=O (V adU)
 exact ww<|ww<|pT rfl<|dn<|⟨true,h,wR []⟩
 try dsimp only
 refine ae.n ?_
 cases IZ
 refine fs<|qq<|aq<|sr<|mv rfl<|lE (F h) fun ri AA h=>eq _ rfl rfl (tB (p:=Dk) (q:=0) AA)<|ag rfl<|dn ?_
 refine aF h (fun SO=>AS.bG 53 [(2,.sv (.v (.int .i64 SO.1))),(3,.sv (.v (.int .i64 SO.2)))] [] []) (fun h=>?_) (fun SO h=>?_)
 cases ri
 refine cF<|sr<|mv rfl<|lE (F h) fun uV h46 h=>ls _ rfl rfl h46<|ag rfl<|dn ?_
 refine aF h (fun SQ=>AS.bG 53 [(2,.sv (.v (.int .i64 SQ.1))),(3,.sv (.v (.int .i64 SQ.2)))] [] []) (fun h=>?_) (fun SQ h=>?_)
 cases uV
 exact fs<|⟨(Fu,Dk),(F h),wR []⟩
 exact cT<|af<|mv rfl<|lE (V h) fun rK h48 h=>RT.neg .none _ rfl T h48<|mv rfl<|lE h fun sM BA h=>RT.neg .none _ rfl T BA<|ag rfl<|ag rfl<|dn<|⟨(rK,sM),h,wR []⟩
 obtain⟨NR,NS⟩:=SQ
 try dsimp only
 exact ae.n<|⟨(NR,NS),h,wR []⟩
 exact cT<|af<|ag rfl<|dn<|⟨(Fu,1),(V h),wR []⟩
 obtain⟨GY,SP⟩:=SO
 try dsimp only
 refine aG.n<|ae.n<|sr<|mv rfl<|mv rfl<|ag rfl<|ag rfl<|ag rfl<|dn<|aj ?_
 obtain rfl:=O h
 exact RZ (.tmp rfl (.tmp rfl (.tmp rfl (.nil))))
 refine cT<|sr<|ag rfl<|ag rfl<|ag rfl<|dn<|aj<|ae.r ?_
 obtain rfl:=O (V h)
 exact RZ (.tmp rfl (.tmp rfl (.tmp rfl (.nil))))
theorem kp{x0:Int}{x1:Int}{r:Qr}(h:dV x0 x1=some r):Pure Tryz.prog 135 [.v (.int .i64 x0),.v (.int .i64 x1)] (.agg (eQ r)):=by
 refine ay Tryz.func135 rfl (Nat.le_of_ble_eq_true rfl) (fun cE M vs hvs=>?_)
 unfold dV at h
 refine sr<|al (cs:=[.v (.bool false),slc 1 (List.map ah []),.v (.bool false),slc 1 (List.map ah [])]) (by exact⟨SV.aa _,imp_nil,SV.aa _,imp_nil,trivial⟩) rfl<|dn<|sr<|mv rfl<|mv rfl<|ag rfl<|ag rfl<|dn<|qq<|bE h fun e6 E9 jd=>?_
 refine aV (fun(wG:Int)=>AS.bG 36 [(0,.sv (.v (.int .i64 x0))),(1,.sv (.v (.int .i64 x1))),(4,.ptr 4 0),(5,.sv (.v (.int .i64 wG)))] [(4,⟨43,[.sv (.v (.bool false)),.sv (slc 1 (List.map ah [])),.sv (.v (.bool false)),.sv (slc 1 (List.map ah []))]⟩)] []) (fun wG=>wG=e6) ?_ (fun wG Fb=>?_)
 refine aq ?_
 refine aW E9 (fun s6=>AS.bG 36 [(0,.sv (.v (.int .i64 x0))),(1,.sv (.v (.int .i64 x1))),(4,.ptr 4 0),(5,.sv (.v (.int .i64 s6.1))),(6,.sv (.v (.int .i64 s6.2)))] [(4,⟨43,[.sv (.v (.bool false)),.sv (slc 1 (List.map ah [])),.sv (.v (.bool false)),.sv (slc 1 (List.map ah []))]⟩)] []) (wR []) (fun s6 y6 G6 h Fe zX=>?_)
 obtain⟨qy,Fv⟩:=s6
 try dsimp only
 refine qq<|sr<|mv rfl<|lE h fun dB fM h=>ne _ rfl rfl (ER (p:=Fv) (q:=0) fM)<|dn ?_
 cases dB
 refine cF<|aZ<|ae.x<|ae.x<|aG.x<|ae.n ?_
 obtain rfl:=O (F h)
 exact⟨qy,zX _ rfl,wR []⟩
 refine cT<|aE<|ae.n<|aq<|ai mixed<|mv rfl<|mv rfl<|mv rfl<|bE (V h) fun eH jc h=>RT.rem .none _ rfl rfl T (Y1 jc) (Y2 jc)<|ag rfl<|ag rfl ?_
 refine RT.done ⟨by kernel_rfl,?_⟩
 refine aG.n ?_
 obtain rfl:=O h
 exact ae.n ⟨(Fv,eH),Fe _ rfl,wR []⟩
 subst Fb
 try dsimp only
 refine ae.n<|qq<|sr<|mv rfl<|lE jd fun gy jA jd=>ls _ rfl rfl jA<|dn ?_
 refine aF jd (fun j8=>AS.bG 36 [(0,.sv (.v (.int .i64 x0))),(1,.sv (.v (.int .i64 x1))),(4,.ptr 4 0),(5,.sv (.v (.int .i64 j8)))] [(4,⟨43,[.sv (.v (.bool false)),.sv (slc 1 (List.map ah [])),.sv (.v (.bool false)),.sv (slc 1 (List.map ah []))]⟩)] []) (fun jd=>?_) (fun GZ jd=>?_)
 cases gy
 exact fs<|⟨wG,(F jd),wR []⟩
 exact cT<|af<|mv rfl<|lE (V jd) fun eD ij jd=>RT.neg .none _ rfl T ij<|ag rfl<|dn<|⟨eD,jd,wR []⟩
 try dsimp only
 refine ae.n<|qq<|sr<|mv rfl<|mv rfl<|lE jd fun gz mH jd=>eq _ rfl rfl (tB (p:=GZ) (q:=x1) mH)<|dn ?_
 cases gz
 refine fs<|qq<|ai mixed<|mv rfl<|mv rfl<|bE (F jd) fun gA iP jd=>RT.quo .none _ rfl rfl T (Yf iP) (KZ iP) ?_
 obtain⟨⟨ow,oz⟩,wD,jd⟩:=bS jd
 refine cl (dD wD) ⟨rfl,trivial⟩<|mv rfl<|mv rfl<|bE jd fun rN rT jd=>RT.quo .none _ rfl rfl T (Yf rT) (KZ rT) ?_
 obtain⟨⟨G0,G1⟩,qf,jd⟩:=bS jd
 refine cl (dD qf) ⟨rfl,trivial⟩<|bI (cs:=[_,_,_,_]) (cs':=[.v (.bool ow),slc 1 (List.map ah oz),.v (.bool G0),slc 1 (List.map ah G1)]) (.agg rfl (.agg rfl (.nil))) ⟨SV.aa _,SV.aa _,SV.aa _,SV.aa _,trivial⟩<|so rfl rfl rfl ?_
 refine RT.done ⟨by kernel_rfl,?_⟩
 refine ae.n<|aj ?_
 obtain rfl:=O jd
 exact RZ (.agg rfl rfl (.cons rfl (.cons rfl (.cons rfl (.cons rfl (.nil))))) rfl (.nil))
 refine cT<|sr<|mv rfl<|mv rfl<|bE (V jd) fun gM l9 jd=>RT.quo .none _ rfl rfl T (Yf l9) (KZ l9) ?_
 obtain⟨⟨ig,gW⟩,qC,jd⟩:=bS jd
 refine cl (dD qC) ⟨rfl,trivial⟩<|bI (cs:=[_,_,_,_]) (cs':=[.v (.bool ig),slc 1 (List.map ah gW),.v (.bool false),slc 1 (List.map ah [])]) (.agg rfl (.nil)) ⟨SV.aa _,SV.aa _,SV.aa _,imp_nil,trivial⟩<|so rfl rfl rfl<|dn<|aj<|ae.r ?_
 obtain rfl:=O jd
 exact RZ (.agg rfl rfl (.cons rfl (.cons rfl (.cons rfl (.cons rfl (.nil))))) rfl (.nil))
theorem Fy{x0:Int}{r:Int}(h:pO x0=some r):Pure Tryz.prog 128 [.v (.int .i64 x0)] (.v (.int .i64 r)):=by
 refine ay Tryz.func128 rfl (Nat.le_of_ble_eq_true rfl) (fun cE M vs hvs=>?_)
 unfold pO at h
 refine sr<|ag rfl<|dn<|qq<|aq<|sr<|mv rfl<|lE h fun x5 h5 h=>ls _ rfl rfl h5<|ag rfl<|dn ?_
 cases x5
 refine cF<|sr<|mv rfl<|lE (F h) fun x8 h8 h=>gt _ rfl rfl h8<|ag rfl<|dn ?_
 cases x8
 refine cF<|aE<|aG.n<|ae.n<|sr<|ag rfl<|dn<|aj ?_
 obtain rfl:=O (F h)
 exact R1 rfl
 refine cT<|sr<|ag rfl<|dn<|aj<|aG.r<|ae.r ?_
 obtain rfl:=O (V h)
 exact R1 rfl
 refine cT<|sr<|ag rfl<|dn<|aj<|aG.r<|ae.r ?_
 obtain rfl:=O (V h)
 exact R1 rfl
theorem z5{x1:Qr}{x2:Qr}{r:Qr}(h:fU x1 x2=some r):Pure Tryz.prog 136 [.v (.int .u8 ((43:Nat):Int)),.agg (eQ x1),.agg (eQ x2)] (.agg (eQ r)):=by
 obtain⟨⟨bD,bC⟩,⟨eL,eM⟩⟩:=x1
 obtain⟨⟨lz,lA⟩,⟨xF,xG⟩⟩:=x2
 refine ay Tryz.func136 rfl (Nat.le_of_ble_eq_true rfl) (fun cE M vs hvs=>?_)
 unfold fU at h
 refine sr<|bx rfl<|bx rfl<|al (cs:=[.v (.bool false),slc 1 (List.map ah []),.v (.bool false),slc 1 (List.map ah [])]) (by exact⟨SV.aa _,imp_nil,SV.aa _,imp_nil,trivial⟩) rfl<|dn<|sr<|ld rfl rfl (.cons rfl (.cons rfl (.cons rfl (.cons rfl (.nil))))) ?_
 obtain⟨⟨⟨iG,iH⟩,⟨je,jg⟩⟩,gN,h⟩:=bS h
 refine cl (bJ gN) ⟨rfl,trivial⟩<|mv rfl<|ex rfl rfl<|ex rfl rfl<|al (cs:=[.v (.bool false),slc 1 (List.map ah [])]) (by exact⟨SV.aa _,imp_nil,trivial⟩) rfl<|al (cs:=[.v (.bool false),slc 1 (List.map ah [])]) (by exact⟨SV.aa _,imp_nil,trivial⟩) rfl<|so rfl rfl rfl<|so rfl rfl rfl<|dn<|sr<|ld rfl rfl (.cons rfl (.cons rfl (.cons rfl (.cons rfl (.nil))))) ?_
 obtain⟨⟨⟨iI,iJ⟩,⟨jh,ji⟩⟩,ij,h⟩:=bS h
 refine cl (bJ ij) ⟨rfl,trivial⟩<|mv rfl<|ex rfl rfl<|ex rfl rfl<|al (cs:=[.v (.bool false),slc 1 (List.map ah [])]) (by exact⟨SV.aa _,imp_nil,trivial⟩) rfl<|al (cs:=[.v (.bool false),slc 1 (List.map ah [])]) (by exact⟨SV.aa _,imp_nil,trivial⟩) rfl<|so rfl rfl rfl<|so rfl rfl rfl<|dn<|qq<|ai mixed<|cl dG trivial<|mv rfl ?_
 refine RT.look .none [.func (.func 187) #[] #[]] rfl rfl rfl T<|fl rfl rfl<|ld rfl rfl (.cons rfl (.cons rfl (.nil)))<|ld rfl rfl (.cons rfl (.cons rfl (.nil)))<|ld rfl rfl (.cons rfl (.cons rfl (.nil)))<|ld rfl rfl (.cons rfl (.cons rfl (.nil))) ?_
 obtain⟨⟨⟨jE,jF⟩,⟨jG,jH⟩⟩,iP,h⟩:=bS h
 refine cl (uc iP) ⟨rfl,rfl,rfl,rfl,trivial⟩<|ex rfl rfl<|ex rfl rfl ?_
 obtain⟨⟨⟨m9,mc⟩,⟨pP,pQ⟩⟩,kA,h⟩:=bS h
 refine cl (jK kA) ⟨rfl,rfl,trivial⟩<|so rfl rfl rfl ?_
 refine RT.done ⟨by kernel_rfl,?_⟩
 refine ae.n<|aj ?_
 obtain rfl:=O h
 exact RZ (.agg rfl rfl (.cons rfl (.cons rfl (.cons rfl (.cons rfl (.nil))))) rfl (.nil))
theorem z6{x1:Qr}{x2:Qr}{r:Qr}(h:fV x1 x2=some r):Pure Tryz.prog 136 [.v (.int .u8 ((45:Nat):Int)),.agg (eQ x1),.agg (eQ x2)] (.agg (eQ r)):=by
 obtain⟨⟨bD,bC⟩,⟨eL,eM⟩⟩:=x1
 obtain⟨⟨lz,lA⟩,⟨xF,xG⟩⟩:=x2
 refine ay Tryz.func136 rfl (Nat.le_of_ble_eq_true rfl) (fun cE M vs hvs=>?_)
 unfold fV at h
 refine sr<|bx rfl<|bx rfl<|al (cs:=[.v (.bool false),slc 1 (List.map ah []),.v (.bool false),slc 1 (List.map ah [])]) (by exact⟨SV.aa _,imp_nil,SV.aa _,imp_nil,trivial⟩) rfl<|dn<|sr<|ld rfl rfl (.cons rfl (.cons rfl (.cons rfl (.cons rfl (.nil))))) ?_
 obtain⟨⟨⟨iG,iH⟩,⟨je,jg⟩⟩,gN,h⟩:=bS h
 refine cl (bJ gN) ⟨rfl,trivial⟩<|mv rfl<|ex rfl rfl<|ex rfl rfl<|al (cs:=[.v (.bool false),slc 1 (List.map ah [])]) (by exact⟨SV.aa _,imp_nil,trivial⟩) rfl<|al (cs:=[.v (.bool false),slc 1 (List.map ah [])]) (by exact⟨SV.aa _,imp_nil,trivial⟩) rfl<|so rfl rfl rfl<|so rfl rfl rfl<|dn<|sr<|ld rfl rfl (.cons rfl (.cons rfl (.cons rfl (.cons rfl (.nil))))) ?_
 obtain⟨⟨⟨iI,iJ⟩,⟨jh,ji⟩⟩,ij,h⟩:=bS h
 refine cl (bJ ij) ⟨rfl,trivial⟩<|mv rfl<|ex rfl rfl<|ex rfl rfl<|al (cs:=[.v (.bool false),slc 1 (List.map ah [])]) (by exact⟨SV.aa _,imp_nil,trivial⟩) rfl<|al (cs:=[.v (.bool false),slc 1 (List.map ah [])]) (by exact⟨SV.aa _,imp_nil,trivial⟩) rfl<|so rfl rfl rfl<|so rfl rfl rfl<|dn<|qq<|ai mixed<|cl dG trivial<|mv rfl ?_
 refine RT.look .none [.func (.func 189) #[] #[]] rfl rfl rfl T<|fl rfl rfl<|ld rfl rfl (.cons rfl (.cons rfl (.nil)))<|ld rfl rfl (.cons rfl (.cons rfl (.nil)))<|ld rfl rfl (.cons rfl (.cons rfl (.nil)))<|ld rfl rfl (.cons rfl (.cons rfl (.nil))) ?_
 obtain⟨⟨⟨jE,jF⟩,⟨jG,jH⟩⟩,iP,h⟩:=bS h
 refine cl (ud iP) ⟨rfl,rfl,rfl,rfl,trivial⟩<|ex rfl rfl<|ex rfl rfl ?_
 obtain⟨⟨⟨m9,mc⟩,⟨pP,pQ⟩⟩,kA,h⟩:=bS h
 refine cl (jK kA) ⟨rfl,rfl,trivial⟩<|so rfl rfl rfl ?_
 refine RT.done ⟨by kernel_rfl,?_⟩
 refine ae.n<|aj ?_
 obtain rfl:=O h
 exact RZ (.agg rfl rfl (.cons rfl (.cons rfl (.cons rfl (.cons rfl (.nil))))) rfl (.nil))
theorem z7{x1:Qr}{x2:Qr}{r:Qr}(h:fW x1 x2=some r):Pure Tryz.prog 136 [.v (.int .u8 ((42:Nat):Int)),.agg (eQ x1),.agg (eQ x2)] (.agg (eQ r)):=by
 obtain⟨⟨bD,bC⟩,⟨eL,eM⟩⟩:=x1
 obtain⟨⟨lz,lA⟩,⟨xF,xG⟩⟩:=x2
 refine ay Tryz.func136 rfl (Nat.le_of_ble_eq_true rfl) (fun cE M vs hvs=>?_)
 unfold fW at h
 refine sr<|bx rfl<|bx rfl<|al (cs:=[.v (.bool false),slc 1 (List.map ah []),.v (.bool false),slc 1 (List.map ah [])]) (by exact⟨SV.aa _,imp_nil,SV.aa _,imp_nil,trivial⟩) rfl<|dn<|sr<|ld rfl rfl (.cons rfl (.cons rfl (.cons rfl (.cons rfl (.nil))))) ?_
 obtain⟨⟨⟨iG,iH⟩,⟨je,jg⟩⟩,gN,h⟩:=bS h
 refine cl (bJ gN) ⟨rfl,trivial⟩<|mv rfl<|ex rfl rfl<|ex rfl rfl<|al (cs:=[.v (.bool false),slc 1 (List.map ah [])]) (by exact⟨SV.aa _,imp_nil,trivial⟩) rfl<|al (cs:=[.v (.bool false),slc 1 (List.map ah [])]) (by exact⟨SV.aa _,imp_nil,trivial⟩) rfl<|so rfl rfl rfl<|so rfl rfl rfl<|dn<|sr<|ld rfl rfl (.cons rfl (.cons rfl (.cons rfl (.cons rfl (.nil))))) ?_
 obtain⟨⟨⟨iI,iJ⟩,⟨jh,ji⟩⟩,ij,h⟩:=bS h
 refine cl (bJ ij) ⟨rfl,trivial⟩<|mv rfl<|ex rfl rfl<|ex rfl rfl<|al (cs:=[.v (.bool false),slc 1 (List.map ah [])]) (by exact⟨SV.aa _,imp_nil,trivial⟩) rfl<|al (cs:=[.v (.bool false),slc 1 (List.map ah [])]) (by exact⟨SV.aa _,imp_nil,trivial⟩) rfl<|so rfl rfl rfl<|so rfl rfl rfl<|dn<|qq<|ai mixed<|cl dG trivial<|mv rfl ?_
 refine RT.look .none [.func (.func 191) #[] #[]] rfl rfl rfl T<|fl rfl rfl<|ld rfl rfl (.cons rfl (.cons rfl (.nil)))<|ld rfl rfl (.cons rfl (.cons rfl (.nil)))<|ld rfl rfl (.cons rfl (.cons rfl (.nil)))<|ld rfl rfl (.cons rfl (.cons rfl (.nil))) ?_
 obtain⟨⟨⟨jE,jF⟩,⟨jG,jH⟩⟩,iP,h⟩:=bS h
 refine cl (ue iP) ⟨rfl,rfl,rfl,rfl,trivial⟩<|ex rfl rfl<|ex rfl rfl ?_
 obtain⟨⟨⟨m9,mc⟩,⟨pP,pQ⟩⟩,kA,h⟩:=bS h
 refine cl (jK kA) ⟨rfl,rfl,trivial⟩<|so rfl rfl rfl ?_
 refine RT.done ⟨by kernel_rfl,?_⟩
 refine ae.n<|aj ?_
 obtain rfl:=O h
 exact RZ (.agg rfl rfl (.cons rfl (.cons rfl (.cons rfl (.cons rfl (.nil))))) rfl (.nil))
theorem z8{x1:Qr}{x2:Qr}{r:Qr}(h:jI x1 x2=some r):Pure Tryz.prog 136 [.v (.int .u8 ((47:Nat):Int)),.agg (eQ x1),.agg (eQ x2)] (.agg (eQ r)):=by
 obtain⟨⟨bD,bC⟩,⟨eL,eM⟩⟩:=x1
 obtain⟨⟨lz,lA⟩,⟨xF,xG⟩⟩:=x2
 refine ay Tryz.func136 rfl (Nat.le_of_ble_eq_true rfl) (fun cE M vs hvs=>?_)
 unfold jI at h
 refine sr<|bx rfl<|bx rfl<|al (cs:=[.v (.bool false),slc 1 (List.map ah []),.v (.bool false),slc 1 (List.map ah [])]) (by exact⟨SV.aa _,imp_nil,SV.aa _,imp_nil,trivial⟩) rfl<|dn<|sr<|ld rfl rfl (.cons rfl (.cons rfl (.cons rfl (.cons rfl (.nil))))) ?_
 obtain⟨⟨⟨iG,iH⟩,⟨je,jg⟩⟩,gN,h⟩:=bS h
 refine cl (bJ gN) ⟨rfl,trivial⟩<|mv rfl<|ex rfl rfl<|ex rfl rfl<|al (cs:=[.v (.bool false),slc 1 (List.map ah [])]) (by exact⟨SV.aa _,imp_nil,trivial⟩) rfl<|al (cs:=[.v (.bool false),slc 1 (List.map ah [])]) (by exact⟨SV.aa _,imp_nil,trivial⟩) rfl<|so rfl rfl rfl<|so rfl rfl rfl<|dn<|sr<|ld rfl rfl (.cons rfl (.cons rfl (.cons rfl (.cons rfl (.nil))))) ?_
 obtain⟨⟨⟨iI,iJ⟩,⟨jh,ji⟩⟩,ij,h⟩:=bS h
 refine cl (bJ ij) ⟨rfl,trivial⟩<|mv rfl<|ex rfl rfl<|ex rfl rfl<|al (cs:=[.v (.bool false),slc 1 (List.map ah [])]) (by exact⟨SV.aa _,imp_nil,trivial⟩) rfl<|al (cs:=[.v (.bool false),slc 1 (List.map ah [])]) (by exact⟨SV.aa _,imp_nil,trivial⟩) rfl<|so rfl rfl rfl<|so rfl rfl rfl<|dn<|qq<|ai mixed<|cl dG trivial<|mv rfl ?_
 refine RT.look .none [.func (.func 192) #[] #[]] rfl rfl rfl T<|fl rfl rfl<|ld rfl rfl (.cons rfl (.cons rfl (.nil)))<|ld rfl rfl (.cons rfl (.cons rfl (.nil)))<|ld rfl rfl (.cons rfl (.cons rfl (.nil)))<|ld rfl rfl (.cons rfl (.cons rfl (.nil))) ?_
 obtain⟨⟨⟨jE,jF⟩,⟨jG,jH⟩⟩,iP,h⟩:=bS h
 refine cl (uf iP) ⟨rfl,rfl,rfl,rfl,trivial⟩<|ex rfl rfl<|ex rfl rfl ?_
 obtain⟨⟨⟨m9,mc⟩,⟨pP,pQ⟩⟩,kA,h⟩:=bS h
 refine cl (jK kA) ⟨rfl,rfl,trivial⟩<|so rfl rfl rfl ?_
 refine RT.done ⟨by kernel_rfl,?_⟩
 refine ae.n<|aj ?_
 obtain rfl:=O h
 exact RZ (.agg rfl rfl (.cons rfl (.cons rfl (.cons rfl (.cons rfl (.nil))))) rfl (.nil))
end Go.Proofs.YtningmnklfpfjaaGreat
namespace Go.Proofs.YtningmnklfpfjaaGreat
open Go.Fw Go.Fw.Z Go.RowKit
theorem gC{x0:Int}{r:Qr}(h:cx x0=some r):Pure Tryz.prog 41 [.v (.int .i64 x0)] (.agg (eQ r)):=by
 refine ay Tryz.func41 rfl (Nat.le_of_ble_eq_true rfl) (fun cE M vs hvs=>?_)
 unfold cx at h
 refine sr<|al (cs:=[.v (.bool false),slc 1 (List.map ah []),.v (.bool false),slc 1 (List.map ah [])]) (by exact⟨SV.aa _,imp_nil,SV.aa _,imp_nil,trivial⟩) rfl<|dn<|sr<|mv rfl ?_
 obtain⟨⟨Wh,Wi⟩,h4,h⟩:=bS h
 refine cl (dD h4) ⟨rfl,trivial⟩<|bI (cs:=[_,_,_,_]) (cs':=[.v (.bool Wh),slc 1 (List.map ah Wi),.v (.bool false),slc 1 (List.map ah [])]) (.agg rfl (.nil)) ⟨SV.aa _,SV.aa _,SV.aa _,imp_nil,trivial⟩<|so rfl rfl rfl<|dn<|aj ?_
 obtain rfl:=O h
 exact RZ (.agg rfl rfl (.cons rfl (.cons rfl (.cons rfl (.cons rfl (.nil))))) rfl (.nil))
theorem gD{x0:Qr}{r:Qr}(h:bZ x0=some r):Pure Tryz.prog 93 [.agg (eQ x0)] (.agg (eQ r)):=by
 obtain⟨⟨aA,aB⟩,⟨aK,aL⟩⟩:=x0
 refine ay Tryz.func93 rfl (Nat.le_of_ble_eq_true rfl) (fun cE M vs hvs=>?_)
 unfold bZ at h
 refine sr<|bx rfl<|al (cs:=[.v (.bool false),slc 1 (List.map ah []),.v (.bool false),slc 1 (List.map ah [])]) (by exact⟨SV.aa _,imp_nil,SV.aa _,imp_nil,trivial⟩) rfl<|dn<|qq<|sr<|ld rfl rfl (.cons rfl (.cons rfl (.cons rfl (.cons rfl (.nil))))) ?_
 obtain⟨⟨x8a,x8b,ZM⟩,h8,h⟩:=bS h
 refine cl (bW h8) ⟨rfl,trivial⟩<|mv rfl<|ex rfl rfl<|ex rfl rfl<|ex rfl rfl<|ag rfl<|ag rfl<|ag rfl<|dn<|sr<|mv rfl<|dn ?_
 cases ZM
 refine fs<|sr<|ld rfl rfl (.cons rfl (.cons rfl (.cons rfl (.cons rfl (.nil))))) ?_
 obtain⟨⟨⟨I0,I1⟩,⟨I2,I3⟩⟩,kJ,h⟩:=bS (F h)
 refine cl (bJ kJ) ⟨rfl,trivial⟩<|ex rfl rfl<|ex rfl rfl ?_
 obtain⟨⟨⟨NU,NV⟩,⟨NW,NX⟩⟩,l8,h⟩:=bS h
 refine cl (jK l8) ⟨rfl,rfl,trivial⟩<|so rfl rfl rfl<|dn<|aj ?_
 obtain rfl:=O h
 exact RZ (.agg rfl rfl (.cons rfl (.cons rfl (.cons rfl (.cons rfl (.nil))))) rfl (.nil))
 refine cT<|sr<|mv rfl<|mv rfl ?_
 obtain⟨⟨⟨jC,jD⟩,⟨D4,D5⟩⟩,fN,h⟩:=bS (V h)
 refine cl (kp fN) ⟨rfl,rfl,trivial⟩<|so rfl rfl rfl<|dn<|aj<|ae.r ?_
 obtain rfl:=O h
 exact RZ (.agg rfl rfl (.cons rfl (.cons rfl (.cons rfl (.cons rfl (.nil))))) rfl (.nil))
theorem fB{x0:Qr}{r:Int}(h:ef x0=some r):Pure Tryz.prog 59 [.agg (eQ x0)] (.v (.int .i64 r)):=by
 obtain⟨⟨aA,aB⟩,⟨aK,aL⟩⟩:=x0
 refine ay Tryz.func59 rfl (Nat.le_of_ble_eq_true rfl) (fun cE M vs hvs=>?_)
 unfold ef at h
 refine sr<|bx rfl<|ag rfl<|dn<|qq<|sr<|fa rfl rfl<|ld rfl rfl (.cons rfl (.cons rfl (.nil)))<|bE h fun x5 h5 h=>cl (dS h5) ⟨rfl,trivial⟩<|lE h fun x6 h6 h=>ls _ rfl rfl h6<|dn ?_
 cases x6
 refine fs<|sr<|fa rfl rfl<|ld rfl rfl (.cons rfl (.cons rfl (.nil)))<|bE (F h) fun iu gN h=>cl (dS gN) ⟨rfl,trivial⟩<|ag rfl<|dn<|aj ?_
 obtain rfl:=O h
 exact R1 rfl
 refine cT<|sr<|fa rfl rfl<|ld rfl rfl (.cons rfl (.cons rfl (.nil)))<|bE (V h) fun x9 h9 h=>cl (dS h9) ⟨rfl,trivial⟩<|lE h fun dB fM h=>RT.neg .none _ rfl T fM<|ag rfl<|dn<|aj<|ae.r ?_
 obtain rfl:=O h
 exact R1 rfl
theorem zF{x0:Qr}{x1:Qr}{r:Qr}(h:jJ x0 x1=some r):Pure Tryz.prog 132 [.agg (eQ x0),.agg (eQ x1)] (.agg (eQ r)):=by
 obtain⟨⟨aA,aB⟩,⟨aK,aL⟩⟩:=x0
 obtain⟨⟨bD,bC⟩,⟨eL,eM⟩⟩:=x1
 refine ay Tryz.func132 rfl (Nat.le_of_ble_eq_true rfl) (fun cE M vs hvs=>?_)
 unfold jJ at h
 refine sr<|bx rfl<|bx rfl<|al (cs:=[.v (.bool false),slc 1 (List.map ah []),.v (.bool false),slc 1 (List.map ah [])]) (by exact⟨SV.aa _,imp_nil,SV.aa _,imp_nil,trivial⟩) rfl<|dn<|sr<|ld rfl rfl (.cons rfl (.cons rfl (.cons rfl (.cons rfl (.nil))))) ?_
 obtain⟨⟨tW,rY,tX⟩,gN,h⟩:=bS h
 refine cl (bW gN) ⟨rfl,trivial⟩<|mv rfl<|ex rfl rfl<|ex rfl rfl<|ex rfl rfl<|ag rfl<|ag rfl<|ag rfl<|dn<|sr<|ld rfl rfl (.cons rfl (.cons rfl (.cons rfl (.cons rfl (.nil))))) ?_
 obtain⟨⟨tY,rZ,tZ⟩,kn,h⟩:=bS h
 refine cl (bW kn) ⟨rfl,trivial⟩<|mv rfl<|ex rfl rfl<|ex rfl rfl<|ex rfl rfl<|ag rfl<|ag rfl<|ag rfl<|dn<|qq<|qq ?_
 refine aF h (fun j3=>AS.bG 41 [(2,.ptr 2 0),(3,.ptr 3 0),(4,.ptr 4 0),(5,.sv (.v (.int .i64 tW))),(6,.sv (.v (.int .i64 rY))),(8,.sv (.v (.int .i64 tY))),(9,.sv (.v (.int .i64 rZ))),(26,.sv (.v (.bool j3)))] [(4,⟨43,[.sv (.v (.bool false)),.sv (slc 1 (List.map ah [])),.sv (.v (.bool false)),.sv (slc 1 (List.map ah []))]⟩),(3,⟨43,[.sv (.v (.bool bD)),.sv (slc 1 (List.map ah bC)),.sv (.v (.bool eL)),.sv (slc 1 (List.map ah eM))]⟩),(2,⟨43,[.sv (.v (.bool aA)),.sv (slc 1 (List.map ah aB)),.sv (.v (.bool aK)),.sv (slc 1 (List.map ah aL))]⟩)] []) (fun h=>?_) (fun nh h=>?_)
 refine af<|mv rfl<|mv rfl<|bE h fun ua mR h=>?_
 cases tX
 obtain rfl:=O (F mR)
 exact ww<|pF rfl<|dn<|⟨false,h,wR []⟩
 refine gm rfl ?_
 obtain rfl:=O (V mR)
 exact pT rfl<|dn<|⟨tZ,h,wR []⟩
 try dsimp only
 refine ae.n ?_
 cases nh
 refine fs<|sr<|ld rfl rfl (.cons rfl (.cons rfl (.cons rfl (.cons rfl (.nil)))))<|ld rfl rfl (.cons rfl (.cons rfl (.cons rfl (.cons rfl (.nil))))) ?_
 obtain⟨⟨⟨tN,tO⟩,⟨BI,BJ⟩⟩,mQ,h⟩:=bS (F h)
 refine cl (z5 mQ) ⟨rfl,rfl,rfl,trivial⟩<|so rfl rfl rfl<|dn<|aj ?_
 obtain rfl:=O h
 exact RZ (.agg rfl rfl (.cons rfl (.cons rfl (.cons rfl (.cons rfl (.nil))))) rfl (.nil))
 refine cT<|sr<|mv rfl<|mv rfl<|lE (V h) fun gA iP h=>RT.mul .none _ rfl rfl T iP<|mv rfl<|mv rfl<|lE h fun iE kA h=>RT.mul .none _ rfl rfl T kA<|lE h fun rN rT h=>ad _ rfl rfl rT<|mv rfl<|mv rfl<|lE h fun pH pA h=>RT.mul .none _ rfl rfl T pA ?_
 obtain⟨⟨⟨BE,BF⟩,⟨BG,BH⟩⟩,yP,h⟩:=bS h
 refine cl (kp yP) ⟨rfl,rfl,trivial⟩<|so rfl rfl rfl<|dn<|aj<|ae.r ?_
 obtain rfl:=O h
 exact RZ (.agg rfl rfl (.cons rfl (.cons rfl (.cons rfl (.cons rfl (.nil))))) rfl (.nil))
theorem G3{x0:Qr}{x1:Qr}{r:Qr}(h:kK x0 x1=some r):Pure Tryz.prog 94 [.agg (eQ x0),.agg (eQ x1)] (.agg (eQ r)):=by
 obtain⟨⟨aA,aB⟩,⟨aK,aL⟩⟩:=x0
 obtain⟨⟨bD,bC⟩,⟨eL,eM⟩⟩:=x1
 refine ay Tryz.func94 rfl (Nat.le_of_ble_eq_true rfl) (fun cE M vs hvs=>?_)
 unfold kK at h
 refine sr<|bx rfl<|bx rfl<|al (cs:=[.v (.bool false),slc 1 (List.map ah []),.v (.bool false),slc 1 (List.map ah [])]) (by exact⟨SV.aa _,imp_nil,SV.aa _,imp_nil,trivial⟩) rfl<|dn<|sr<|ld rfl rfl (.cons rfl (.cons rfl (.cons rfl (.cons rfl (.nil))))) ?_
 obtain⟨⟨tW,rY,tX⟩,gN,h⟩:=bS h
 refine cl (bW gN) ⟨rfl,trivial⟩<|mv rfl<|ex rfl rfl<|ex rfl rfl<|ex rfl rfl<|ag rfl<|ag rfl<|ag rfl<|dn<|sr<|ld rfl rfl (.cons rfl (.cons rfl (.cons rfl (.cons rfl (.nil))))) ?_
 obtain⟨⟨tY,rZ,tZ⟩,kn,h⟩:=bS h
 refine cl (bW kn) ⟨rfl,trivial⟩<|mv rfl<|ex rfl rfl<|ex rfl rfl<|ex rfl rfl<|ag rfl<|ag rfl<|ag rfl<|dn<|qq<|qq ?_
 refine aF h (fun j3=>AS.bG 41 [(2,.ptr 2 0),(3,.ptr 3 0),(4,.ptr 4 0),(5,.sv (.v (.int .i64 tW))),(6,.sv (.v (.int .i64 rY))),(8,.sv (.v (.int .i64 tY))),(9,.sv (.v (.int .i64 rZ))),(26,.sv (.v (.bool j3)))] [(4,⟨43,[.sv (.v (.bool false)),.sv (slc 1 (List.map ah [])),.sv (.v (.bool false)),.sv (slc 1 (List.map ah []))]⟩),(3,⟨43,[.sv (.v (.bool bD)),.sv (slc 1 (List.map ah bC)),.sv (.v (.bool eL)),.sv (slc 1 (List.map ah eM))]⟩),(2,⟨43,[.sv (.v (.bool aA)),.sv (slc 1 (List.map ah aB)),.sv (.v (.bool aK)),.sv (slc 1 (List.map ah aL))]⟩)] []) (fun h=>?_) (fun nh h=>?_)
 refine af<|mv rfl<|mv rfl<|bE h fun ua mR h=>?_
 cases tX
 obtain rfl:=O (F mR)
 exact ww<|pF rfl<|dn<|⟨false,h,wR []⟩
 refine gm rfl ?_
 obtain rfl:=O (V mR)
 exact pT rfl<|dn<|⟨tZ,h,wR []⟩
 try dsimp only
 refine ae.n ?_
 cases nh
 refine fs<|sr<|ld rfl rfl (.cons rfl (.cons rfl (.cons rfl (.cons rfl (.nil)))))<|ld rfl rfl (.cons rfl (.cons rfl (.cons rfl (.cons rfl (.nil))))) ?_
 obtain⟨⟨⟨tN,tO⟩,⟨BI,BJ⟩⟩,mQ,h⟩:=bS (F h)
 refine cl (z6 mQ) ⟨rfl,rfl,rfl,trivial⟩<|so rfl rfl rfl<|dn<|aj ?_
 obtain rfl:=O h
 exact RZ (.agg rfl rfl (.cons rfl (.cons rfl (.cons rfl (.cons rfl (.nil))))) rfl (.nil))
 refine cT<|sr<|mv rfl<|mv rfl<|lE (V h) fun gA iP h=>RT.mul .none _ rfl rfl T iP<|mv rfl<|mv rfl<|lE h fun iE kA h=>RT.mul .none _ rfl rfl T kA<|lE h fun rN rT h=>sb _ rfl rfl rT<|mv rfl<|mv rfl<|lE h fun pH pA h=>RT.mul .none _ rfl rfl T pA ?_
 obtain⟨⟨⟨BE,BF⟩,⟨BG,BH⟩⟩,yP,h⟩:=bS h
 refine cl (kp yP) ⟨rfl,rfl,trivial⟩<|so rfl rfl rfl<|dn<|aj<|ae.r ?_
 obtain rfl:=O h
 exact RZ (.agg rfl rfl (.cons rfl (.cons rfl (.cons rfl (.cons rfl (.nil))))) rfl (.nil))
theorem ug{x0:Qr}{x1:Qr}{r:Qr}(h:iK x0 x1=some r):Pure Tryz.prog 89 [.agg (eQ x0),.agg (eQ x1)] (.agg (eQ r)):=by
 obtain⟨⟨aA,aB⟩,⟨aK,aL⟩⟩:=x0
 obtain⟨⟨bD,bC⟩,⟨eL,eM⟩⟩:=x1
 refine ay Tryz.func89 rfl (Nat.le_of_ble_eq_true rfl) (fun cE M vs hvs=>?_)
 unfold iK at h
 refine sr<|bx rfl<|bx rfl<|al (cs:=[.v (.bool false),slc 1 (List.map ah []),.v (.bool false),slc 1 (List.map ah [])]) (by exact⟨SV.aa _,imp_nil,SV.aa _,imp_nil,trivial⟩) rfl<|dn<|sr<|ld rfl rfl (.cons rfl (.cons rfl (.cons rfl (.cons rfl (.nil))))) ?_
 obtain⟨⟨tW,rY,tX⟩,gN,h⟩:=bS h
 refine cl (bW gN) ⟨rfl,trivial⟩<|mv rfl<|ex rfl rfl<|ex rfl rfl<|ex rfl rfl<|ag rfl<|ag rfl<|ag rfl<|dn<|sr<|ld rfl rfl (.cons rfl (.cons rfl (.cons rfl (.cons rfl (.nil))))) ?_
 obtain⟨⟨tY,rZ,tZ⟩,kn,h⟩:=bS h
 refine cl (bW kn) ⟨rfl,trivial⟩<|mv rfl<|ex rfl rfl<|ex rfl rfl<|ex rfl rfl<|ag rfl<|ag rfl<|ag rfl<|dn<|qq<|qq ?_
 refine aF h (fun j3=>AS.bG 37 [(2,.ptr 2 0),(3,.ptr 3 0),(4,.ptr 4 0),(5,.sv (.v (.int .i64 tW))),(6,.sv (.v (.int .i64 rY))),(8,.sv (.v (.int .i64 tY))),(9,.sv (.v (.int .i64 rZ))),(26,.sv (.v (.bool j3)))] [(4,⟨43,[.sv (.v (.bool false)),.sv (slc 1 (List.map ah [])),.sv (.v (.bool false)),.sv (slc 1 (List.map ah []))]⟩),(3,⟨43,[.sv (.v (.bool bD)),.sv (slc 1 (List.map ah bC)),.sv (.v (.bool eL)),.sv (slc 1 (List.map ah eM))]⟩),(2,⟨43,[.sv (.v (.bool aA)),.sv (slc 1 (List.map ah aB)),.sv (.v (.bool aK)),.sv (slc 1 (List.map ah aL))]⟩)] []) (fun h=>?_) (fun nh h=>?_)
 refine af<|mv rfl<|mv rfl<|bE h fun ua mR h=>?_
 cases tX
 obtain rfl:=O (F mR)
 exact ww<|pF rfl<|dn<|⟨false,h,wR []⟩
 refine gm rfl ?_
 obtain rfl:=O (V mR)
 exact pT rfl<|dn<|⟨tZ,h,wR []⟩
 try dsimp only
 refine ae.n ?_
 cases nh
 refine fs<|sr<|ld rfl rfl (.cons rfl (.cons rfl (.cons rfl (.cons rfl (.nil)))))<|ld rfl rfl (.cons rfl (.cons rfl (.cons rfl (.cons rfl (.nil))))) ?_
 obtain⟨⟨⟨pI,pJ⟩,⟨D6,D7⟩⟩,pA,h⟩:=bS (F h)
 refine cl (z7 pA) ⟨rfl,rfl,rfl,trivial⟩<|so rfl rfl rfl<|dn<|aj ?_
 obtain rfl:=O h
 exact RZ (.agg rfl rfl (.cons rfl (.cons rfl (.cons rfl (.cons rfl (.nil))))) rfl (.nil))
 refine cT<|sr<|mv rfl<|mv rfl<|lE (V h) fun gA iP h=>RT.mul .none _ rfl rfl T iP<|mv rfl<|mv rfl<|lE h fun iE kA h=>RT.mul .none _ rfl rfl T kA ?_
 obtain⟨⟨⟨NY,NZ⟩,⟨N0,N3⟩⟩,rT,h⟩:=bS h
 refine cl (kp rT) ⟨rfl,rfl,trivial⟩<|so rfl rfl rfl<|dn<|aj<|ae.r ?_
 obtain rfl:=O h
 exact RZ (.agg rfl rfl (.cons rfl (.cons rfl (.cons rfl (.cons rfl (.nil))))) rfl (.nil))
theorem G4{x0:Qr}{x1:Qr}{r:Qr×Int}(h:oE x0 x1=some r):Pure Tryz.prog 105 [.agg (eQ x0),.agg (eQ x1)] (.vG [.agg (eQ r.1),.v (.int .i64 r.2)]):=by
 obtain⟨⟨aA,aB⟩,⟨aK,aL⟩⟩:=x0
 obtain⟨⟨bD,bC⟩,⟨eL,eM⟩⟩:=x1
 refine ay Tryz.func105 rfl (Nat.le_of_ble_eq_true rfl) (fun cE M vs hvs=>?_)
 unfold oE at h
 refine sr<|bx rfl<|bx rfl<|al (cs:=[.v (.bool false),slc 1 (List.map ah []),.v (.bool false),slc 1 (List.map ah [])]) (by exact⟨SV.aa _,imp_nil,SV.aa _,imp_nil,trivial⟩) rfl<|ag rfl<|dn<|qq<|sr<|ld rfl rfl (.cons rfl (.cons rfl (.cons rfl (.cons rfl (.nil)))))<|bE h fun iu gN h=>cl (fB gN) ⟨rfl,trivial⟩<|lE h fun eH jc h=>eq _ rfl rfl (tB (p:=iu) (q:=0) jc)<|RT.done ?_
 refine ae.n ?_
 cases eH
 refine fs<|sr<|ld rfl rfl (.cons rfl (.cons rfl (.cons rfl (.cons rfl (.nil))))) ?_
 obtain⟨⟨N4,QW,Wj⟩,ij,h⟩:=bS (F h)
 refine cl (bW ij) ⟨rfl,trivial⟩<|mv rfl<|ex rfl rfl<|ex rfl rfl<|ex rfl rfl<|ag rfl<|ag rfl<|ag rfl<|dn<|sr<|ld rfl rfl (.cons rfl (.cons rfl (.cons rfl (.cons rfl (.nil))))) ?_
 obtain⟨⟨Lj,Lk,Wk⟩,l9,h⟩:=bS h
 refine cl (bW l9) ⟨rfl,trivial⟩<|mv rfl<|ex rfl rfl<|ex rfl rfl<|ex rfl rfl<|ag rfl<|ag rfl<|ag rfl<|dn<|qq<|qq ?_
 refine aF h (fun j3=>AS.bG 48 [(2,.ptr 2 0),(3,.ptr 3 0),(4,.ptr 4 0),(6,.sv (.v (.int .i64 N4))),(7,.sv (.v (.int .i64 QW))),(9,.sv (.v (.int .i64 Lj))),(10,.sv (.v (.int .i64 Lk))),(31,.sv (.v (.bool j3)))] [(4,⟨43,[.sv (.v (.bool false)),.sv (slc 1 (List.map ah [])),.sv (.v (.bool false)),.sv (slc 1 (List.map ah []))]⟩),(3,⟨43,[.sv (.v (.bool bD)),.sv (slc 1 (List.map ah bC)),.sv (.v (.bool eL)),.sv (slc 1 (List.map ah eM))]⟩),(2,⟨43,[.sv (.v (.bool aA)),.sv (slc 1 (List.map ah aB)),.sv (.v (.bool aK)),.sv (slc 1 (List.map ah aL))]⟩)] []) (fun h=>?_) (fun BK h=>?_)
 refine af<|mv rfl<|mv rfl<|bE h fun SX L4 h=>?_
 cases Wj
 obtain rfl:=O (F L4)
 exact ww<|pF rfl<|dn<|⟨false,h,wR []⟩
 refine gm rfl ?_
 obtain rfl:=O (V L4)
 exact pT rfl<|dn<|⟨Wk,h,wR []⟩
 try dsimp only
 refine ae.n ?_
 cases BK
 refine fs<|sr<|ld rfl rfl (.cons rfl (.cons rfl (.cons rfl (.cons rfl (.nil)))))<|ld rfl rfl (.cons rfl (.cons rfl (.cons rfl (.cons rfl (.nil))))) ?_
 obtain⟨⟨⟨DY,DZ⟩,⟨SU,SW⟩⟩,vo,h⟩:=bS (F h)
 refine cl (z8 vo) ⟨rfl,rfl,rfl,trivial⟩<|so rfl rfl rfl<|ag rfl<|dn<|aj ?_
 obtain rfl:=O h
 exact RZ (.agg rfl rfl (.cons rfl (.cons rfl (.cons rfl (.cons rfl (.nil))))) rfl (.tmp rfl (.nil)))
 refine cT<|qq<|sr<|mv rfl<|lE (V h) fun rN rT h=>ls _ rfl rfl rT<|dn ?_
 refine aF h (fun j6=>AS.bG 48 [(4,.ptr 4 0),(6,.sv (.v (.int .i64 j6.1))),(7,.sv (.v (.int .i64 QW))),(9,.sv (.v (.int .i64 j6.2))),(10,.sv (.v (.int .i64 Lk)))] [(4,⟨43,[.sv (.v (.bool false)),.sv (slc 1 (List.map ah [])),.sv (.v (.bool false)),.sv (slc 1 (List.map ah []))]⟩)] []) (fun h=>?_) (fun j6 h=>?_)
 cases rN
 exact fs<|⟨(N4,Lj),(F h),wR []⟩
 exact cT<|af<|mv rfl<|lE (V h) fun rJ yM h=>RT.neg .none _ rfl T yM<|mv rfl<|lE h fun vn yP h=>RT.neg .none _ rfl T yP<|ag rfl<|ag rfl<|dn<|⟨(rJ,vn),h,wR []⟩
 obtain⟨ZN,ZO⟩:=j6
 try dsimp only
 refine ae.n<|sr<|mv rfl<|mv rfl<|lE h fun kg mQ h=>RT.mul .none _ rfl rfl T mQ<|mv rfl<|mv rfl<|lE h fun ri AA h=>RT.mul .none _ rfl rfl T AA ?_
 obtain⟨⟨⟨D0,D1⟩,⟨SR,SS⟩⟩,zZ,h⟩:=bS h
 refine cl (kp zZ) ⟨rfl,rfl,trivial⟩<|so rfl rfl rfl<|ag rfl<|dn<|aj<|ae.r ?_
 obtain rfl:=O h
 exact RZ (.agg rfl rfl (.cons rfl (.cons rfl (.cons rfl (.cons rfl (.nil))))) rfl (.tmp rfl (.nil)))
 refine cT<|sr<|bI (cs:=[_,_,_,_]) (cs':=[.v (.bool false),slc 1 (List.map ah []),.v (.bool false),slc 1 (List.map ah [])]) (.nil) ⟨SV.aa _,imp_nil,SV.aa _,imp_nil,trivial⟩<|so rfl rfl rfl<|ag rfl<|dn<|aj<|ae.r ?_
 obtain rfl:=O (V h)
 exact RZ (.agg rfl rfl (.cons rfl (.cons rfl (.cons rfl (.cons rfl (.nil))))) rfl (.tmp rfl (.nil)))
theorem G5{x0:Qr}{r:Qr}(h:oF x0=some r):Pure Tryz.prog 108 [.agg (eQ x0)] (.agg (eQ r)):=by
 obtain⟨⟨aA,aB⟩,⟨aK,aL⟩⟩:=x0
 refine ay Tryz.func108 rfl (Nat.le_of_ble_eq_true rfl) (fun cE M vs hvs=>?_)
 unfold oF at h
 refine sr<|bx rfl<|al (cs:=[.v (.bool false),slc 1 (List.map ah []),.v (.bool false),slc 1 (List.map ah [])]) (by exact⟨SV.aa _,imp_nil,SV.aa _,imp_nil,trivial⟩) rfl<|dn<|sr<|ld rfl rfl (.cons rfl (.cons rfl (.cons rfl (.cons rfl (.nil))))) ?_
 obtain⟨⟨⟨Dl,G2⟩,⟨Dm,Fx⟩⟩,h5,h⟩:=bS h
 refine cl (gD h5) ⟨rfl,trivial⟩<|al (cs:=[.v (.bool false),slc 1 (List.map ah []),.v (.bool false),slc 1 (List.map ah [])]) (by exact⟨SV.aa _,imp_nil,SV.aa _,imp_nil,trivial⟩) rfl<|so rfl rfl rfl<|dn<|qq<|ai mixed<|fa rfl rfl<|ld rfl rfl (.cons rfl (.cons rfl (.nil))) ?_
 obtain⟨⟨vu,vv⟩,h8,h⟩:=bS h
 refine cl (lu h8) ⟨rfl,trivial⟩<|fa rfl rfl<|ld rfl rfl (.cons rfl (.cons rfl (.nil)))<|bI (cs:=[_,_,_,_]) (cs':=[.v (.bool vu),slc 1 (List.map ah vv),.v (.bool Dm),slc 1 (List.map ah Fx)]) (.agg rfl (.agg rfl (.nil))) ⟨SV.aa _,SV.aa _,SV.aa _,SV.aa _,trivial⟩<|so rfl rfl rfl ?_
 refine RT.done ⟨by kernel_rfl,?_⟩
 refine ae.n<|aj ?_
 obtain rfl:=O h
 exact RZ (.agg rfl rfl (.cons rfl (.cons rfl (.cons rfl (.cons rfl (.nil))))) rfl (.nil))
theorem zG{x0:Qr}{x1:Qr}{r:Int}(h:mI x0 x1=some r):Pure Tryz.prog 86 [.agg (eQ x0),.agg (eQ x1)] (.v (.int .i64 r)):=by
 obtain⟨⟨aA,aB⟩,⟨aK,aL⟩⟩:=x0
 obtain⟨⟨bD,bC⟩,⟨eL,eM⟩⟩:=x1
 refine ay Tryz.func86 rfl (Nat.le_of_ble_eq_true rfl) (fun cE M vs hvs=>?_)
 unfold mI at h
 refine sr<|bx rfl<|bx rfl<|ag rfl<|dn<|sr<|ld rfl rfl (.cons rfl (.cons rfl (.cons rfl (.cons rfl (.nil))))) ?_
 obtain⟨⟨⟨iG,iH⟩,⟨je,jg⟩⟩,gN,h⟩:=bS h
 refine cl (bJ gN) ⟨rfl,trivial⟩<|mv rfl<|ex rfl rfl<|ex rfl rfl<|al (cs:=[.v (.bool false),slc 1 (List.map ah [])]) (by exact⟨SV.aa _,imp_nil,trivial⟩) rfl<|al (cs:=[.v (.bool false),slc 1 (List.map ah [])]) (by exact⟨SV.aa _,imp_nil,trivial⟩) rfl<|so rfl rfl rfl<|so rfl rfl rfl<|dn<|sr<|ld rfl rfl (.cons rfl (.cons rfl (.cons rfl (.cons rfl (.nil))))) ?_
 obtain⟨⟨⟨iI,iJ⟩,⟨jh,ji⟩⟩,ij,h⟩:=bS h
 refine cl (bJ ij) ⟨rfl,trivial⟩<|mv rfl<|ex rfl rfl<|ex rfl rfl<|al (cs:=[.v (.bool false),slc 1 (List.map ah [])]) (by exact⟨SV.aa _,imp_nil,trivial⟩) rfl<|al (cs:=[.v (.bool false),slc 1 (List.map ah [])]) (by exact⟨SV.aa _,imp_nil,trivial⟩) rfl<|so rfl rfl rfl<|so rfl rfl rfl<|dn<|qq<|qq<|ai mixed<|ld rfl rfl (.cons rfl (.cons rfl (.nil)))<|bE h fun kf nK h=>?_
 refine cl (dS nK) ⟨rfl,trivial⟩<|ld rfl rfl (.cons rfl (.cons rfl (.nil)))<|bE h fun gM l9 h=>cl (dS l9) ⟨rfl,trivial⟩<|ag rfl<|ag rfl ?_
 refine RT.done ⟨by kernel_rfl,?_⟩
 refine ae.n<|qq ?_
 refine aF h (fun j3=>AS.bG 43 [(5,.ptr 5 0),(6,.ptr 6 0),(7,.ptr 7 0),(8,.ptr 8 0),(9,.sv (.v (.int .i64 kf))),(10,.sv (.v (.int .i64 gM))),(31,.sv (.v (.bool j3)))] [(8,⟨41,[.sv (.v (.bool jh)),.sv (slc 1 (List.map ah ji))]⟩),(7,⟨41,[.sv (.v (.bool iI)),.sv (slc 1 (List.map ah iJ))]⟩),(6,⟨41,[.sv (.v (.bool je)),.sv (slc 1 (List.map ah jg))]⟩),(5,⟨41,[.sv (.v (.bool iG)),.sv (slc 1 (List.map ah iH))]⟩)] []) (fun h=>?_) (fun BK h=>?_)
 refine af<|mv rfl<|mv rfl<|lE h fun kj og h=>ne _ rfl rfl (ER (p:=kf) (q:=gM) og)<|mv rfl<|bE h fun S4 mR h=>?_
 cases kj
 refine gm rfl<|lE (F mR) fun yG wD mR=>Za _ rfl rfl (tB (p:=kf) (q:=0) wD) ?_
 obtain rfl:=O mR
 exact pF rfl<|dn<|⟨yG,h,wR []⟩
 obtain rfl:=O (V mR)
 exact ww<|ww<|pT rfl<|dn<|⟨true,h,wR []⟩
 try dsimp only
 refine ae.n ?_
 cases BK
 refine fs<|qq<|ai mixed<|ld rfl rfl (.cons rfl (.cons rfl (.nil)))<|ld rfl rfl (.cons rfl (.cons rfl (.nil))) ?_
 obtain⟨⟨SY,SZ⟩,Ff,h⟩:=bS (F h)
 refine cl (dy Ff) ⟨rfl,rfl,trivial⟩<|ld rfl rfl (.cons rfl (.cons rfl (.nil)))<|ld rfl rfl (.cons rfl (.cons rfl (.nil))) ?_
 obtain⟨⟨S0,S3⟩,zY,h⟩:=bS h
 refine cl (dy zY) ⟨rfl,rfl,trivial⟩<|bE h fun rf yN h=>cl (Fl yN) ⟨rfl,rfl,trivial⟩<|ag rfl ?_
 refine RT.done ⟨by kernel_rfl,?_⟩
 refine ae.n<|aj ?_
 obtain rfl:=O h
 exact R1 rfl
 refine cT<|sr<|mv rfl<|mv rfl<|lE (V h) fun o9 qf h=>sb _ rfl rfl qf<|bE h fun rJ yM h=>cl (Fy yM) ⟨rfl,trivial⟩<|ag rfl<|dn<|aj<|ae.r ?_
 obtain rfl:=O h
 exact R1 rfl
end Go.Proofs.YtningmnklfpfjaaGreat
namespace Go.Proofs.YtningmnklfpfjaaGreat
open Go.Fw
noncomputable def iV(x0:List Qr)(x1:List Qr):Option (List Qr):=(some (x0.length:Int)).bind fun gY=>(some (x1.length:Int)).bind fun iu=>(some (max (gY:Int) iu)).bind fun eH=>(MF (α:=Qr) 64 eH).bind fun dQ=>(ou (fun(k:Nat) (iL:(List Qr))=>(show Option ((List Qr))from(some (x0.getD k (⟨⟨false,[]⟩,⟨false,[]⟩⟩:Qr))).bind fun⟨⟨BM,BN⟩,⟨BO,BP⟩⟩=>(some (x1.getD k (⟨⟨false,[]⟩,⟨false,[]⟩⟩:Qr))).bind fun⟨⟨BQ,BR⟩,⟨BS,BT⟩⟩=>(kK ⟨⟨BM,BN⟩,⟨BO,BP⟩⟩ ⟨⟨BQ,BR⟩,⟨BS,BT⟩⟩).bind fun⟨⟨ig,gW⟩,⟨ni,nj⟩⟩=>(Av 64 iL [⟨⟨ig,gW⟩,⟨ni,nj⟩⟩]).bind fun kj=>some kj)) (max x0.length x1.length) dQ).bind fun iL=>some iL
noncomputable def gE(x0:Qr)(x1:Qr)(Dn:Qr):Option (Qr):=match x0 with|⟨⟨aA,aB⟩,⟨aK,aL⟩⟩=>match x1 with|⟨⟨bD,bC⟩,⟨eL,eM⟩⟩=>match Dn with|⟨⟨D8,D9⟩,⟨Ea,Eb⟩⟩=>(iK ⟨⟨D8,D9⟩,⟨Ea,Eb⟩⟩ ⟨⟨aA,aB⟩,⟨aK,aL⟩⟩).bind fun⟨⟨vu,vv⟩,⟨z9,Aa⟩⟩=>(jJ ⟨⟨vu,vv⟩,⟨z9,Aa⟩⟩ ⟨⟨bD,bC⟩,⟨eL,eM⟩⟩).bind fun⟨⟨Bs,Bt⟩,⟨N6,N7⟩⟩=>some ⟨⟨Bs,Bt⟩,⟨N6,N7⟩⟩
noncomputable def fO(x0:List Qr)(x1:List Qr)(Fz:Qr):Option (List Qr):=match Fz with|⟨⟨BU,BV⟩,⟨BW,BX⟩⟩=>(some (x0.length:Int)).bind fun gY=>(some (x1.length:Int)).bind fun iu=>(some (max (gY:Int) iu)).bind fun eH=>(MF (α:=Qr) 64 eH).bind fun dQ=>(ou (fun(k:Nat) (iL:(List Qr))=>(show Option ((List Qr))from(some (x0.getD k (⟨⟨false,[]⟩,⟨false,[]⟩⟩:Qr))).bind fun⟨⟨BM,BN⟩,⟨BO,BP⟩⟩=>(some (x1.getD k (⟨⟨false,[]⟩,⟨false,[]⟩⟩:Qr))).bind fun⟨⟨BQ,BR⟩,⟨BS,BT⟩⟩=>(gE ⟨⟨BM,BN⟩,⟨BO,BP⟩⟩ ⟨⟨BQ,BR⟩,⟨BS,BT⟩⟩ ⟨⟨BU,BV⟩,⟨BW,BX⟩⟩).bind fun⟨⟨ig,gW⟩,⟨ni,nj⟩⟩=>(Av 64 iL [⟨⟨ig,gW⟩,⟨ni,nj⟩⟩]).bind fun kj=>some kj)) (max x0.length x1.length) dQ).bind fun iL=>some iL
noncomputable def nk(x0:Qr)(x1:Qr)(c0:Qr):Option (Qr):=match x0 with|⟨⟨aA,aB⟩,⟨aK,aL⟩⟩=>match x1 with|⟨⟨bD,bC⟩,⟨eL,eM⟩⟩=>match c0 with|⟨⟨N8,N9⟩,⟨Oa,Ob⟩⟩=>cm (fun(BY:Bool)=>cm (fun(j5:Bool×(List Nat)×Bool×(List Nat))=>match j5 with|⟨Ec,Ed,Ee,Ef⟩=>some ⟨⟨Ec,Ed⟩,⟨Ee,Ef⟩⟩) fun K5=>(bif BY then(iK ⟨⟨aA,aB⟩,⟨aK,aL⟩⟩ ⟨⟨bD,bC⟩,⟨eL,eM⟩⟩).bind fun⟨⟨kQ,kR⟩,⟨G7,He⟩⟩=>(jJ ⟨⟨N8,N9⟩,⟨Oa,Ob⟩⟩ ⟨⟨kQ,kR⟩,⟨G7,He⟩⟩).bind fun⟨⟨oC,oD⟩,⟨vQ,vR⟩⟩=>K5 (oC,oD,vQ,vR)else K5 (N8,N9,Oa,Ob))) fun K3=>(ef ⟨⟨aA,aB⟩,⟨aK,aL⟩⟩).bind fun x6=>(some (decide ((x6:Int)≠0))).bind fun x7=>(bif x7 then(ef ⟨⟨bD,bC⟩,⟨eL,eM⟩⟩).bind fun dB=>(some (decide ((dB:Int)≠0))).bind fun gY=>some gY else some false).bind fun S5=>K3 S5
noncomputable def mJ(x0:List Qr)(x1:List Qr):Option (List Qr):=(iV x0 x1).bind fun x7=>some x7
noncomputable def kS(x0:Qr)(x1:List Qr):Option (List Qr):=match x0 with|⟨⟨aA,aB⟩,⟨aK,aL⟩⟩=>(some (x1.length:Int)).bind fun x9=>(CZ 64 x9 (⟨⟨false,[]⟩,⟨false,[]⟩⟩:Qr)).bind fun dB=>(some (x1.length:Int)).bind fun dh=>(bT (fun(s8:Int×(List Qr))=>match s8 with|⟨nm,nq⟩=>(show Option ((Int×(List Qr))⊕((List Qr)))from(some (decide ((nm:Int)<dh))).bind fun eH=>(bif eH then(cC x1 nm).bind fun⟨⟨kQ,kR⟩,⟨G7,He⟩⟩=>(iK ⟨⟨aA,aB⟩,⟨aK,aL⟩⟩ ⟨⟨kQ,kR⟩,⟨G7,He⟩⟩).bind fun⟨⟨nu,nv⟩,⟨nx,ny⟩⟩=>(pG nq nm).bind fun jw=>(stM nq jw ⟨⟨nu,nv⟩,⟨nx,ny⟩⟩).bind fun tJ=>(some (IntKind.i64.wrap (nm+1))).bind fun gM=>some (.inl (gM,tJ))else some (.inr nq)))) (0,dB)).bind fun j0=>some j0
noncomputable def ei(x0:Qr)(x1:List Qr)(x2:List Qr):Option (List Qr):=match x0 with|⟨⟨aA,aB⟩,⟨aK,aL⟩⟩=>(fO x1 x2 ⟨⟨aA,aB⟩,⟨aK,aL⟩⟩).bind fun dB=>some dB
noncomputable def jQ(x0:List Qr)(x1:List Qr):Option (Qr):=(some (x0.length:Int)).bind fun dh=>(some (x1.length:Int)).bind fun eH=>(some (min (dh:Int) eH)).bind fun dQ=>(zT x0 0 dQ).bind fun eD=>(zT x1 0 dQ).bind fun gz=>(ou (fun(k:Nat) (s7:Bool×(List Nat)×Bool×(List Nat))=>match s7 with|⟨BZ,B0,B3,B4⟩=>(show Option (Bool×(List Nat)×Bool×(List Nat))from(some (eD.getD k (⟨⟨false,[]⟩,⟨false,[]⟩⟩:Qr))).bind fun⟨⟨S6,S7⟩,⟨S8,S9⟩⟩=>(some (gz.getD k (⟨⟨false,[]⟩,⟨false,[]⟩⟩:Qr))).bind fun⟨⟨Ta,Tc⟩,⟨Td,Te⟩⟩=>(nk ⟨⟨S6,S7⟩,⟨S8,S9⟩⟩ ⟨⟨Ta,Tc⟩,⟨Td,Te⟩⟩ ⟨⟨BZ,B0⟩,⟨B3,B4⟩⟩).bind fun⟨⟨ZP,ZQ⟩,⟨ZR,ZS⟩⟩=>some (ZP,ZQ,ZR,ZS))) (max eD.length gz.length) (false,[],false,[])).bind fun e7=>match e7 with|⟨BZ,B0,B3,B4⟩=>some ⟨⟨BZ,B0⟩,⟨B3,B4⟩⟩
noncomputable def fI(x0:List Qr)(x1:List Qr):Option (Int):=(mB (fun(k:Nat) (s3:Unit)=>(show Option ((Unit)⊕(Int))from(some (x0.getD k (⟨⟨false,[]⟩,⟨false,[]⟩⟩:Qr))).bind fun⟨⟨Tf,Tg⟩,⟨Th,Ti⟩⟩=>(some (x1.getD k (⟨⟨false,[]⟩,⟨false,[]⟩⟩:Qr))).bind fun⟨⟨Tj,Tk⟩,⟨Tl,Tm⟩⟩=>(mI ⟨⟨Tf,Tg⟩,⟨Th,Ti⟩⟩ ⟨⟨Tj,Tk⟩,⟨Tl,Tm⟩⟩).bind fun dQ=>(some (decide ((dQ:Int)≠0))).bind fun gh=>(bif gh then some (.inr dQ)else some (.inl ())))) (max x0.length x1.length) ()).bind fun e3=>match e3 with|.inr v3=>some v3|.inl _=>some 0
noncomputable def oG(x0:List Qr):Option (Int):=(fI x0 []).bind fun x4=>some x4
noncomputable def cL(x0:List Qr)(x1:List Qr):Option (Bool):=(fI x0 x1).bind fun x7=>(some (decide ((x7:Int)=0))).bind fun x8=>some x8
noncomputable def lB(x0:List Qr)(x1:Int):Option (List Qr):=(some (decide ((x1:Int)<1))).bind fun x8=>(bif x8 then some []else(some (min (x1:Int) 65536)).bind fun dB=>(CZ 64 dB (⟨⟨false,[]⟩,⟨false,[]⟩⟩:Qr)).bind fun gY=>(some (x0.length:Int)).bind fun iu=>(some (gY.length:Int)).bind fun dQ=>(some (min (iu:Int) dQ)).bind fun gy=>(bT (fun(s8:Int×(List Qr))=>match s8 with|⟨Hf,Hg⟩=>(show Option ((Int×(List Qr))⊕((List Qr)))from(some (decide ((Hf:Int)<gy))).bind fun eD=>(bif eD then(cC x0 Hf).bind fun⟨⟨oH,oI⟩,⟨oJ,oK⟩⟩=>(bZ ⟨⟨oH,oI⟩,⟨oJ,oK⟩⟩).bind fun⟨⟨oL,oM⟩,⟨B5,B6⟩⟩=>(pG Hg Hf).bind fun kj=>(stM Hg kj ⟨⟨oL,oM⟩,⟨B5,B6⟩⟩).bind fun tJ=>(some (IntKind.i64.wrap (Hf+1))).bind fun nX=>some (.inl (nX,tJ))else some (.inr Hg)))) (0,gY)).bind fun B7=>some B7)
noncomputable def cy(x0:List Int):Option (List Qr):=(some (x0.length:Int)).bind fun x7=>(CZ 64 x7 (⟨⟨false,[]⟩,⟨false,[]⟩⟩:Qr)).bind fun x8=>(some (x0.length:Int)).bind fun dB=>(bT (fun(s8:Int×(List Qr))=>match s8 with|⟨uh,B8⟩=>(show Option ((Int×(List Qr))⊕((List Qr)))from(some (decide ((uh:Int)<dB))).bind fun dh=>(bif dh then(cC x0 uh).bind fun eH=>(cx eH).bind fun⟨⟨me,mg⟩,⟨B9,Ca⟩⟩=>(pG B8 uh).bind fun gV=>(stM B8 gV ⟨⟨me,mg⟩,⟨B9,Ca⟩⟩).bind fun tJ=>(some (IntKind.i64.wrap (uh+1))).bind fun gz=>some (.inl (gz,tJ))else some (.inr B8)))) (0,x8)).bind fun wI=>some wI
end Go.Proofs.YtningmnklfpfjaaGreat
namespace Go.Proofs.YtningmnklfpfjaaGreat
open Go.Fw Go.Fw.Z Go.RowKit
theorem jR(a b:List Qr):Pure Tryz.prog 133 [(slc 4 (List.map eQ a)),(slc 4 (List.map eQ b))] (gX 165 [ref [(slc 4 (List.map eQ a))],ref [(slc 4 (List.map eQ b))]]):=by
 refine ay Tryz.func133 rfl (Nat.le_of_ble_eq_true rfl) (fun cE M vs hvs=>?_)
 refine sr<|RT.vZ .none (s:=.sv _) rfl T rfl rfl<|RT.vZ .none (s:=.sv _) rfl T rfl rfl<|ag rfl<|dn<|sr<|RT.makeFunc .none (.box rfl (.box rfl (.nil))) T<|an (s:=.ek _ _) rfl<|dn<|bz (gp (i:=2) rfl [(slc 4 (List.map eQ a))] (.cons rfl .nil) .any 0 [(4,.ek 165 [.val (ref [(slc 4 (List.map eQ a))]),.box 3])] (fun _ _ _=>trivial) (qp.h (l:=[(slc 4 (List.map eQ a))])) ⟨@FT.ek _ _ _ _ _ 4 165 [.box 2,.box 3] rfl,trivial⟩) ?_
 exact bz (gp (i:=3) rfl [(slc 4 (List.map eQ b))] (.cons rfl .nil) .any 0 [(4,.ek 165 [.val (ref [(slc 4 (List.map eQ a))]),.val (ref [(slc 4 (List.map eQ b))])])] (fun _ _ _=>trivial) (qp.h (l:=[(slc 4 (List.map eQ b))])) ⟨@FT.ek _ _ _ _ _ 4 165 [.val (ref [(slc 4 (List.map eQ a))]),.box 3] rfl,trivial⟩)<|bz (EN 4 (gX 165 [ref [(slc 4 (List.map eQ a))],ref [(slc 4 (List.map eQ b))]]) (fun _ _ h=>EO h))<|aj<|⟨.inr rfl,EM (.tmp rfl (.nil)) rfl⟩
theorem jS(a b:List Qr):Iter Tryz.prog 165 [ref [(slc 4 (List.map eQ a))],ref [(slc 4 (List.map eQ b))]] (max a.length b.length) (fun k=>[.agg (eQ (a.getD k (⟨⟨false,[]⟩,⟨false,[]⟩⟩:Qr))),.agg (eQ (b.getD k (⟨⟨false,[]⟩,⟨false,[]⟩⟩:Qr)))]):=by
 refine rE Tryz.func165 rfl rfl (Nat.le_of_ble_eq_true rfl) (fun cE M O l J hJ yD hr=>?_)
 obtain⟨oq,yD⟩:=yD
 have hla:a.length≤9223372036854775807:=by cases oq with|nil=>exact yD.elim|cons _ oq=>exact Aw yD.1
 have hlb:b.length≤9223372036854775807:=by cases oq with|nil=>exact yD.elim|cons _ oq=>cases oq with|nil=>exact yD.2.elim|cons _ _=>exact Aw yD.2.1
 refine aN ?_
 refine af ?_
 refine RT.cO .none rfl rfl (tl rfl) ?_
 refine RT.len .none rfl (tl rfl) ?_
 refine RT.cO .none rfl rfl (tl rfl) ?_
 refine RT.len .none rfl (tl rfl) ?_
 refine RT.max .none (((max a.length b.length:Nat):Int)) rfl rfl (tl rfl) (by simp only[List.length_map];split<;>omega) ?_
 refine RT.mv .none rfl (tl rfl) ?_
 refine RT.done ?_
 refine ae.n ?_
 refine aq ?_
 refine xm (I:=fun x:{i:Nat//i≤max a.length b.length}=>AS.bG 37 [(0,.sv (.v (.func (.yield l) #[] #[]))),(1,.sv (ref [(slc 4 (List.map eQ a))])),(2,.sv (ref [(slc 4 (List.map eQ b))])),(11,.sv (.v (.int .i64 ((max a.length b.length:Nat):Int)))),(12,.sv (.v (.int .i64 ((x.1:Nat):Int))))] [] [] (x.1)) (μ:=fun x=>max a.length b.length-x.1) ⟨0,by omega⟩ (by(try dsimp only);exact cS id rfl rfl rfl rfl rfl ⟨.sv (by first|exact SV.aa _|exact SV.ak (by omega)|exact SV.ak (by push_cast;omega)|exact SV.ak (by dsimp only;omega)|exact SV.imp_eq (by simp)),.sv (by first|exact SV.aa _|exact SV.ak (by omega)|exact SV.ak (by push_cast;omega)|exact SV.ak (by dsimp only;omega)|exact SV.imp_eq (by simp)),.sv (by first|exact SV.aa _|exact SV.ak (by omega)|exact SV.ak (by push_cast;omega)|exact SV.ak (by dsimp only;omega)|exact SV.imp_eq (by simp)),.sv (by first|exact SV.aa _|exact SV.ak (by omega)|exact SV.ak (by push_cast;omega)|exact SV.ak (by dsimp only;omega)|exact SV.imp_eq (by simp)),.sv (by first|exact SV.aa _|exact SV.ak (by omega)|exact SV.ak (by push_cast;omega)|exact SV.ak (by dsimp only;omega)|exact SV.imp_eq (by simp)),trivial⟩ trivial trivial (fun _ _=>rfl)) ?_
 rintro⟨i,Vj⟩
 try dsimp only
 rcases Bf a b i Vj with⟨hi,yt,CX⟩|⟨hi,yt,CX⟩|⟨hi,yt,CX⟩|hi
 ·
  refine aN ?_
  refine af ?_
  refine RT.lss .none (true) rfl rfl (tl rfl) (by simp;omega) ?_
  refine RT.done ?_
  refine ae.n ?_
  refine aN ?_
  refine cj rfl ?_
  refine aE ?_
  refine ae.n ?_
  refine aN ?_
  refine aq ?_
  refine aN ?_
  refine af ?_
  refine RT.mv .none rfl (tl rfl) ?_
  refine RT.A4 .none rfl (tl rfl) ?_
  refine RT.done ?_
  refine ae.n ?_
  refine aN ?_
  refine af ?_
  refine RT.rF .none (cs:=eQ ⟨⟨false,[]⟩,⟨false,[]⟩⟩) (by exact⟨SV.aa _,imp_nil,SV.aa _,imp_nil,trivial⟩) rfl (tl rfl) rfl rfl ?_
  refine RT.rF .none (cs:=eQ ⟨⟨false,[]⟩,⟨false,[]⟩⟩) (by exact⟨SV.aa _,imp_nil,SV.aa _,imp_nil,trivial⟩) rfl (tl rfl) rfl rfl ?_
  refine RT.done ?_
  refine ae.n ?_
  refine aN ?_
  refine aN ?_
  refine af ?_
  refine RT.mv .none rfl (tl rfl) ?_
  refine RT.cO .none rfl rfl (tl rfl) ?_
  refine RT.len .none rfl (tl rfl) ?_
  refine RT.lss .none (true) rfl rfl (tl rfl) (by simp only[List.length_map];simp;omega) ?_
  refine RT.done ?_
  refine ae.n ?_
  refine cj rfl ?_
  refine af ?_
  refine RT.cO .none rfl rfl (tl rfl) ?_
  refine RT.mv .none rfl (tl rfl) ?_
  refine RT.Mt .none [.v (.bool (a.getD i (⟨⟨false,[]⟩,⟨false,[]⟩⟩:Qr)).num.neg),slc 1 ((a.getD i (⟨⟨false,[]⟩,⟨false,[]⟩⟩:Qr)).num.w.map ah),.v (.bool (a.getD i (⟨⟨false,[]⟩,⟨false,[]⟩⟩:Qr)).den.neg),slc 1 ((a.getD i (⟨⟨false,[]⟩,⟨false,[]⟩⟩:Qr)).den.w.map ah)] (Int.natCast_nonneg i) (by rw[Int.toNat_natCast,List.getElem?_map,dW yt];rfl) rfl rfl (tl rfl) ?_
  refine RT.iw .none rfl (tl rfl) (cs:=[.v (.bool (a.getD i (⟨⟨false,[]⟩,⟨false,[]⟩⟩:Qr)).num.neg),slc 1 ((a.getD i (⟨⟨false,[]⟩,⟨false,[]⟩⟩:Qr)).num.w.map ah),.v (.bool (a.getD i (⟨⟨false,[]⟩,⟨false,[]⟩⟩:Qr)).den.neg),slc 1 ((a.getD i (⟨⟨false,[]⟩,⟨false,[]⟩⟩:Qr)).den.w.map ah)]) rfl rfl ?_
  refine RT.store .none rfl rfl rfl rfl rfl ?_
  refine RT.done ?_
  refine ae.n ?_
  refine aN ?_
  refine aN ?_
  refine af ?_
  refine RT.mv .none rfl (tl rfl) ?_
  refine RT.cO .none rfl rfl (tl rfl) ?_
  refine RT.len .none rfl (tl rfl) ?_
  refine RT.lss .none (true) rfl rfl (tl rfl) (by simp only[List.length_map];simp;omega) ?_
  refine RT.done ?_
  refine ae.n ?_
  refine cj rfl ?_
  refine af ?_
  refine RT.cO .none rfl rfl (tl rfl) ?_
  refine RT.mv .none rfl (tl rfl) ?_
  refine RT.Mt .none [.v (.bool (b.getD i (⟨⟨false,[]⟩,⟨false,[]⟩⟩:Qr)).num.neg),slc 1 ((b.getD i (⟨⟨false,[]⟩,⟨false,[]⟩⟩:Qr)).num.w.map ah),.v (.bool (b.getD i (⟨⟨false,[]⟩,⟨false,[]⟩⟩:Qr)).den.neg),slc 1 ((b.getD i (⟨⟨false,[]⟩,⟨false,[]⟩⟩:Qr)).den.w.map ah)] (Int.natCast_nonneg i) (by rw[Int.toNat_natCast,List.getElem?_map,dW CX];rfl) rfl rfl (tl rfl) ?_
  refine RT.iw .none rfl (tl rfl) (cs:=[.v (.bool (b.getD i (⟨⟨false,[]⟩,⟨false,[]⟩⟩:Qr)).num.neg),slc 1 ((b.getD i (⟨⟨false,[]⟩,⟨false,[]⟩⟩:Qr)).num.w.map ah),.v (.bool (b.getD i (⟨⟨false,[]⟩,⟨false,[]⟩⟩:Qr)).den.neg),slc 1 ((b.getD i (⟨⟨false,[]⟩,⟨false,[]⟩⟩:Qr)).den.w.map ah)]) rfl rfl ?_
  refine RT.store .none rfl rfl rfl rfl rfl ?_
  refine RT.done ?_
  refine ae.n ?_
  refine aN ?_
  refine af ?_
  refine RT.mv .none rfl (tl rfl) ?_
  refine RT.load .none rfl rfl (.cons rfl (.cons rfl (.cons rfl (.cons rfl (.nil))))) rfl (tl rfl) ?_
  refine RT.load .none rfl rfl (.cons rfl (.cons rfl (.cons rfl (.cons rfl (.nil))))) rfl (tl rfl) ?_
  refine RT.yield .none hr rfl (fun _ h=>h) rfl (i) rfl rfl hi (by exact⟨rfl,rfl,trivial⟩) (tl rfl) (fun yb=>?_)
  cases yb
  ·
   refine RT.not .none rfl (tl rfl) true rfl ?_
   refine RT.done ?_
   refine ae.n ?_
   refine cj rfl ?_
   refine aj ?_
   refine aG.r ?_
   refine ae.r ?_
   refine ae.r ?_
   refine aG.r ?_
   exact⟨.inr rfl,(fun h=>by cases h)⟩
  ·
   refine RT.not .none rfl (tl rfl) false rfl ?_
   refine RT.done ?_
   refine ae.n ?_
   refine dJ rfl ?_
   refine aE ?_
   refine aG.n ?_
   refine ae.n ?_
   refine af ?_
   refine RT.add .none (((i:Nat):Int)+1) rfl rfl (tl rfl) (k7 (by omega)) ?_
   refine RT.mv .none rfl (tl rfl) ?_
   refine RT.done ?_
   refine ae.n ?_
   refine⟨⟨i+1,by omega⟩,(by dsimp only;omega),?_⟩
   try dsimp only
   exact cS id rfl rfl rfl rfl rfl ⟨.sv (by first|exact SV.aa _|exact SV.ak (by omega)|exact SV.ak (by push_cast;omega)|exact SV.ak (by dsimp only;omega)|exact SV.imp_eq (by simp)),.sv (by first|exact SV.aa _|exact SV.ak (by omega)|exact SV.ak (by push_cast;omega)|exact SV.ak (by dsimp only;omega)|exact SV.imp_eq (by simp)),.sv (by first|exact SV.aa _|exact SV.ak (by omega)|exact SV.ak (by push_cast;omega)|exact SV.ak (by dsimp only;omega)|exact SV.imp_eq (by simp)),.sv (by first|exact SV.aa _|exact SV.ak (by omega)|exact SV.ak (by push_cast;omega)|exact SV.ak (by dsimp only;omega)|exact SV.imp_eq (by simp)),.sv (by first|exact SV.aa _|exact SV.ak (by omega)|exact SV.ak (by push_cast;omega)|exact SV.ak (by dsimp only;omega)|exact SV.imp_eq (by simp)),trivial⟩ trivial trivial (fun _ _=>rfl)
 ·
  refine aN ?_
  refine af ?_
  refine RT.lss .none (true) rfl rfl (tl rfl) (by simp;omega) ?_
  refine RT.done ?_
  refine ae.n ?_
  refine aN ?_
  refine cj rfl ?_
  refine aE ?_
  refine ae.n ?_
  refine aN ?_
  refine aq ?_
  refine aN ?_
  refine af ?_
  refine RT.mv .none rfl (tl rfl) ?_
  refine RT.A4 .none rfl (tl rfl) ?_
  refine RT.done ?_
  refine ae.n ?_
  refine aN ?_
  refine af ?_
  refine RT.rF .none (cs:=eQ ⟨⟨false,[]⟩,⟨false,[]⟩⟩) (by exact⟨SV.aa _,imp_nil,SV.aa _,imp_nil,trivial⟩) rfl (tl rfl) rfl rfl ?_
  refine RT.rF .none (cs:=eQ ⟨⟨false,[]⟩,⟨false,[]⟩⟩) (by exact⟨SV.aa _,imp_nil,SV.aa _,imp_nil,trivial⟩) rfl (tl rfl) rfl rfl ?_
  refine RT.done ?_
  refine ae.n ?_
  refine aN ?_
  refine aN ?_
  refine af ?_
  refine RT.mv .none rfl (tl rfl) ?_
  refine RT.cO .none rfl rfl (tl rfl) ?_
  refine RT.len .none rfl (tl rfl) ?_
  refine RT.lss .none (true) rfl rfl (tl rfl) (by simp only[List.length_map];simp;omega) ?_
  refine RT.done ?_
  refine ae.n ?_
  refine cj rfl ?_
  refine af ?_
  refine RT.cO .none rfl rfl (tl rfl) ?_
  refine RT.mv .none rfl (tl rfl) ?_
  refine RT.Mt .none [.v (.bool (a.getD i (⟨⟨false,[]⟩,⟨false,[]⟩⟩:Qr)).num.neg),slc 1 ((a.getD i (⟨⟨false,[]⟩,⟨false,[]⟩⟩:Qr)).num.w.map ah),.v (.bool (a.getD i (⟨⟨false,[]⟩,⟨false,[]⟩⟩:Qr)).den.neg),slc 1 ((a.getD i (⟨⟨false,[]⟩,⟨false,[]⟩⟩:Qr)).den.w.map ah)] (Int.natCast_nonneg i) (by rw[Int.toNat_natCast,List.getElem?_map,dW yt];rfl) rfl rfl (tl rfl) ?_
  refine RT.iw .none rfl (tl rfl) (cs:=[.v (.bool (a.getD i (⟨⟨false,[]⟩,⟨false,[]⟩⟩:Qr)).num.neg),slc 1 ((a.getD i (⟨⟨false,[]⟩,⟨false,[]⟩⟩:Qr)).num.w.map ah),.v (.bool (a.getD i (⟨⟨false,[]⟩,⟨false,[]⟩⟩:Qr)).den.neg),slc 1 ((a.getD i (⟨⟨false,[]⟩,⟨false,[]⟩⟩:Qr)).den.w.map ah)]) rfl rfl ?_
  refine RT.store .none rfl rfl rfl rfl rfl ?_
  refine RT.done ?_
  refine ae.n ?_
  refine aN ?_
  refine aN ?_
  refine af ?_
  refine RT.mv .none rfl (tl rfl) ?_
  refine RT.cO .none rfl rfl (tl rfl) ?_
  refine RT.len .none rfl (tl rfl) ?_
  refine RT.lss .none (false) rfl rfl (tl rfl) (by simp only[List.length_map];simp;omega) ?_
  refine RT.done ?_
  refine ae.n ?_
  refine dJ rfl ?_
  refine aE ?_
  refine ae.n ?_
  refine aN ?_
  refine af ?_
  refine RT.mv .none rfl (tl rfl) ?_
  refine RT.load .none rfl rfl (.cons rfl (.cons rfl (.cons rfl (.cons rfl (.nil))))) rfl (tl rfl) ?_
  refine RT.load .none rfl rfl (.cons rfl (.cons rfl (.cons rfl (.cons rfl (.nil))))) rfl (tl rfl) ?_
  refine RT.yield .none hr rfl (fun _ h=>h) rfl (i) rfl rfl hi (by exact⟨rfl,(by show AV.sv _=AV.sv _;rw[iy CX]),trivial⟩) (tl rfl) (fun yb=>?_)
  cases yb
  ·
   refine RT.not .none rfl (tl rfl) true rfl ?_
   refine RT.done ?_
   refine ae.n ?_
   refine cj rfl ?_
   refine aj ?_
   refine aG.r ?_
   refine ae.r ?_
   refine ae.r ?_
   refine aG.r ?_
   exact⟨.inr rfl,(fun h=>by cases h)⟩
  ·
   refine RT.not .none rfl (tl rfl) false rfl ?_
   refine RT.done ?_
   refine ae.n ?_
   refine dJ rfl ?_
   refine aE ?_
   refine aG.n ?_
   refine ae.n ?_
   refine af ?_
   refine RT.add .none (((i:Nat):Int)+1) rfl rfl (tl rfl) (k7 (by omega)) ?_
   refine RT.mv .none rfl (tl rfl) ?_
   refine RT.done ?_
   refine ae.n ?_
   refine⟨⟨i+1,by omega⟩,(by dsimp only;omega),?_⟩
   try dsimp only
   exact cS id rfl rfl rfl rfl rfl ⟨.sv (by first|exact SV.aa _|exact SV.ak (by omega)|exact SV.ak (by push_cast;omega)|exact SV.ak (by dsimp only;omega)|exact SV.imp_eq (by simp)),.sv (by first|exact SV.aa _|exact SV.ak (by omega)|exact SV.ak (by push_cast;omega)|exact SV.ak (by dsimp only;omega)|exact SV.imp_eq (by simp)),.sv (by first|exact SV.aa _|exact SV.ak (by omega)|exact SV.ak (by push_cast;omega)|exact SV.ak (by dsimp only;omega)|exact SV.imp_eq (by simp)),.sv (by first|exact SV.aa _|exact SV.ak (by omega)|exact SV.ak (by push_cast;omega)|exact SV.ak (by dsimp only;omega)|exact SV.imp_eq (by simp)),.sv (by first|exact SV.aa _|exact SV.ak (by omega)|exact SV.ak (by push_cast;omega)|exact SV.ak (by dsimp only;omega)|exact SV.imp_eq (by simp)),trivial⟩ trivial trivial (fun _ _=>rfl)
 ·
  refine aN ?_
  refine af ?_
  refine RT.lss .none (true) rfl rfl (tl rfl) (by simp;omega) ?_
  refine RT.done ?_
  refine ae.n ?_
  refine aN ?_
  refine cj rfl ?_
  refine aE ?_
  refine ae.n ?_
  refine aN ?_
  refine aq ?_
  refine aN ?_
  refine af ?_
  refine RT.mv .none rfl (tl rfl) ?_
  refine RT.A4 .none rfl (tl rfl) ?_
  refine RT.done ?_
  refine ae.n ?_
  refine aN ?_
  refine af ?_
  refine RT.rF .none (cs:=eQ ⟨⟨false,[]⟩,⟨false,[]⟩⟩) (by exact⟨SV.aa _,imp_nil,SV.aa _,imp_nil,trivial⟩) rfl (tl rfl) rfl rfl ?_
  refine RT.rF .none (cs:=eQ ⟨⟨false,[]⟩,⟨false,[]⟩⟩) (by exact⟨SV.aa _,imp_nil,SV.aa _,imp_nil,trivial⟩) rfl (tl rfl) rfl rfl ?_
  refine RT.done ?_
  refine ae.n ?_
  refine aN ?_
  refine aN ?_
  refine af ?_
  refine RT.mv .none rfl (tl rfl) ?_
  refine RT.cO .none rfl rfl (tl rfl) ?_
  refine RT.len .none rfl (tl rfl) ?_
  refine RT.lss .none (false) rfl rfl (tl rfl) (by simp only[List.length_map];simp;omega) ?_
  refine RT.done ?_
  refine ae.n ?_
  refine dJ rfl ?_
  refine aE ?_
  refine ae.n ?_
  refine aN ?_
  refine aN ?_
  refine af ?_
  refine RT.mv .none rfl (tl rfl) ?_
  refine RT.cO .none rfl rfl (tl rfl) ?_
  refine RT.len .none rfl (tl rfl) ?_
  refine RT.lss .none (true) rfl rfl (tl rfl) (by simp only[List.length_map];simp;omega) ?_
  refine RT.done ?_
  refine ae.n ?_
  refine cj rfl ?_
  refine af ?_
  refine RT.cO .none rfl rfl (tl rfl) ?_
  refine RT.mv .none rfl (tl rfl) ?_
  refine RT.Mt .none [.v (.bool (b.getD i (⟨⟨false,[]⟩,⟨false,[]⟩⟩:Qr)).num.neg),slc 1 ((b.getD i (⟨⟨false,[]⟩,⟨false,[]⟩⟩:Qr)).num.w.map ah),.v (.bool (b.getD i (⟨⟨false,[]⟩,⟨false,[]⟩⟩:Qr)).den.neg),slc 1 ((b.getD i (⟨⟨false,[]⟩,⟨false,[]⟩⟩:Qr)).den.w.map ah)] (Int.natCast_nonneg i) (by rw[Int.toNat_natCast,List.getElem?_map,dW CX];rfl) rfl rfl (tl rfl) ?_
  refine RT.iw .none rfl (tl rfl) (cs:=[.v (.bool (b.getD i (⟨⟨false,[]⟩,⟨false,[]⟩⟩:Qr)).num.neg),slc 1 ((b.getD i (⟨⟨false,[]⟩,⟨false,[]⟩⟩:Qr)).num.w.map ah),.v (.bool (b.getD i (⟨⟨false,[]⟩,⟨false,[]⟩⟩:Qr)).den.neg),slc 1 ((b.getD i (⟨⟨false,[]⟩,⟨false,[]⟩⟩:Qr)).den.w.map ah)]) rfl rfl ?_
  refine RT.store .none rfl rfl rfl rfl rfl ?_
  refine RT.done ?_
  refine ae.n ?_
  refine aN ?_
  refine af ?_
  refine RT.mv .none rfl (tl rfl) ?_
  refine RT.load .none rfl rfl (.cons rfl (.cons rfl (.cons rfl (.cons rfl (.nil))))) rfl (tl rfl) ?_
  refine RT.load .none rfl rfl (.cons rfl (.cons rfl (.cons rfl (.cons rfl (.nil))))) rfl (tl rfl) ?_
  refine RT.yield .none hr rfl (fun _ h=>h) rfl (i) rfl rfl hi (by exact⟨(by show AV.sv _=AV.sv _;rw[iy yt]),rfl,trivial⟩) (tl rfl) (fun yb=>?_)
  cases yb
  ·
   refine RT.not .none rfl (tl rfl) true rfl ?_
   refine RT.done ?_
   refine ae.n ?_
   refine cj rfl ?_
   refine aj ?_
   refine aG.r ?_
   refine ae.r ?_
   refine ae.r ?_
   refine aG.r ?_
   exact⟨.inr rfl,(fun h=>by cases h)⟩
  ·
   refine RT.not .none rfl (tl rfl) false rfl ?_
   refine RT.done ?_
   refine ae.n ?_
   refine dJ rfl ?_
   refine aE ?_
   refine aG.n ?_
   refine ae.n ?_
   refine af ?_
   refine RT.add .none (((i:Nat):Int)+1) rfl rfl (tl rfl) (k7 (by omega)) ?_
   refine RT.mv .none rfl (tl rfl) ?_
   refine RT.done ?_
   refine ae.n ?_
   refine⟨⟨i+1,by omega⟩,(by dsimp only;omega),?_⟩
   try dsimp only
   exact cS id rfl rfl rfl rfl rfl ⟨.sv (by first|exact SV.aa _|exact SV.ak (by omega)|exact SV.ak (by push_cast;omega)|exact SV.ak (by dsimp only;omega)|exact SV.imp_eq (by simp)),.sv (by first|exact SV.aa _|exact SV.ak (by omega)|exact SV.ak (by push_cast;omega)|exact SV.ak (by dsimp only;omega)|exact SV.imp_eq (by simp)),.sv (by first|exact SV.aa _|exact SV.ak (by omega)|exact SV.ak (by push_cast;omega)|exact SV.ak (by dsimp only;omega)|exact SV.imp_eq (by simp)),.sv (by first|exact SV.aa _|exact SV.ak (by omega)|exact SV.ak (by push_cast;omega)|exact SV.ak (by dsimp only;omega)|exact SV.imp_eq (by simp)),.sv (by first|exact SV.aa _|exact SV.ak (by omega)|exact SV.ak (by push_cast;omega)|exact SV.ak (by dsimp only;omega)|exact SV.imp_eq (by simp)),trivial⟩ trivial trivial (fun _ _=>rfl)
 ·
  subst hi
  refine aN ?_
  refine af ?_
  refine RT.lss .none (false) rfl rfl (tl rfl) (by simp) ?_
  refine RT.done ?_
  refine ae.n ?_
  refine aN ?_
  refine dJ rfl ?_
  refine aZ ?_
  refine ae.x ?_
  refine ae.x ?_
  refine aG.x ?_
  exact⟨.inl rfl,(fun _=>rfl)⟩
end Go.Proofs.YtningmnklfpfjaaGreat
namespace Go.Proofs.YtningmnklfpfjaaGreat
open Go.Fw Go.Fw.Z Go.RowKit
theorem Cb{x0:List Qr}{x1:List Qr}{r:List Qr}(h:iV x0 x1=some r):Pure Tryz.prog 95 [slc 4 (List.map eQ x0),slc 4 (List.map eQ x1),.v (.func (.func 94) #[] #[])] (slc 4 (List.map eQ r)):=by
 refine ay Tryz.func95 rfl (Nat.le_of_ble_eq_true rfl) (fun cE M vs hvs=>?_)
 unfold iV at h
 refine sr<|RT.vZ .none (s:=.sv _) rfl T rfl rfl<|aI rfl (imp_nil (n:=4) (e:=eQ))<|dn<|sr<|mv rfl<|lE h fun gY mG h=>ln rfl mG<|mv rfl<|lE h fun iu gN h=>ln rfl gN<|lE h fun eH jc h=>RT.max .none _ rfl rfl T (GG (p:=gY) (q:=iu) jc)<|bE h fun dQ fN h=>RT.vK (e:=eQ) .none rfl rfl T rfl T fN<|RT.alloc .none T rfl rfl<|RT.iC (cells:=[_]) .none rfl rfl rfl rfl T rfl<|dn<|qq<|sr<|mv rfl ?_
 refine mv rfl<|cl (jR x0 x1) ⟨rfl,rfl,trivial⟩<|dn<|aq<|bE h fun iL Ww Wx=>?_
 obtain⟨Od,Wy,Wz,WA⟩:=iU Ww
 refine fz (jS x0 x1) (fun _ _ _ _ _=>trivial) rfl (fun k=>AS.bG 29 [(5,.ptr 5 0),(7,.ptr 7 0),(18,.sv (gX 165 [ref [slc 4 (List.map eQ x0)],ref [slc 4 (List.map eQ x1)]]))] [(7,⟨23,[.row 302]⟩),(5,⟨106,[.sv (.v (.func (.func 94) #[] #[]))]⟩)] [(302,TR 43 4 eQ (Od k))]) [7,5] rfl (fun _=>⟨rfl,rfl⟩) (nH rfl) (fun _=>rfl) (nI rfl) (by(try dsimp only);rw[Wy];(try dsimp only);exact cS (fun i=>bif Nat.beq i 302 then 15 else i) rfl rfl rfl rfl rfl ⟨.ptr,.ptr,.sv (SV.aa _),trivial⟩ ⟨⟨_,rfl,⟨.row rfl,trivial⟩⟩,⟨_,rfl,⟨.sv (SV.aa _),trivial⟩⟩,trivial⟩ ⟨⟨_,rfl,bV.refl _⟩,trivial⟩ (fun i hi=>by rw[bQ (show i≠302 by omega)];rfl)) (fun k hk D hD=>?_) ?_
 have h:=Wz k hk
 obtain⟨iL,GS⟩:∃q,Od k=q:=⟨_,rfl⟩
 rw[GS]at h⊢
 dsimp only[AS.JH,ot]
 try dsimp only at h
 obtain⟨⟨⟨BM,BN⟩,⟨BO,BP⟩⟩,I4,h⟩:=bS h
 rw[Option.some.inj I4]
 obtain⟨⟨⟨BQ,BR⟩,⟨BS,BT⟩⟩,Bz,h⟩:=bS h
 rw[Option.some.inj Bz]
 refine sr<|al (cs:=[.v (.bool false),slc 1 (List.map ah []),.v (.bool false),slc 1 (List.map ah [])]) (by exact⟨SV.aa _,imp_nil,SV.aa _,imp_nil,trivial⟩) rfl<|so rfl rfl rfl<|dn<|af<|al (cs:=[.v (.bool false),slc 1 (List.map ah []),.v (.bool false),slc 1 (List.map ah [])]) (by exact⟨SV.aa _,imp_nil,SV.aa _,imp_nil,trivial⟩) rfl<|so rfl rfl rfl<|RT.done ?_
 refine ae.n ⟨rfl,?_⟩
 dsimp only[AS.xw]
 refine aq<|ai mixed<|RT.eA .none (s:=.row _) rfl rfl rfl T<|lV rfl rfl rfl<|ld rfl rfl (.cons rfl (.cons rfl (.cons rfl (.cons rfl (.nil)))))<|ld rfl rfl (.cons rfl (.cons rfl (.cons rfl (.cons rfl (.nil))))) ?_
 obtain⟨⟨⟨ig,gW⟩,⟨ni,nj⟩⟩,qC,h⟩:=bS h
 refine cl (G3 qC) ⟨rfl,rfl,trivial⟩<|bl (l:=[⟨⟨ig,gW⟩,⟨ni,nj⟩⟩]) (e:=eQ) (.agg rfl (.nil)) rfl rfl rfl rfl rfl rfl<|bE h fun kj og h=>aR (k:=[⟨⟨ig,gW⟩,⟨ni,nj⟩⟩]) (e:=eQ) rfl rfl rfl og<|RT.iC (cells:=[_]) .none rfl rfl rfl rfl T rfl ?_
 refine RT.done ⟨by kernel_rfl,?_⟩
 refine aG.n ?_
 replace h:=Option.some.inj h
 refine⟨trivial,rfl,rfl,?_⟩
 try dsimp only
 rw[←h]
 try dsimp only
 exact cS (fun i=>bif Nat.beq i 302 then 27 else i) rfl rfl rfl rfl rfl ⟨.ptr,.ptr,.sv (SV.aa _),trivial⟩ ⟨⟨_,rfl,⟨.row rfl,trivial⟩⟩,⟨_,rfl,⟨.sv (SV.aa _),trivial⟩⟩,trivial⟩ ⟨⟨_,rfl,bV.refl _⟩,trivial⟩ (fun i hi=>by rw[bQ (show i≠302 by omega)];rfl)
 rw[WA]
 try dsimp only
 refine aG.n<|ae.n<|sr<|RT.eA .none (s:=.row _) rfl rfl rfl T<|an (s:=.row _) rfl<|dn<|bz (dK (i:=302) (E1:=43) (n:=4) (e:=eQ) (l:=iL) rfl)<|aj ?_
 obtain rfl:=O Wx
 exact R1 rfl
theorem wJ{x0:Qr}{x1:Qr}{Dn:Qr}{r:Qr}(h:gE x0 x1 Dn=some r):Pure Tryz.prog 141 [.agg (eQ x0),.agg (eQ x1),ref (eQ Dn)] (.agg (eQ r)):=by
 obtain⟨⟨aA,aB⟩,⟨aK,aL⟩⟩:=x0
 obtain⟨⟨bD,bC⟩,⟨eL,eM⟩⟩:=x1
 obtain⟨⟨D8,D9⟩,⟨Ea,Eb⟩⟩:=Dn
 refine ay Tryz.func141 rfl (Nat.le_of_ble_eq_true rfl) (fun cE M vs hvs=>?_)
 unfold gE at h
 refine sr<|bx rfl<|bx rfl<|al (cs:=[.v (.bool false),slc 1 (List.map ah []),.v (.bool false),slc 1 (List.map ah [])]) (by exact⟨SV.aa _,imp_nil,SV.aa _,imp_nil,trivial⟩) rfl<|dn<|qq<|ai mixed<|RT.iw (cs:=[_,_,_,_]) .none rfl T rfl rfl<|ld rfl rfl (.cons rfl (.cons rfl (.cons rfl (.cons rfl (.nil))))) ?_
 obtain⟨⟨⟨vu,vv⟩,⟨z9,Aa⟩⟩,h8,h⟩:=bS h
 refine cl (ug h8) ⟨rfl,rfl,trivial⟩<|ld rfl rfl (.cons rfl (.cons rfl (.cons rfl (.cons rfl (.nil))))) ?_
 obtain⟨⟨⟨Bs,Bt⟩,⟨N6,N7⟩⟩,fM,h⟩:=bS h
 refine cl (zF fM) ⟨rfl,rfl,trivial⟩<|so rfl rfl rfl ?_
 refine RT.done ⟨by kernel_rfl,?_⟩
 refine ae.n<|aj ?_
 obtain rfl:=O h
 exact RZ (.agg rfl rfl (.cons rfl (.cons rfl (.cons rfl (.cons rfl (.nil))))) rfl (.nil))
theorem xH{x0:List Qr}{x1:List Qr}{Fz:Qr}{r:List Qr}(h:fO x0 x1 Fz=some r):Pure Tryz.prog 95 [slc 4 (List.map eQ x0),slc 4 (List.map eQ x1),gX 141 [ref (eQ Fz)]] (slc 4 (List.map eQ r)):=by
 obtain⟨⟨BU,BV⟩,⟨BW,BX⟩⟩:=Fz
 refine ay Tryz.func95 rfl (Nat.le_of_ble_eq_true rfl) (fun cE M vs hvs=>?_)
 unfold fO at h
 refine sr<|RT.vZ .none (s:=.sv _) rfl T rfl rfl<|aI rfl (imp_nil (n:=4) (e:=eQ))<|dn<|sr<|mv rfl<|lE h fun gY mG h=>ln rfl mG<|mv rfl<|lE h fun iu gN h=>ln rfl gN<|lE h fun eH jc h=>RT.max .none _ rfl rfl T (GG (p:=gY) (q:=iu) jc)<|bE h fun dQ fN h=>RT.vK (e:=eQ) .none rfl rfl T rfl T fN<|RT.alloc .none T rfl rfl<|RT.iC (cells:=[_]) .none rfl rfl rfl rfl T rfl<|dn<|qq<|sr<|mv rfl ?_
 refine mv rfl<|cl (jR x0 x1) ⟨rfl,rfl,trivial⟩<|dn<|aq<|bE h fun iL Ww Wx=>?_
 obtain⟨Od,Wy,Wz,WA⟩:=iU Ww
 refine fz (jS x0 x1) (fun _ _ _ _ _=>trivial) rfl (fun k=>AS.bG 29 [(5,.ptr 5 0),(7,.ptr 7 0),(18,.sv (gX 165 [ref [slc 4 (List.map eQ x0)],ref [slc 4 (List.map eQ x1)]]))] [(7,⟨23,[.row 302]⟩),(5,⟨106,[.sv (gX 141 [ref [.v (.bool BU),slc 1 (List.map ah BV),.v (.bool BW),slc 1 (List.map ah BX)]])]⟩)] [(302,TR 43 4 eQ (Od k))]) [7,5] rfl (fun _=>⟨rfl,rfl⟩) (nH rfl) (fun _=>rfl) (nI rfl) (by(try dsimp only);rw[Wy];(try dsimp only);exact cS (fun i=>bif Nat.beq i 302 then 15 else i) rfl rfl rfl rfl rfl ⟨.ptr,.ptr,.sv (SV.aa _),trivial⟩ ⟨⟨_,rfl,⟨.row rfl,trivial⟩⟩,⟨_,rfl,⟨.sv (SV.aa _),trivial⟩⟩,trivial⟩ ⟨⟨_,rfl,bV.refl _⟩,trivial⟩ (fun i hi=>by rw[bQ (show i≠302 by omega)];rfl)) (fun k hk D hD=>?_) ?_
 have h:=Wz k hk
 obtain⟨iL,GS⟩:∃q,Od k=q:=⟨_,rfl⟩
 rw[GS]at h⊢
 dsimp only[AS.JH,ot]
 try dsimp only at h
 obtain⟨⟨⟨BM,BN⟩,⟨BO,BP⟩⟩,I4,h⟩:=bS h
 rw[Option.some.inj I4]
 obtain⟨⟨⟨BQ,BR⟩,⟨BS,BT⟩⟩,Bz,h⟩:=bS h
 rw[Option.some.inj Bz]
 refine sr<|al (cs:=[.v (.bool false),slc 1 (List.map ah []),.v (.bool false),slc 1 (List.map ah [])]) (by exact⟨SV.aa _,imp_nil,SV.aa _,imp_nil,trivial⟩) rfl<|so rfl rfl rfl<|dn<|af<|al (cs:=[.v (.bool false),slc 1 (List.map ah []),.v (.bool false),slc 1 (List.map ah [])]) (by exact⟨SV.aa _,imp_nil,SV.aa _,imp_nil,trivial⟩) rfl<|so rfl rfl rfl<|RT.done ?_
 refine ae.n ⟨rfl,?_⟩
 dsimp only[AS.xw]
 refine aq<|ai mixed<|RT.eA .none (s:=.row _) rfl rfl rfl T<|lV rfl rfl rfl<|ld rfl rfl (.cons rfl (.cons rfl (.cons rfl (.cons rfl (.nil)))))<|ld rfl rfl (.cons rfl (.cons rfl (.cons rfl (.cons rfl (.nil))))) ?_
 obtain⟨⟨⟨ig,gW⟩,⟨ni,nj⟩⟩,qC,h⟩:=bS h
 refine RT.SK (args:=[_,_]) (caps:=[_]) .none (wJ qC) rfl ⟨rfl,rfl,trivial⟩ T<|bl (l:=[⟨⟨ig,gW⟩,⟨ni,nj⟩⟩]) (e:=eQ) (.agg rfl (.nil)) rfl rfl rfl rfl rfl rfl<|bE h fun kj og h=>aR (k:=[⟨⟨ig,gW⟩,⟨ni,nj⟩⟩]) (e:=eQ) rfl rfl rfl og<|RT.iC (cells:=[_]) .none rfl rfl rfl rfl T rfl ?_
 refine RT.done ⟨by kernel_rfl,?_⟩
 refine aG.n ?_
 replace h:=Option.some.inj h
 refine⟨trivial,rfl,rfl,?_⟩
 try dsimp only
 rw[←h]
 try dsimp only
 exact cS (fun i=>bif Nat.beq i 302 then 27 else i) rfl rfl rfl rfl rfl ⟨.ptr,.ptr,.sv (SV.aa _),trivial⟩ ⟨⟨_,rfl,⟨.row rfl,trivial⟩⟩,⟨_,rfl,⟨.sv (SV.aa _),trivial⟩⟩,trivial⟩ ⟨⟨_,rfl,bV.refl _⟩,trivial⟩ (fun i hi=>by rw[bQ (show i≠302 by omega)];rfl)
 rw[WA]
 try dsimp only
 refine aG.n<|ae.n<|sr<|RT.eA .none (s:=.row _) rfl rfl rfl T<|an (s:=.row _) rfl<|dn<|bz (dK (i:=302) (E1:=43) (n:=4) (e:=eQ) (l:=iL) rfl)<|aj ?_
 obtain rfl:=O Wx
 exact R1 rfl
theorem FA{x0:Qr}{x1:Qr}{c0:Qr}{r:Qr}(h:nk x0 x1 c0=some r):MA Tryz.prog 131 [.agg (eQ x0),.agg (eQ x1)] 43 (eQ c0) (.any) (eQ r):=by
 obtain⟨⟨aA,aB⟩,⟨aK,aL⟩⟩:=x0
 obtain⟨⟨bD,bC⟩,⟨eL,eM⟩⟩:=x1
 obtain⟨⟨N8,N9⟩,⟨Oa,Ob⟩⟩:=c0
 refine A9 Tryz.func131 rfl (Nat.le_of_ble_eq_true rfl) (fun cE M β=>?_)
 unfold nk at h
 refine sr<|bx rfl<|bx rfl<|dn<|qq ?_
 refine aF h (fun j3=>AS.bG 18 [(2,.ptr 1000 0),(3,.ptr 3 0),(4,.ptr 4 0),(12,.sv (.v (.bool j3)))] [(4,⟨43,[.sv (.v (.bool bD)),.sv (slc 1 (List.map ah bC)),.sv (.v (.bool eL)),.sv (slc 1 (List.map ah eM))]⟩),(3,⟨43,[.sv (.v (.bool aA)),.sv (slc 1 (List.map ah aB)),.sv (.v (.bool aK)),.sv (slc 1 (List.map ah aL))]⟩),(1000,⟨43,[.sv (.v (.bool N8)),.sv (slc 1 (List.map ah N9)),.sv (.v (.bool Oa)),.sv (slc 1 (List.map ah Ob))]⟩)] []) (fun h=>?_) (fun BY h=>?_)
 refine af<|ld rfl rfl (.cons rfl (.cons rfl (.cons rfl (.cons rfl (.nil)))))<|bE h fun x6 h6 h=>cl (fB h6) ⟨rfl,trivial⟩<|lE h fun x7 h7 h=>ne _ rfl rfl (ER (p:=x6) (q:=0) h7)<|mv rfl<|bE h fun S5 vP h=>?_
 cases x7
 obtain rfl:=O (F vP)
 exact ww<|ww<|ww<|pF rfl<|dn<|⟨false,h,wR []⟩
 refine gl rfl rfl (.cons rfl (.cons rfl (.cons rfl (.cons rfl (.nil)))))<|bE (V vP) fun dB fM vP=>gc (fB fM) ⟨rfl,trivial⟩<|lE vP fun gY mG vP=>gq _ rfl rfl (ER (p:=dB) (q:=0) mG) ?_
 obtain rfl:=O vP
 exact pT rfl<|dn<|⟨gY,h,wR []⟩
 try dsimp only
 refine ae.n ?_
 refine aF h (fun j5=>AS.bG 18 [(2,.ptr 1000 0)] [(1000,⟨43,[.sv (.v (.bool j5.1)),.sv (slc 1 (List.map ah j5.2.1)),.sv (.v (.bool j5.2.2.1)),.sv (slc 1 (List.map ah j5.2.2.2))]⟩)] []) (fun h=>?_) (fun j5 h=>?_)
 cases BY
 exact fs<|⟨(N8,N9,Oa,Ob),(F h),wR []⟩
 refine cT<|ai mixed<|ld rfl rfl (.cons rfl (.cons rfl (.cons rfl (.cons rfl (.nil)))))<|ld rfl rfl (.cons rfl (.cons rfl (.cons rfl (.cons rfl (.nil)))))<|ld rfl rfl (.cons rfl (.cons rfl (.cons rfl (.cons rfl (.nil))))) ?_
 obtain⟨⟨⟨kQ,kR⟩,⟨G7,He⟩⟩,jA,h⟩:=bS (V h)
 refine cl (ug jA) ⟨rfl,rfl,trivial⟩ ?_
 obtain⟨⟨⟨oC,oD⟩,⟨vQ,vR⟩⟩,kJ,h⟩:=bS h
 refine cl (zF kJ) ⟨rfl,rfl,trivial⟩<|so rfl rfl rfl ?_
 refine RT.done ⟨by kernel_rfl,?_⟩
 exact ae.n<|⟨(oC,oD,vQ,vR),h,wR []⟩
 obtain⟨Ec,Ed,Ee,Ef⟩:=j5
 try dsimp only
 obtain rfl:=O h
 exact⟨.inl rfl,gw .nil (fun _ _ _=>trivial),rfl⟩
theorem I5{x0:List Qr}{x1:List Qr}{r:List Qr}(h:mJ x0 x1=some r):Pure Tryz.prog 50 [slc 4 (List.map eQ x0),slc 4 (List.map eQ x1)] (slc 4 (List.map eQ r)):=by
 refine ay Tryz.func50 rfl (Nat.le_of_ble_eq_true rfl) (fun cE M vs hvs=>?_)
 unfold mJ at h
 refine sr<|aI rfl (imp_nil (n:=4) (e:=eQ))<|dn<|sr<|mv rfl<|mv rfl<|bE h fun x7 h7 h=>cl (Cb h7) ⟨rfl,rfl,rfl,trivial⟩<|ag rfl<|dn<|aj ?_
 obtain rfl:=O h
 exact R1 rfl
theorem xI{x0:Qr}{x1:List Qr}{r:List Qr}(h:kS x0 x1=some r):Pure Tryz.prog 40 [.agg (eQ x0),slc 4 (List.map eQ x1)] (slc 4 (List.map eQ r)):=by
 obtain⟨⟨aA,aB⟩,⟨aK,aL⟩⟩:=x0
 refine ay Tryz.func40 rfl (Nat.le_of_ble_eq_true rfl) (fun cE M vs hvs=>?_)
 unfold kS at h
 refine sr<|bx rfl<|aI rfl (imp_nil (n:=4) (e:=eQ))<|dn<|sr<|mv rfl<|lE h fun x9 h9 h=>ln rfl h9<|bE h fun dB fM h=>RT.kO (n:=4) (e:=eQ) .none rfl rfl T rfl T (by rfl) (by decide) (by exact⟨SV.aa _,imp_nil,SV.aa _,imp_nil,trivial⟩) fM<|an (s:=.row _) rfl<|dn<|qq<|sr<|mv rfl<|lE h fun dh ey h=>ln rfl ey<|mv rfl<|dn<|bE h fun e8 Dg wE=>?_
 refine aV (fun(j0:(List Qr))=>AS.bG 26 [(5,.row 10)] [] [(10,TR 43 4 eQ j0)]) (fun j0=>j0=e8) ?_ (fun j0 Dh=>?_)
 refine aq ?_
 refine aW Dg (fun s8=>AS.bG 26 [(2,.ptr 2 0),(5,.row 10),(11,.sv (slc 4 (List.map eQ x1))),(12,.sv (.v (.int .i64 dh))),(13,.sv (.v (.int .i64 s8.1)))] [(2,⟨43,[.sv (.v (.bool aA)),.sv (slc 1 (List.map ah aB)),.sv (.v (.bool aK)),.sv (slc 1 (List.map ah aL))]⟩)] [(10,TR 43 4 eQ s8.2)]) (wR []) (fun s8 y8 G8 h Di Dj=>?_)
 obtain⟨nm,nq⟩:=s8
 try dsimp only
 refine sr<|lE h fun eH jc h=>ls _ rfl rfl jc<|dn<|qq ?_
 cases eH
 refine cF<|aZ<|ae.x<|ae.x<|aG.x<|ae.n ?_
 obtain rfl:=O (F h)
 exact⟨nq,Dj _ rfl,wR []⟩
 refine cT<|aE<|ae.n<|qq<|aq<|sr<|mv rfl ?_
 obtain⟨⟨⟨kQ,kR⟩,⟨G7,He⟩⟩,jA,h⟩:=bS (V h)
 refine ix rfl rfl jA<|RT.iw (cs:=[_,_,_,_]) .none rfl T rfl rfl<|al (cs:=[.v (.bool false),slc 1 (List.map ah []),.v (.bool false),slc 1 (List.map ah [])]) (by exact⟨SV.aa _,imp_nil,SV.aa _,imp_nil,trivial⟩) rfl<|ag rfl<|so rfl rfl rfl<|dn<|af<|mo (s:=.row _) rfl<|mv rfl<|ld rfl rfl (.cons rfl (.cons rfl (.cons rfl (.cons rfl (.nil)))))<|ld rfl rfl (.cons rfl (.cons rfl (.cons rfl (.cons rfl (.nil))))) ?_
 obtain⟨⟨⟨nu,nv⟩,⟨nx,ny⟩⟩,nK,h⟩:=bS h
 refine cl (ug nK) ⟨rfl,rfl,trivial⟩<|bE h fun jw pz h=>iR rfl rfl rfl pz<|bE h fun tJ nf h=>sA ⟨⟨nu,nv⟩,⟨nx,ny⟩⟩ rfl rfl rfl nf<|RT.done<|aG.n<|ae.n<|af<|lE h fun gM l9 h=>ad _ rfl rfl l9<|mv rfl<|RT.done ?_
 obtain rfl:=O h
 exact ae.n ⟨(gM,tJ),Di _ rfl,wR []⟩
 subst Dh
 try dsimp only
 refine ae.n<|sr<|mo (s:=.row _) rfl<|an (s:=.row _) rfl<|dn<|bz (dK (i:=10) (E1:=43) (n:=4) (e:=eQ) (l:=j0) rfl)<|aj ?_
 obtain rfl:=O wE
 exact R1 rfl
theorem qE{x0:Qr}{x1:List Qr}{x2:List Qr}{r:List Qr}(h:ei x0 x1 x2=some r):Pure Tryz.prog 96 [.agg (eQ x0),slc 4 (List.map eQ x1),slc 4 (List.map eQ x2)] (slc 4 (List.map eQ r)):=by
 obtain⟨⟨aA,aB⟩,⟨aK,aL⟩⟩:=x0
 refine ay Tryz.func96 rfl (Nat.le_of_ble_eq_true rfl) (fun cE M vs hvs=>?_)
 unfold ei at h
 refine sr<|bx rfl<|aI rfl (imp_nil (n:=4) (e:=eQ))<|dn ?_
 refine bz (gp (i:=3) rfl [.v (.bool aA),slc 1 (List.map ah aB),.v (.bool aK),slc 1 (List.map ah aL)] (.cons rfl (.cons rfl (.cons rfl (.cons rfl (.nil))))) .any 0 [(3,.sv (ref [.v (.bool aA),slc 1 (List.map ah aB),.v (.bool aK),slc 1 (List.map ah aL)]))] (fun _ _ _=>trivial) (qp.h (l:=[.v (.bool aA),slc 1 (List.map ah aB),.v (.bool aK),slc 1 (List.map ah aL)])) ⟨@FT.ptr _ _ _ _ _ 3 0 rfl,trivial⟩)<|sr<|mv rfl<|mv rfl<|RT.uT (caps:=[_]) .none ⟨rfl,trivial⟩ T<|bE h fun dB fM h=>?_
 refine cl (xH fM) ⟨rfl,rfl,rfl,trivial⟩<|ag rfl<|dn<|aj ?_
 obtain rfl:=O h
 exact R1 rfl
theorem wK{x0:List Qr}{x1:List Qr}{r:Qr}(h:jQ x0 x1=some r):Pure Tryz.prog 87 [slc 4 (List.map eQ x0),slc 4 (List.map eQ x1)] (.agg (eQ r)):=by
 refine ay Tryz.func87 rfl (Nat.le_of_ble_eq_true rfl) (fun cE M vs hvs=>?_)
 unfold jQ at h
 refine sr<|al (cs:=[.v (.bool false),slc 1 (List.map ah []),.v (.bool false),slc 1 (List.map ah [])]) (by exact⟨SV.aa _,imp_nil,SV.aa _,imp_nil,trivial⟩) rfl<|dn<|sr<|al (cs:=[.v (.bool false),slc 1 (List.map ah []),.v (.bool false),slc 1 (List.map ah [])]) (by exact⟨SV.aa _,imp_nil,SV.aa _,imp_nil,trivial⟩) rfl<|dn<|sr<|RT.makeFunc .none (.box rfl (.nil)) T<|RT.alloc .none T rfl rfl<|RT.mz (cells:=[_]) .none (s:=.ek _ _) rfl rfl rfl T rfl ?_
 refine dn<|sr<|mv rfl<|lE h fun dh ey h=>ln rfl ey<|mv rfl<|lE h fun eH jc h=>ln rfl jc<|lE h fun dQ fN h=>RT.min .none _ rfl rfl T (Qz (p:=dh) (q:=eH) fN)<|ag rfl<|dn<|qq<|qq<|ai mixed<|mv rfl<|mv rfl<|bE h fun eD ij h=>RT.yz .none 0 dQ rfl rfl ⟨_,rfl⟩ T ij<|mv rfl<|mv rfl<|bE h fun gz mH h=>RT.yz .none 0 dQ rfl rfl ⟨_,rfl⟩ T mH<|cl (jR eD gz) ⟨rfl,rfl,trivial⟩ ?_
 refine RT.done ⟨by kernel_rfl,?_⟩
 refine ae.n<|aq<|bE h fun e7 QM GR=>?_
 obtain⟨Df,QN,QO,QS⟩:=iU QM
 refine fz (jS eD gz) (fun _ _ _ _ _=>trivial) rfl (fun k=>AS.bG 30 [(4,.ptr 4 0),(5,.ptr 5 0),(6,.ptr 6 0),(22,.sv (gX 165 [ref [slc 4 (List.map eQ eD)],ref [slc 4 (List.map eQ gz)]]))] [(6,⟨144,[.ek 131 [.box 5]]⟩),(5,⟨43,[.sv (.v (.bool (Df k).1)),.sv (slc 1 (List.map ah (Df k).2.1)),.sv (.v (.bool (Df k).2.2.1)),.sv (slc 1 (List.map ah (Df k).2.2.2))]⟩),(4,⟨43,[.sv (.v (.bool false)),.sv (slc 1 (List.map ah [])),.sv (.v (.bool false)),.sv (slc 1 (List.map ah []))]⟩)] []) [6,5,4] rfl (fun _=>⟨rfl,rfl⟩) (nH rfl) (fun _=>rfl) (nI rfl) (by(try dsimp only);rw[QN];(try dsimp only);exact cS id rfl rfl rfl rfl rfl ⟨.ptr,.ptr,.ptr,.sv (SV.aa _),trivial⟩ ⟨⟨_,rfl,⟨.ek,trivial⟩⟩,⟨_,rfl,⟨.sv (SV.aa _),.sv (SV.aa _),.sv (SV.aa _),.sv (SV.aa _),trivial⟩⟩,⟨_,rfl,⟨.sv (SV.aa _),.sv (SV.aa _),.sv (SV.aa _),.sv (SV.aa _),trivial⟩⟩,trivial⟩ trivial (fun _ _=>rfl)) (fun k hk D hD=>?_) ?_
 have h:=QO k hk
 obtain⟨sk,GS⟩:∃q,Df k=q:=⟨_,rfl⟩
 rw[GS]at h⊢
 obtain⟨BZ,B0,B3,B4⟩:=sk
 dsimp only[AS.JH,ot]
 try dsimp only at h
 obtain⟨⟨⟨S6,S7⟩,⟨S8,S9⟩⟩,adV,h⟩:=bS h
 rw[Option.some.inj adV]
 obtain⟨⟨⟨Ta,Tc⟩,⟨Td,Te⟩⟩,adW,h⟩:=bS h
 rw[Option.some.inj adW]
 refine sr<|al (cs:=[.v (.bool false),slc 1 (List.map ah []),.v (.bool false),slc 1 (List.map ah [])]) (by exact⟨SV.aa _,imp_nil,SV.aa _,imp_nil,trivial⟩) rfl<|so rfl rfl rfl<|dn<|af<|al (cs:=[.v (.bool false),slc 1 (List.map ah []),.v (.bool false),slc 1 (List.map ah [])]) (by exact⟨SV.aa _,imp_nil,SV.aa _,imp_nil,trivial⟩) rfl<|so rfl rfl rfl<|RT.done ?_
 refine ae.n ⟨rfl,?_⟩
 dsimp only[AS.xw]
 refine aq<|af<|RT.eA .none (s:=.ek _ _) rfl rfl rfl T<|ld rfl rfl (.cons rfl (.cons rfl (.cons rfl (.cons rfl (.nil)))))<|ld rfl rfl (.cons rfl (.cons rfl (.cons rfl (.cons rfl (.nil))))) ?_
 obtain⟨⟨⟨ZP,ZQ⟩,⟨ZR,ZS⟩⟩,tR,h⟩:=bS h
 refine cB (FA tR) 5 rfl ⟨rfl,rfl,trivial⟩<|RT.done<|aG.n ?_
 replace h:=Option.some.inj h
 refine⟨trivial,rfl,rfl,?_⟩
 try dsimp only
 rw[←h]
 try dsimp only
 exact wR []
 rw[QS]
 obtain⟨BZ,B0,B3,B4⟩:=e7
 try dsimp only
 refine aG.n<|ae.n<|sr<|ld rfl rfl (.cons rfl (.cons rfl (.cons rfl (.cons rfl (.nil)))))<|so rfl rfl rfl<|dn<|aj ?_
 obtain rfl:=O GR
 exact RZ (.agg rfl rfl (.cons rfl (.cons rfl (.cons rfl (.cons rfl (.nil))))) rfl (.nil))
theorem lC{x0:List Qr}{x1:List Qr}{r:Int}(h:fI x0 x1=some r):Pure Tryz.prog 88 [slc 4 (List.map eQ x0),slc 4 (List.map eQ x1)] (.v (.int .i64 r)):=by
 refine ay Tryz.func88 rfl (Nat.le_of_ble_eq_true rfl) (fun cE M vs hvs=>?_)
 unfold fI at h
 refine sr<|al (cs:=[.v (.int .i64 0)]) (by exact⟨SV.aa _,trivial⟩) rfl<|dn<|qq<|sr<|mv rfl<|mv rfl<|cl (jR x0 x1) ⟨rfl,rfl,trivial⟩<|dn<|aq<|bE h fun e3 UH WB=>?_
 obtain⟨m3,st3,hs3,ht3,hn3⟩:=yA UH
 refine mP (jS x0 x1) (fun _ _ _ _ _=>trivial) rfl (fun k=>AS.bG 19 [(4,.ptr 4 0),(10,.sv (gX 165 [ref [slc 4 (List.map eQ x0)],ref [slc 4 (List.map eQ x1)]]))] [(4,⟨3,[.sv (.v (.int .i64 0))]⟩)] []) [4] rfl (fun _=>⟨rfl,rfl⟩) (nH rfl) (fun _=>rfl) (nI rfl) (by(try dsimp only);(try dsimp only);exact cS id rfl rfl rfl rfl rfl ⟨.ptr,.sv (SV.aa _),trivial⟩ ⟨⟨_,rfl,⟨.sv (SV.aa _),trivial⟩⟩,trivial⟩ trivial (fun _ _=>rfl)) m3 (fun k hk hkm D hD=>?_) (fun hdn=>?_)
 obtain⟨y3,h,hG3,hE3⟩:=ht3 k hk hkm
 dsimp only[AS.JH,ot]
 try dsimp only at h
 obtain⟨⟨⟨Tf,Tg⟩,⟨Th,Ti⟩⟩,ad2,h⟩:=bS h
 rw[Option.some.inj ad2]
 obtain⟨⟨⟨Tj,Tk⟩,⟨Tl,Tm⟩⟩,ad3,h⟩:=bS h
 rw[Option.some.inj ad3]
 refine sr<|al (cs:=[.v (.bool false),slc 1 (List.map ah []),.v (.bool false),slc 1 (List.map ah [])]) (by exact⟨SV.aa _,imp_nil,SV.aa _,imp_nil,trivial⟩) rfl<|so rfl rfl rfl<|dn<|af<|al (cs:=[.v (.bool false),slc 1 (List.map ah []),.v (.bool false),slc 1 (List.map ah [])]) (by exact⟨SV.aa _,imp_nil,SV.aa _,imp_nil,trivial⟩) rfl<|so rfl rfl rfl<|RT.done ?_
 refine ae.n ⟨rfl,?_⟩
 dsimp only[AS.xw]
 refine aq<|sr<|ld rfl rfl (.cons rfl (.cons rfl (.cons rfl (.cons rfl (.nil)))))<|ld rfl rfl (.cons rfl (.cons rfl (.cons rfl (.cons rfl (.nil)))))<|bE h fun dQ fN h=>cl (zG fN) ⟨rfl,rfl,trivial⟩<|ag rfl<|dn<|sr<|mv rfl<|lE h fun gh kJ h=>ne _ rfl rfl (ER (p:=dQ) (q:=0) kJ)<|dn ?_
 cases gh
 refine cF<|aE<|aG.n ?_
 obtain rfl:=O (F h)
 obtain⟨hm3,hq3⟩:=hG3 _ rfl
 exact⟨hm3,rfl,rfl,wR []⟩
 refine cT<|sr<|mv rfl<|RT.mz (cells:=[_]) .none (s:=.sv _) rfl rfl rfl T rfl<|dn<|aj<|aG.r ?_
 obtain rfl:=O (V h)
 have he3:=hE3 _ rfl
 subst he3
 refine⟨rfl,rfl,?_⟩
 refine aG.r<|ae.r ?_
 obtain rfl:=O WB
 exact RZ (.one rfl rfl rfl (.nil))
 have hd3:=hn3 hdn
 subst hd3
 obtain⟨ee3,WC⟩:∃q,st3 (max x0.length x1.length)=q:=⟨_,rfl⟩
 rw[WC]at WB
 try dsimp only
 refine aG.n<|ae.n<|sr<|RT.mz (cells:=[_]) .none (s:=.sv _) rfl rfl rfl T rfl<|dn<|aj ?_
 obtain rfl:=O WB
 exact RZ (.one rfl rfl rfl (.nil))
theorem Hh{x0:List Qr}{r:Int}(h:oG x0=some r):Pure Tryz.prog 91 [slc 4 (List.map eQ x0)] (.v (.int .i64 r)):=by
 refine ay Tryz.func91 rfl (Nat.le_of_ble_eq_true rfl) (fun cE M vs hvs=>?_)
 unfold oG at h
 refine sr<|ag rfl<|dn<|sr<|mv rfl<|bE h fun x4 h4 h=>cl ((lC h4).w (args':=[_,_]) ⟨(SV.aa _),imp_nil,trivial⟩) ⟨rfl,rfl,trivial⟩<|ag rfl<|dn<|aj ?_
 obtain rfl:=O h
 exact R1 rfl
theorem fC{x0:List Qr}{x1:List Qr}{r:Bool}(h:cL x0 x1=some r):Pure Tryz.prog 37 [slc 4 (List.map eQ x0),slc 4 (List.map eQ x1)] (.v (.bool r)):=by
 refine ay Tryz.func37 rfl (Nat.le_of_ble_eq_true rfl) (fun cE M vs hvs=>?_)
 unfold cL at h
 refine sr<|ag rfl<|dn<|sr<|mv rfl<|mv rfl<|bE h fun x7 h7 h=>cl (lC h7) ⟨rfl,rfl,trivial⟩<|lE h fun x8 h8 h=>eq _ rfl rfl (tB (p:=x7) (q:=0) h8)<|ag rfl<|dn<|aj ?_
 obtain rfl:=O h
 exact R1 rfl
theorem Dp{x0:List Qr}{x1:Int}{r:List Qr}(h:lB x0 x1=some r):Pure Tryz.prog 47 [slc 4 (List.map eQ x0),.v (.int .i64 x1)] (slc 4 (List.map eQ r)):=by
 refine ay Tryz.func47 rfl (Nat.le_of_ble_eq_true rfl) (fun cE M vs hvs=>?_)
 unfold lB at h
 refine sr<|aI rfl (imp_nil (n:=4) (e:=eQ))<|dn<|qq<|sr<|mv rfl<|lE h fun x8 h8 h=>ls _ rfl rfl h8<|dn ?_
 cases x8
 refine fs<|sr<|mv rfl<|lE (F h) fun dB fM h=>RT.min .none _ rfl rfl T (Qz (p:=x1) (q:=65536) fM)<|bE h fun gY mG h=>RT.kO (n:=4) (e:=eQ) .none rfl rfl T rfl T (by rfl) (by decide) (by exact⟨SV.aa _,imp_nil,SV.aa _,imp_nil,trivial⟩) mG<|an (s:=.row _) rfl<|dn<|qq<|sr<|mv rfl<|lE h fun iu gN h=>ln rfl gN<|mo (s:=.row _) rfl<|lE h fun dQ fN h=>lL rfl rfl fN<|lE h fun gy jA h=>?_
 refine RT.min .none _ rfl rfl T (Qz (p:=iu) (q:=dQ) jA)<|mv rfl<|dn<|bE h fun e8 Dg wE=>?_
 refine aV (fun(B7:(List Qr))=>AS.bG 30 [(5,.row 11)] [] [(11,TR 43 4 eQ B7)]) (fun B7=>B7=e8) ?_ (fun B7 Dh=>?_)
 refine aq ?_
 refine aW Dg (fun s8=>AS.bG 30 [(0,.sv (slc 4 (List.map eQ x0))),(5,.row 11),(16,.sv (.v (.int .i64 gy))),(17,.sv (.v (.int .i64 s8.1)))] [] [(11,TR 43 4 eQ s8.2)]) (wR []) (fun s8 y8 G8 h Di Dj=>?_)
 obtain⟨Hf,Hg⟩:=s8
 try dsimp only
 refine sr<|lE h fun eD ij h=>ls _ rfl rfl ij<|dn<|qq ?_
 cases eD
 refine cF<|aZ<|ae.x<|ae.x<|aG.x<|ae.n ?_
 obtain rfl:=O (F h)
 exact⟨Hg,Dj _ rfl,wR []⟩
 refine cT<|aE<|ae.n<|qq<|aq<|sr<|mv rfl<|ag rfl<|dn<|af<|mo (s:=.row _) rfl<|mv rfl<|mv rfl<|mv rfl ?_
 obtain⟨⟨⟨oH,oI⟩,⟨oJ,oK⟩⟩,l9,h⟩:=bS (V h)
 refine ix rfl rfl l9<|RT.iw (cs:=[_,_,_,_]) .none rfl T rfl rfl ?_
 obtain⟨⟨⟨oL,oM⟩,⟨B5,B6⟩⟩,nY,h⟩:=bS h
 refine cl (gD nY) ⟨rfl,trivial⟩<|bE h fun kj og h=>iR rfl rfl rfl og<|bE h fun tJ nf h=>sA ⟨⟨oL,oM⟩,⟨B5,B6⟩⟩ rfl rfl rfl nf<|RT.done<|aG.n<|ae.n<|af<|lE h fun nX tR h=>ad _ rfl rfl tR<|mv rfl<|RT.done ?_
 obtain rfl:=O h
 exact ae.n ⟨(nX,tJ),Di _ rfl,wR []⟩
 subst Dh
 try dsimp only
 refine ae.n<|sr<|mo (s:=.row _) rfl<|an (s:=.row _) rfl<|dn<|bz (dK (i:=11) (E1:=43) (n:=4) (e:=eQ) (l:=B7) rfl)<|aj ?_
 obtain rfl:=O wE
 exact R1 rfl
 refine cT<|sr<|aI rfl (imp_nil (n:=4) (e:=eQ))<|dn<|aj<|ae.r ?_
 obtain rfl:=O (V h)
 exact R1 rfl
theorem dz{x0:List Int}{r:List Qr}(h:cy x0=some r):Pure Tryz.prog 54 [slc 1 (List.map bU x0)] (slc 4 (List.map eQ r)):=by
 refine ay Tryz.func54 rfl (Nat.le_of_ble_eq_true rfl) (fun cE M vs hvs=>?_)
 unfold cy at h
 refine sr<|aI rfl (imp_nil (n:=4) (e:=eQ))<|dn<|sr<|mv rfl<|lE h fun x7 h7 h=>ln rfl h7<|bE h fun x8 h8 h=>RT.kO (n:=4) (e:=eQ) .none rfl rfl T rfl T (by rfl) (by decide) (by exact⟨SV.aa _,imp_nil,SV.aa _,imp_nil,trivial⟩) h8<|an (s:=.row _) rfl<|dn<|qq<|sr<|mv rfl<|lE h fun dB fM h=>ln rfl fM<|mv rfl<|dn<|bE h fun e8 Dg wE=>?_
 refine aV (fun(wI:(List Qr))=>AS.bG 23 [(3,.row 8)] [] [(8,TR 43 4 eQ wI)]) (fun wI=>wI=e8) ?_ (fun wI Dh=>?_)
 refine aq ?_
 refine aW Dg (fun s8=>AS.bG 23 [(3,.row 8),(9,.sv (slc 1 (List.map bU x0))),(10,.sv (.v (.int .i64 dB))),(11,.sv (.v (.int .i64 s8.1)))] [] [(8,TR 43 4 eQ s8.2)]) (wR []) (fun s8 y8 G8 h Di Dj=>?_)
 obtain⟨uh,B8⟩:=s8
 try dsimp only
 refine sr<|lE h fun dh ey h=>ls _ rfl rfl ey<|dn<|qq ?_
 cases dh
 refine cF<|aZ<|ae.x<|ae.x<|aG.x<|ae.n ?_
 obtain rfl:=O (F h)
 exact⟨B8,Dj _ rfl,wR []⟩
 refine cT<|aE<|ae.n<|qq<|aq<|sr<|mv rfl<|bE (V h) fun eH jc h=>ix rfl rfl jc<|lr rfl rfl<|ag rfl<|ag rfl<|dn<|af<|mo (s:=.row _) rfl<|mv rfl<|mv rfl ?_
 obtain⟨⟨⟨me,mg⟩,⟨B9,Ca⟩⟩,kn,h⟩:=bS h
 refine cl (gC kn) ⟨rfl,trivial⟩<|bE h fun gV l8 h=>iR rfl rfl rfl l8<|bE h fun tJ nf h=>sA ⟨⟨me,mg⟩,⟨B9,Ca⟩⟩ rfl rfl rfl nf<|RT.done<|aG.n<|ae.n<|af<|lE h fun gz mH h=>ad _ rfl rfl mH<|mv rfl<|RT.done ?_
 obtain rfl:=O h
 exact ae.n ⟨(gz,tJ),Di _ rfl,wR []⟩
 subst Dh
 try dsimp only
 refine ae.n<|sr<|mo (s:=.row _) rfl<|an (s:=.row _) rfl<|dn<|bz (dK (i:=8) (E1:=43) (n:=4) (e:=eQ) (l:=wI) rfl)<|aj ?_
 obtain rfl:=O wE
 exact R1 rfl
end Go.Proofs.YtningmnklfpfjaaGreat
namespace Go.Proofs.YtningmnklfpfjaaGreat
open Go.Fw
noncomputable def qF(x0:List (List Qr))(x1:Int):Option (List Qr):=cm (fun(BY:Bool)=>(bif BY then some []else(cC x0 x1).bind fun dQ=>some dQ)) fun K3=>(some (decide ((x1:Int)<0))).bind fun x6=>(bif x6 then some true else(some (x0.length:Int)).bind fun dB=>(some (decide ((dB:Int)≤x1))).bind fun gY=>some gY).bind fun Tn=>K3 Tn
noncomputable def mK(x0:List (List Qr)):Option (Int):=(some (x0.length:Int)).bind fun x7=>(bT (fun(s6:Int×Int)=>match s6 with|⟨qg,QX⟩=>(show Option ((Int×Int)⊕(Int))from(some (decide ((QX:Int)<x7))).bind fun x9=>(bif x9 then(cC x0 QX).bind fun dB=>(some (dB.length:Int)).bind fun eH=>(some (max (qg:Int) eH)).bind fun dQ=>(some (IntKind.i64.wrap (QX+1))).bind fun gy=>some (.inl (dQ,gy))else some (.inr qg)))) (0,0)).bind fun yV=>some yV
noncomputable def uj(x0:List (List Qr))(x1:Int)(x2:Int):Option (Qr):=(qF x0 x1).bind fun dB=>cm (fun(Oe:Bool)=>(bif Oe then some ⟨⟨false,[]⟩,⟨false,[]⟩⟩else(cC dB x2).bind fun⟨⟨nu,nv⟩,⟨nx,ny⟩⟩=>(bZ ⟨⟨nu,nv⟩,⟨nx,ny⟩⟩).bind fun⟨⟨oH,oI⟩,⟨oJ,oK⟩⟩=>some ⟨⟨oH,oI⟩,⟨oJ,oK⟩⟩)) fun K3=>(some (decide ((x2:Int)<0))).bind fun dh=>(bif dh then some true else(some (dB.length:Int)).bind fun gy=>(some (decide ((gy:Int)≤x2))).bind fun gh=>some gh).bind fun To=>K3 To
noncomputable def lD(x0:List (List Qr))(x1:List Qr):Option (List Qr):=(some (x0.length:Int)).bind fun x9=>(CZ 64 x9 (⟨⟨false,[]⟩,⟨false,[]⟩⟩:Qr)).bind fun dB=>(some (x0.length:Int)).bind fun dh=>(bT (fun(s8:Int×(List Qr))=>match s8 with|⟨nm,nq⟩=>(show Option ((Int×(List Qr))⊕((List Qr)))from(some (decide ((nm:Int)<dh))).bind fun eH=>(bif eH then(cC x0 nm).bind fun gy=>(jQ gy x1).bind fun⟨⟨nu,nv⟩,⟨nx,ny⟩⟩=>(pG nq nm).bind fun jw=>(stM nq jw ⟨⟨nu,nv⟩,⟨nx,ny⟩⟩).bind fun tJ=>(some (IntKind.i64.wrap (nm+1))).bind fun gM=>some (.inl (gM,tJ))else some (.inr nq)))) (0,dB)).bind fun j0=>some j0
noncomputable def iq(x0:List (List Int)):Option (List (List Qr)):=(some (x0.length:Int)).bind fun x7=>(CZ 24 x7 ([]:List Qr)).bind fun x8=>(some (x0.length:Int)).bind fun dB=>(bT (fun(s8:Int×(List (List Qr)))=>match s8 with|⟨uh,B8⟩=>(show Option ((Int×(List (List Qr)))⊕((List (List Qr))))from(some (decide ((uh:Int)<dB))).bind fun dh=>(bif dh then(cC x0 uh).bind fun eH=>(cy eH).bind fun k8=>(pG B8 uh).bind fun gV=>(stM B8 gV k8).bind fun tJ=>(some (IntKind.i64.wrap (uh+1))).bind fun gz=>some (.inl (gz,tJ))else some (.inr B8)))) (0,x8)).bind fun wI=>some wI
noncomputable def qh(x0:List (List Qr))(x1:List Qr):Option (List Qr):=(some (x0.length:Int)).bind fun x9=>(CZ 64 x9 (⟨⟨false,[]⟩,⟨false,[]⟩⟩:Qr)).bind fun dB=>(some (x0.length:Int)).bind fun dh=>(bT (fun(s8:Int×(List Qr))=>match s8 with|⟨nm,nq⟩=>(show Option ((Int×(List Qr))⊕((List Qr)))from(some (decide ((nm:Int)<dh))).bind fun eH=>(bif eH then(cC x0 nm).bind fun gy=>(jQ gy x1).bind fun⟨⟨nu,nv⟩,⟨nx,ny⟩⟩=>(pG nq nm).bind fun jw=>(stM nq jw ⟨⟨nu,nv⟩,⟨nx,ny⟩⟩).bind fun tJ=>(some (IntKind.i64.wrap (nm+1))).bind fun gM=>some (.inl (gM,tJ))else some (.inr nq)))) (0,dB)).bind fun j0=>some j0
end Go.Proofs.YtningmnklfpfjaaGreat
namespace Go.Proofs.YtningmnklfpfjaaGreat
open Go.Fw Go.Fw.Z Go.RowKit
theorem I6{x0:List (List Qr)}{x1:Int}{r:List Qr}(h:qF x0 x1=some r):Pure Tryz.prog 139 [slc 1 (List.map (eS 4 eQ) x0),.v (.int .i64 x1)] (slc 4 (List.map eQ r)):=by
 refine ay Tryz.func139 rfl (Nat.le_of_ble_eq_true rfl) (fun cE M vs hvs=>?_)
 unfold qF at h
 refine sr<|aI rfl (imp_nil (n:=4) (e:=eQ))<|dn<|qq<|qq ?_
 refine aF h (fun j3=>AS.bG 17 [(0,.sv (slc 1 (List.map (eS 4 eQ) x0))),(1,.sv (.v (.int .i64 x1))),(12,.sv (.v (.bool j3)))] [] []) (fun h=>?_) (fun BY h=>?_)
 refine af<|mv rfl<|lE h fun x6 h6 h=>ls _ rfl rfl h6<|mv rfl<|bE h fun Tn mR h=>?_
 cases x6
 refine gm rfl<|gm rfl<|lE (F mR) fun dB fM mR=>gn rfl fM<|lE mR fun gY mG mR=>RT.geq (.some rfl rfl) _ rfl rfl T mG ?_
 obtain rfl:=O mR
 exact pF rfl<|dn<|⟨gY,h,wR []⟩
 obtain rfl:=O (V mR)
 exact ww<|ww<|ww<|ww<|pT rfl<|dn<|⟨true,h,wR []⟩
 try dsimp only
 refine ae.n ?_
 cases BY
 refine fs<|sr<|mv rfl<|mv rfl<|bE (F h) fun dQ fN h=>ix rfl rfl fN<|lr rfl rfl<|ag rfl<|dn<|aj ?_
 obtain rfl:=O h
 exact R1 rfl
 refine cT<|sr<|aI rfl (imp_nil (n:=4) (e:=eQ))<|dn<|aj<|ae.r ?_
 obtain rfl:=O (V h)
 exact R1 rfl
theorem zH{x0:List (List Qr)}{r:Int}(h:mK x0=some r):Pure Tryz.prog 84 [slc 1 (List.map (eS 4 eQ) x0)] (.v (.int .i64 r)):=by
 refine ay Tryz.func84 rfl (Nat.le_of_ble_eq_true rfl) (fun cE M vs hvs=>?_)
 unfold mK at h
 refine sr<|ag rfl<|dn<|sr<|ag rfl<|dn<|qq<|sr<|mv rfl<|lE h fun x7 h7 h=>ln rfl h7<|mv rfl<|dn<|bE h fun e6 E9 jd=>?_
 refine aV (fun(yV:Int)=>AS.bG 18 [(3,.sv (.v (.int .i64 yV)))] [] []) (fun yV=>yV=e6) ?_ (fun yV Fb=>?_)
 refine aq ?_
 refine aW E9 (fun s6=>AS.bG 18 [(3,.sv (.v (.int .i64 s6.1))),(6,.sv (slc 1 (List.map (eS 4 eQ) x0))),(7,.sv (.v (.int .i64 x7))),(8,.sv (.v (.int .i64 s6.2)))] [] []) (wR []) (fun s6 y6 G6 h Fe zX=>?_)
 obtain⟨qg,QX⟩:=s6
 try dsimp only
 refine sr<|lE h fun x9 h9 h=>ls _ rfl rfl h9<|dn<|qq ?_
 cases x9
 refine cF<|aZ<|ae.x<|ae.x<|aG.x<|ae.n ?_
 obtain rfl:=O (F h)
 exact⟨qg,zX _ rfl,wR []⟩
 refine cT<|aE<|ae.n<|qq<|aq<|sr<|bE (V h) fun dB fM h=>ix rfl rfl fM<|lr rfl rfl<|ag rfl<|dn<|af<|mv rfl<|mv rfl<|lE h fun eH jc h=>ln rfl jc<|lE h fun dQ fN h=>RT.max .none _ rfl rfl T (GG (p:=qg) (q:=eH) fN)<|ag rfl<|RT.done<|aG.n<|ae.n<|af<|lE h fun gy jA h=>ad _ rfl rfl jA<|mv rfl<|RT.done ?_
 obtain rfl:=O h
 exact ae.n ⟨(dQ,gy),Fe _ rfl,wR []⟩
 subst Fb
 try dsimp only
 refine ae.n<|sr<|mv rfl<|ag rfl<|dn<|aj ?_
 obtain rfl:=O jd
 exact R1 rfl
theorem Lm{x0:List (List Qr)}{x1:Int}{x2:Int}{r:Qr}(h:uj x0 x1 x2=some r):Pure Tryz.prog 103 [slc 1 (List.map (eS 4 eQ) x0),.v (.int .i64 x1),.v (.int .i64 x2)] (.agg (eQ r)):=by
 refine ay Tryz.func103 rfl (Nat.le_of_ble_eq_true rfl) (fun cE M vs hvs=>?_)
 unfold uj at h
 refine sr<|al (cs:=[.v (.bool false),slc 1 (List.map ah []),.v (.bool false),slc 1 (List.map ah [])]) (by exact⟨SV.aa _,imp_nil,SV.aa _,imp_nil,trivial⟩) rfl<|dn<|sr<|mv rfl<|mv rfl<|bE h fun dB fM h=>cl (I6 fM) ⟨rfl,rfl,trivial⟩<|ag rfl<|dn<|qq<|qq ?_
 refine aF h (fun j3=>AS.bG 25 [(2,.sv (.v (.int .i64 x2))),(6,.ptr 6 0),(7,.sv (slc 4 (List.map eQ dB))),(18,.sv (.v (.bool j3)))] [(6,⟨43,[.sv (.v (.bool false)),.sv (slc 1 (List.map ah [])),.sv (.v (.bool false)),.sv (slc 1 (List.map ah []))]⟩)] []) (fun h=>?_) (fun Oe h=>?_)
 refine af<|mv rfl<|lE h fun dh ey h=>ls _ rfl rfl ey<|mv rfl<|bE h fun To mR h=>?_
 cases dh
 refine gm rfl<|gm rfl<|lE (F mR) fun gy jA mR=>gn rfl jA<|lE mR fun gh kJ mR=>RT.geq (.some rfl rfl) _ rfl rfl T kJ ?_
 obtain rfl:=O mR
 exact pF rfl<|dn<|⟨gh,h,wR []⟩
 obtain rfl:=O (V mR)
 exact ww<|ww<|ww<|ww<|pT rfl<|dn<|⟨true,h,wR []⟩
 try dsimp only
 refine ae.n ?_
 cases Oe
 refine fs<|sr<|mv rfl<|mv rfl ?_
 obtain⟨⟨⟨nu,nv⟩,⟨nx,ny⟩⟩,nK,h⟩:=bS (F h)
 refine ix rfl rfl nK<|RT.iw (cs:=[_,_,_,_]) .none rfl T rfl rfl ?_
 obtain⟨⟨⟨oH,oI⟩,⟨oJ,oK⟩⟩,l9,h⟩:=bS h
 refine cl (gD l9) ⟨rfl,trivial⟩<|so rfl rfl rfl<|dn<|aj ?_
 obtain rfl:=O h
 exact RZ (.agg rfl rfl (.cons rfl (.cons rfl (.cons rfl (.cons rfl (.nil))))) rfl (.nil))
 refine cT<|sr<|bI (cs:=[_,_,_,_]) (cs':=[.v (.bool false),slc 1 (List.map ah []),.v (.bool false),slc 1 (List.map ah [])]) (.nil) ⟨SV.aa _,imp_nil,SV.aa _,imp_nil,trivial⟩<|so rfl rfl rfl<|dn<|aj<|ae.r ?_
 obtain rfl:=O (V h)
 exact RZ (.agg rfl rfl (.cons rfl (.cons rfl (.cons rfl (.cons rfl (.nil))))) rfl (.nil))
theorem Dq{x0:List (List Qr)}{x1:List Qr}{r:List Qr}(h:lD x0 x1=some r):Pure Tryz.prog 49 [slc 1 (List.map (eS 4 eQ) x0),slc 4 (List.map eQ x1)] (slc 4 (List.map eQ r)):=by
 refine ay Tryz.func49 rfl (Nat.le_of_ble_eq_true rfl) (fun cE M vs hvs=>?_)
 unfold lD at h
 refine sr<|aI rfl (imp_nil (n:=4) (e:=eQ))<|dn<|sr<|mv rfl<|lE h fun x9 h9 h=>ln rfl h9<|bE h fun dB fM h=>RT.kO (n:=4) (e:=eQ) .none rfl rfl T rfl T (by rfl) (by decide) (by exact⟨SV.aa _,imp_nil,SV.aa _,imp_nil,trivial⟩) fM<|an (s:=.row _) rfl<|dn<|qq<|sr<|mv rfl<|lE h fun dh ey h=>ln rfl ey<|mv rfl<|dn<|bE h fun e8 Dg wE=>?_
 refine aV (fun(j0:(List Qr))=>AS.bG 26 [(5,.row 10)] [] [(10,TR 43 4 eQ j0)]) (fun j0=>j0=e8) ?_ (fun j0 Dh=>?_)
 refine aq ?_
 refine aW Dg (fun s8=>AS.bG 26 [(1,.sv (slc 4 (List.map eQ x1))),(5,.row 10),(11,.sv (slc 1 (List.map (eS 4 eQ) x0))),(12,.sv (.v (.int .i64 dh))),(13,.sv (.v (.int .i64 s8.1)))] [] [(10,TR 43 4 eQ s8.2)]) (wR []) (fun s8 y8 G8 h Di Dj=>?_)
 obtain⟨nm,nq⟩:=s8
 try dsimp only
 refine sr<|lE h fun eH jc h=>ls _ rfl rfl jc<|dn<|qq ?_
 cases eH
 refine cF<|aZ<|ae.x<|ae.x<|aG.x<|ae.n ?_
 obtain rfl:=O (F h)
 exact⟨nq,Dj _ rfl,wR []⟩
 refine cT<|aE<|ae.n<|qq<|aq<|sr<|mv rfl<|bE (V h) fun gy jA h=>ix rfl rfl jA<|lr rfl rfl<|ag rfl<|ag rfl<|dn<|af<|mo (s:=.row _) rfl<|mv rfl<|mv rfl<|mv rfl ?_
 obtain⟨⟨⟨nu,nv⟩,⟨nx,ny⟩⟩,nK,h⟩:=bS h
 refine cl (wK nK) ⟨rfl,rfl,trivial⟩<|bE h fun jw pz h=>iR rfl rfl rfl pz<|bE h fun tJ nf h=>sA ⟨⟨nu,nv⟩,⟨nx,ny⟩⟩ rfl rfl rfl nf<|RT.done<|aG.n<|ae.n<|af<|lE h fun gM l9 h=>ad _ rfl rfl l9<|mv rfl<|RT.done ?_
 obtain rfl:=O h
 exact ae.n ⟨(gM,tJ),Di _ rfl,wR []⟩
 subst Dh
 try dsimp only
 refine ae.n<|sr<|mo (s:=.row _) rfl<|an (s:=.row _) rfl<|dn<|bz (dK (i:=10) (E1:=43) (n:=4) (e:=eQ) (l:=j0) rfl)<|aj ?_
 obtain rfl:=O wE
 exact R1 rfl
theorem sO{x0:List (List Int)}{r:List (List Qr)}(h:iq x0=some r):Pure Tryz.prog 100 [slc 1 (List.map (eS 1 bU) x0)] (slc 1 (List.map (eS 4 eQ) r)):=by
 refine ay Tryz.func100 rfl (Nat.le_of_ble_eq_true rfl) (fun cE M vs hvs=>?_)
 unfold iq at h
 refine sr<|aI rfl (imp_nil (n:=1) (e:=(eS 4 eQ)))<|dn<|sr<|mv rfl<|lE h fun x7 h7 h=>ln rfl h7<|bE h fun x8 h8 h=>RT.kO (n:=1) (e:=(eS 4 eQ)) .none rfl rfl T rfl T (by rfl) (by decide) (by exact⟨imp_nil,trivial⟩) h8<|an (s:=.row _) rfl<|dn<|qq<|sr<|mv rfl<|lE h fun dB fM h=>ln rfl fM<|mv rfl<|dn<|bE h fun e8 Dg wE=>?_
 refine aV (fun(wI:(List (List Qr)))=>AS.bG 23 [(3,.row 8)] [] [(8,TR 23 1 (eS 4 eQ) wI)]) (fun wI=>wI=e8) ?_ (fun wI Dh=>?_)
 refine aq ?_
 refine aW Dg (fun s8=>AS.bG 23 [(3,.row 8),(9,.sv (slc 1 (List.map (eS 1 bU) x0))),(10,.sv (.v (.int .i64 dB))),(11,.sv (.v (.int .i64 s8.1)))] [] [(8,TR 23 1 (eS 4 eQ) s8.2)]) (wR []) (fun s8 y8 G8 h Di Dj=>?_)
 obtain⟨uh,B8⟩:=s8
 try dsimp only
 refine sr<|lE h fun dh ey h=>ls _ rfl rfl ey<|dn<|qq ?_
 cases dh
 refine cF<|aZ<|ae.x<|ae.x<|aG.x<|ae.n ?_
 obtain rfl:=O (F h)
 exact⟨B8,Dj _ rfl,wR []⟩
 refine cT<|aE<|ae.n<|qq<|aq<|sr<|mv rfl<|bE (V h) fun eH jc h=>ix rfl rfl jc<|lr rfl rfl<|ag rfl<|ag rfl<|dn<|af<|mo (s:=.row _) rfl<|mv rfl<|mv rfl<|bE h fun k8 kn h=>cl (dz kn) ⟨rfl,trivial⟩<|bE h fun gV l8 h=>iR rfl rfl rfl l8<|bE h fun tJ nf h=>sR k8 rfl rfl rfl rfl nf<|RT.done<|aG.n<|ae.n<|af<|lE h fun gz mH h=>ad _ rfl rfl mH ?_
 refine mv rfl<|RT.done ?_
 obtain rfl:=O h
 exact ae.n ⟨(gz,tJ),Di _ rfl,wR []⟩
 subst Dh
 try dsimp only
 refine ae.n<|sr<|mo (s:=.row _) rfl<|an (s:=.row _) rfl<|dn<|bz (dK (i:=8) (E1:=23) (n:=1) (e:=(eS 4 eQ)) (l:=wI) rfl)<|aj ?_
 obtain rfl:=O wE
 exact R1 rfl
theorem Cc{x0:List (List Qr)}{x1:List Qr}{r:List Qr}(h:qh x0 x1=some r):A8 Tryz.prog 49 [slc 1 (List.map (eS 4 eQ) x0),slc 4 (List.map eQ x1)] (TR 43 4 eQ r):=by
 refine rC Tryz.func49 rfl (Nat.le_of_ble_eq_true rfl) (fun cE M vs hvs=>?_)
 unfold qh at h
 refine sr<|ag rfl<|dn<|bz (iO 4 304 43 4 rfl rfl T)<|sr<|mv rfl<|lE h fun x9 h9 h=>ln rfl h9<|bE h fun dB fM h=>RT.kO (n:=4) (e:=eQ) .none rfl rfl T rfl T (by rfl) (by decide) (by exact⟨SV.aa _,imp_nil,SV.aa _,imp_nil,trivial⟩) fM<|an (s:=.row _) rfl<|dn<|qq<|sr<|mv rfl<|lE h fun dh ey h=>ln rfl ey<|mv rfl<|dn<|bE h fun e8 Dg wE=>?_
 refine aV (fun(j0:(List Qr))=>AS.bG 26 [(5,.row 10)] [] [(10,TR 43 4 eQ j0)]) (fun j0=>j0=e8) ?_ (fun j0 Dh=>?_)
 refine aq ?_
 refine aW Dg (fun s8=>AS.bG 26 [(1,.sv (slc 4 (List.map eQ x1))),(5,.row 10),(11,.sv (slc 1 (List.map (eS 4 eQ) x0))),(12,.sv (.v (.int .i64 dh))),(13,.sv (.v (.int .i64 s8.1)))] [] [(10,TR 43 4 eQ s8.2)]) (wR []) (fun s8 y8 G8 h Di Dj=>?_)
 obtain⟨nm,nq⟩:=s8
 try dsimp only
 refine sr<|lE h fun eH jc h=>ls _ rfl rfl jc<|dn<|qq ?_
 cases eH
 refine cF<|aZ<|ae.x<|ae.x<|aG.x<|ae.n ?_
 obtain rfl:=O (F h)
 exact⟨nq,Dj _ rfl,wR []⟩
 refine cT<|aE<|ae.n<|qq<|aq<|sr<|mv rfl<|bE (V h) fun gy jA h=>ix rfl rfl jA<|lr rfl rfl<|ag rfl<|ag rfl<|dn<|af<|mo (s:=.row _) rfl<|mv rfl<|mv rfl<|mv rfl ?_
 obtain⟨⟨⟨nu,nv⟩,⟨nx,ny⟩⟩,nK,h⟩:=bS h
 refine cl (wK nK) ⟨rfl,rfl,trivial⟩<|bE h fun jw pz h=>iR rfl rfl rfl pz<|bE h fun tJ nf h=>sA ⟨⟨nu,nv⟩,⟨nx,ny⟩⟩ rfl rfl rfl nf<|RT.done<|aG.n<|ae.n<|af<|lE h fun gM l9 h=>ad _ rfl rfl l9<|mv rfl<|RT.done ?_
 obtain rfl:=O h
 exact ae.n ⟨(gM,tJ),Di _ rfl,wR []⟩
 subst Dh
 try dsimp only
 refine ae.n<|sr<|mo (s:=.row _) rfl<|an (s:=.row _) rfl<|dn<|aj ?_
 obtain rfl:=O wE
 exact⟨.inr rfl,_,.tmp rfl,rfl⟩
end Go.Proofs.YtningmnklfpfjaaGreat
namespace Go.Fw
open Go.RowKit
theorem Of{α:Type}{e:α→List SV}{l:List α}{n:Nat}{s t:SV}{r:List SV}{M:Mem}{v:Value}(h:(ref (s::t::slc n (l.map e)::r)).h M v):l.length≤9223372036854775807:=by
 obtain⟨b,o,_,h⟩:=h
 obtain⟨y,_,_,h⟩:=h 2 _ rfl
 exact JN h
theorem I7{α β:Type}(a:List α)(b:List β)(i:Nat)(h:i≤a.length):(i<a.length∧i<b.length)∨(i<a.length∧b.length≤i)∨i=a.length:=by omega
class St4 (P:Program) (T:TypeId) (I:outParam TypeId):Prop where
 fs:(match P.underlying T with|some (.struct fs)=>(match fs.toList with|[f1,f2,f3,f4]=>(decide (f1.type=I)&&decide (f1.offset=0)&&decide (f1.name≠ "_"))&&(decide (f2.type=I)&&decide (f2.offset=1)&&decide (f2.name≠ "_"))&&(decide (f3.type=I)&&decide (f3.offset=2)&&decide (f3.name≠ "_"))&&(decide (f4.type=I)&&decide (f4.offset=3)&&decide (f4.name≠ "_"))|_=>false)|_=>false)=true
 hp:P.stoodInHeld T=false
 hI:P.underlying I=some (.int .i64)
 hg:P.eqGuardType P.depth T=false
theorem St4.ex{P:Program}{T I:TypeId}(h:St4 P T I):∃f1 f2 f3 f4:Field,P.underlying T=some (.struct #[f1,f2,f3,f4])∧(f1.type=I∧f1.offset=0∧f1.name≠ "_")∧(f2.type=I∧f2.offset=1∧f2.name≠ "_")∧(f3.type=I∧f3.offset=2∧f3.name≠ "_")∧(f4.type=I∧f4.offset=3∧f4.name≠ "_"):=by
 have h1:=h.fs
 cases hu:P.underlying T with
 |none=>rw[hu]at h1;cases h1
 |some d=>
  rw[hu]at h1
  cases d with
  |struct fs=>
   obtain⟨l⟩:=fs
   match l,h1 with
   |[f1,f2,f3,f4],h1=>
    simp only[Bool.and_eq_true,decide_eq_true_eq]at h1
    obtain⟨⟨⟨⟨⟨a1,a2⟩,a3⟩,⟨⟨b1,b2⟩,b3⟩⟩,⟨⟨c1,c2⟩,c3⟩⟩,⟨⟨d1,d2⟩,d3⟩⟩:=h1
    exact⟨f1,f2,f3,f4,rfl,⟨a1,a2,a3⟩,⟨b1,b2,b3⟩,⟨c1,c2,c3⟩,⟨d1,d2,d3⟩⟩
  |_=>cases h1
section steps
variable {P:Program}{C:Ctx}{ops:Array Oper}{S:AS}{nd:Bool}{K:List Ac→AS→Prop}{rest:List Oper}{acc:List Ac}
variable {gd:Option (Nat×Bool)}{rg:List Nat}{d:Nat}{ty:TypeId}{pos:String}{aft:Array Edge}{x y z:Operand}{T U E0:TypeId}
end steps
end Go.Fw
namespace Go.Fw
open Go.RowKit
def kL:List (Nat×Row×Value)→(Nat→Value)→Nat→Value
 |[],ν,j=>ν j
 |(k,_,v)::l,ν,j=>if j=k then v else kL l ν j
theorem nA{ν:Nat→Value}:∀{l:List (Nat×Row×Value)} {j:Nat},(∀R v,(j,R,v)∉l)→kL l ν j=ν j
 |[],_,_=>rfl
 |(k,R,v)::l,j,h=>by
  have:j≠k:=fun e=>h R v (by rw[e];simp)
  rw[kL,if_neg this]
  exact nA (fun R v hm=>h R v (List.mem_cons_of_mem _ hm))
theorem iQ{ν:Nat→Value}:∀{l:List (Nat×Row×Value)} {j:Nat} {R:Row} {v:Value},(l.map (·.1)).Nodup→(j,R,v)∈l→kL l ν j=v
 |(k,R',v')::l,j,R,v,hn,h=>by
  rw[List.map_cons,List.nodup_cons]at hn
  rcases List.mem_cons.1 h with e|e
  ·cases e;rw[kL,if_pos rfl]
  ·have:j≠k:=fun q=>hn.1 (List.mem_map.2 ⟨(j,R,v),e,q⟩)
   rw[kL,if_neg this];exact iQ hn.2 e
def xJ(olds:List Nat)(news:List (Nat×Row×Value)):List (Nat×kV):=olds.map (fun j=>(j,.dead))++news.map (fun n=>(n.1,.live n.2.1))
theorem r5:∀(l k:List (Nat×kV)) (j:Nat),dg (l++k) j=match dg k j with|some R=>some R|none=>dg l j
 |[],k,j=>by cases h:dg k j<;>simp[h,dg]
 |(i,R)::l,k,j=>by
  rw[List.cons_append,dg,dg,r5 l k j]
  cases h:dg k j<;>simp
theorem wL{l:List (Nat×kV)}{j:Nat}(h:∀R,(j,R)∉l):dg l j=none:=by
 induction l with
 |nil=>rfl
 |cons p l ih=>
  obtain⟨i,R⟩:=p
  rw[dg,ih (fun R hm=>h R (List.mem_cons_of_mem _ hm))]
  have:j≠i:=fun e=>h R (by rw[e];simp)
  simp[this]
theorem wM{l:List (Nat×kV)}{j:Nat}{R:kV}(h:dg l j=some R):(j,R)∈l:=by
 induction l with
 |nil=>cases h
 |cons p l ih=>
  obtain⟨i,R'⟩:=p
  rw[dg]at h
  cases e:dg l j with
  |some R2=>rw[e]at h;cases h;exact List.mem_cons_of_mem _ (ih e)
  |none=>
   rw[e]at h
   by_cases q:j=i
   ·subst q;simp at h;subst h;simp
   ·simp[q]at h
theorem Cd{l:List (Nat×kV)}{j:Nat}{R:kV}(h:(j,R)∈l):∃R',dg l j=some R':=by
 induction l with
 |nil=>cases h
 |cons p l ih=>
  obtain⟨i,R'⟩:=p
  rw[dg]
  rcases List.mem_cons.1 h with e|e
  ·cases e
   cases q:dg l j with
   |some R2=>exact⟨R2,rfl⟩
   |none=>exact⟨R,by simp⟩
  ·obtain⟨R2,h2⟩:=ih e
   exact⟨R2,by rw[h2]⟩
section swap
variable {C:Ctx}{S:AS}
theorem az.ZT{E:Env}{a:Act}{w w':World}(h:az C S E a w){i:Nat}{T:TypeId}{cells cells':List AV}{us':List Value}{M':Mem}(hB:S.b i=some ⟨T,cells⟩)(olds:List Nat)(news:List (Nat×Row×Value))
  (hold:∀j∈olds,∃R,S.r j=.live R) (hnew:∀k R v,(k,R,v)∈news→S.r k=.un∧k<1000) (hnd:(news.map (·.1)).Nodup)
  (hM:E.M.le M') (hmn:∀b o x,M' b o=some x→E.M b o=some x∨w.heap.size≤b∨∃j∈olds,(E.ν j).ownBlock=some b) (hin:M'.cH w')
  (ad9:w'.heap[E.β i]? =some (.cells ⟨us'⟩ T (0,0))) (hnb:∀o,M' (E.β i) o=none) (we:cI {E with M:=M',ν:=kL news E.ν} cells' us')
  (hcb:∀x∈cells',(∀j,¬x.mb j)∧∀j,x.mr j→∃R v,(j,R,v)∈news)
  (hrow:∀k R v,(k,R,v)∈news→(∃vs:List Value,w'.ownsRow 0 R.E R.sz v R.n vs∧SV.dO M' R.cells vs)∧∀g,v.ownBlock=some g→((∃j∈olds,(E.ν j).ownBlock=some g)∨w.heap.size≤g)∧(∀o,M' g o=none)∧g≠E.β i)
  (ZU:∀k R v k' R' v' g,(k,R,v)∈news→(k',R',v')∈news→v.ownBlock=some g→v'.ownBlock=some g→k=k')
  (hos:w'.os=w.os) (qG:w'.tape=w.tape) (hout:w'.output=w.output) (hsize:w.heap.size≤w'.heap.size)
  (kI:∀k,k<w.heap.size→k≠E.β i→(∀j∈olds,(E.ν j).ownBlock≠some k)→w'.heap[k]? =w.heap[k]?):
  az C (AS.bu (xJ olds news) (AS.eY [(i,⟨T,cells'⟩)] S)) {E with M:=M',ν:=kL news E.ν} a w':=by
 obtain⟨Ln,aea,QY,LX,Lo,_⟩:=h.bx i _ hB
 have ahw:E.β i<w.heap.size:=(Array.getElem?_eq_some_iff.1 Lo).1
 obtain⟨n1,n2,n3,n4,n5⟩:=eE (xJ olds news) (AS.eY [(i,⟨T,cells'⟩)] S)
 have tOf:(AS.bu (xJ olds news) (AS.eY [(i,⟨T,cells'⟩)] S)).t=S.t:=n2
 have zQ:∀j,(AS.bu (xJ olds news) (AS.eY [(i,⟨T,cells'⟩)] S)).b j=if j=i then some ⟨T,cells'⟩else S.b j:=fun j=>by
  rw[n3]
  by_cases e:j=i
  ·subst e;rw[if_pos rfl];exact AS.cu _ _ _
  ·rw[if_neg e];exact AS.bh _ _ _ _ e
 have ZV:∀k R v,(k,R,v)∈news→dg (news.map (fun n=>(n.1,kV.live n.2.1))) k=some (.live R):=fun k R v hm=>by
  obtain⟨R',oe⟩:=Cd (l:=news.map (fun n=>(n.1,kV.live n.2.1))) (j:=k) (R:=.live R) (List.mem_map.2 ⟨(k,R,v),hm,rfl⟩)
  obtain⟨⟨k2,R2,v2⟩,Md,e⟩:=List.mem_map.1 (wM oe)
  have e1:k2=k:=congrArg Prod.fst e
  have e2:kV.live R2=R':=congrArg Prod.snd e
  rw[e1]at Md
  have:R2=R:=by
   have key:∀(l:List (Nat×Row×Value)),(l.map (·.1)).Nodup→(k,R2,v2)∈l→(k,R,v)∈l→R2=R:=by
    intro l
    induction l with
    |nil=>intro _ h;cases h
    |cons p l ih=>
     intro hn h1 h2
     rw[List.map_cons,List.nodup_cons]at hn
     rcases List.mem_cons.1 h1 with e1|e1<;>rcases List.mem_cons.1 h2 with e2|e2
     ·rw[←e1]at e2;cases e2;rfl
     ·exact absurd (List.mem_map.2 ⟨_,e2,by rw[←e1]⟩) hn.1
     ·exact absurd (List.mem_map.2 ⟨_,e1,by rw[←e2]⟩) hn.1
     ·exact ih hn.2 e1 e2
   exact key news hnd Md hm
  rw[oe,←e2,this]
 have ZW:∀k R v,(k,R,v)∈news→(AS.bu (xJ olds news) (AS.eY [(i,⟨T,cells'⟩)] S)).r k=.live R:=fun k R v hm=>by
  rw[kz,xJ,r5,ZV k R v hm];rfl
 have ZX:∀j,(∀R v,(j,R,v)∉news)→(AS.bu (xJ olds news) (AS.eY [(i,⟨T,cells'⟩)] S)).r j=if j∈olds then .dead else S.r j:=fun j hn=>by
  have e1:dg (news.map (fun n=>(n.1,kV.live n.2.1))) j=none:=wL (fun R hm=>by
   obtain⟨⟨k2,R2,v2⟩,Md,e⟩:=List.mem_map.1 hm
   cases e;exact hn R2 v2 Md)
  rw[kz,xJ,r5,e1]
  by_cases ho:j∈olds
  ·rw[if_pos ho]
   obtain⟨R',oe⟩:=Cd (l:=olds.map (fun j=>(j,kV.dead))) (j:=j) (R:=.dead) (List.mem_map.2 ⟨j,ho,rfl⟩)
   obtain⟨j2,_,e⟩:=List.mem_map.1 (wM oe)
   cases e
   rw[oe];rfl
  ·rw[if_neg ho,wL (fun R hm=>by obtain⟨j2,Md,e⟩:=List.mem_map.1 hm;cases e;exact ho Md)];rfl
 have Og:∀j,S.r j≠ .un→∀R v,(j,R,v)∉news:=fun j hj R v hm=>hj (hnew j R v hm).1
 have rne:∀j,S.r j≠ .un→(AS.bu (xJ olds news) (AS.eY [(i,⟨T,cells'⟩)] S)).r j≠ .un:=fun j hj=>by
  rw[ZX j (Og j hj)]
  split
  ·simp
  ·exact hj
 have yW:∀j∈olds,∀g,(E.ν j).ownBlock=some g→(C.w0.heap.size≤g∨C.uO g)∧(∀o,E.M g o=none)∧¬E.O g∧(∀n B,S.b n=some B→E.β n≠g)∧g<w.heap.size∧∃c e,w.heap[g]? =some (Obj.cells c e (0,0)):=fun j hj g hg=>by
  obtain⟨R,hR⟩:=hold j hj
  obtain⟨⟨us,q1,_⟩,q2⟩:=h.rx j R hR
  obtain⟨q3,q4,q5,q6⟩:=q2 g hg
  refine⟨q3,q4,q5,q6,ju h hR hg,?_⟩
  rcases q1.2 with⟨q7,_⟩|⟨g',cap,cur,q7,_,q8,_⟩
  ·rw[q7]at hg;cases hg
  ·rw[q7]at hg;cases hg;exact⟨_,_,q8⟩
 have keep:∀x:AV,(∀j,x.mr j→S.r j≠ .un)→∀v,x.holds E v→x.holds {E with M:=M',ν:=kL news E.ν} v:=fun x hx v hv=>
  AV.b9 (E:=E) (E':={E with M:=M',ν:=kL news E.ν}) hM (fun _ _=>rfl) (fun j hj=>nA (Og j (hx j hj))) hv
 have WD:∀b,b<w.heap.size→(∀o,E.M b o=none)→(∀j∈olds,(E.ν j).ownBlock≠some b)→∀o,M' b o=none:=fun b h1 h2 h3 o=>by
  cases e:M' b o with
  |none=>rfl
  |some v=>
   rcases hmn b o v e with q|q|⟨j,q1,q2⟩
   ·rw[h2 o]at q;cases q
   ·omega
   ·exact absurd q2 (h3 j q1)
 have live:∀j R,(AS.bu (xJ olds news) (AS.eY [(i,⟨T,cells'⟩)] S)).r j=.live R→(∃v,(j,R,v)∈news)∨((∀R v,(j,R,v)∉news)∧j∉olds∧S.r j=.live R):=fun j R hj=>by
  by_cases hn:∃R v,(j,R,v)∈news
  ·obtain⟨R',v,hm⟩:=hn
   rw[ZW j R' v hm]at hj;cases hj;exact .inl ⟨v,hm⟩
  ·have hn:∀R v,(j,R,v)∉news:=fun R v hm=>hn ⟨R,v,hm⟩
   rw[ZX j hn]at hj
   by_cases ho:j∈olds
   ·rw[if_pos ho]at hj;cases hj
   ·rw[if_neg ho]at hj;exact .inr ⟨hn,ho,hj⟩
 have ZY:∀j R,S.r j=.live R→j∉olds→∀g,(E.ν j).ownBlock=some g→∀j'∈olds,(E.ν j').ownBlock≠some g:=fun j R hR ho g hg j' hj' e=>by
  obtain⟨R',oe⟩:=hold j' hj'
  have:=h.eX j j' R R' hR oe g hg e
  subst this;exact ho hj'
 exact{
  wf:=by
   refine⟨fun s j hj=>?_,fun s j hj=>?_,fun j B e5 x hx m hm=>?_,fun j B e5 x hx m hm=>?_⟩
   ·rw[tOf]at hj
    obtain⟨B,e5⟩:=h.wf.tb s j hj
    rw[zQ]
    by_cases e:j=i
    ·exact⟨_,if_pos e⟩
    ·exact⟨B,by rw[if_neg e];exact e5⟩
   ·rw[tOf]at hj
    exact rne j (h.wf.tr s j hj)
   ·rw[zQ]at e5⊢
    by_cases e:j=i
    ·rw[if_pos e]at e5;cases e5;exact absurd hm ((hcb x hx).1 m)
    ·rw[if_neg e]at e5
     obtain⟨B2,hB2⟩:=h.wf.bb j B e5 x hx m hm
     by_cases e2:m=i
     ·exact⟨_,if_pos e2⟩
     ·exact⟨B2,by rw[if_neg e2];exact hB2⟩
   ·rw[zQ]at e5
    by_cases e:j=i
    ·rw[if_pos e]at e5;cases e5
     obtain⟨R,v,Md⟩:=(hcb x hx).2 m hm
     rw[ZW m R v Md];simp
    ·rw[if_neg e]at e5;exact rne m (h.wf.br j B e5 x hx m hm)
  marks:=by
   obtain⟨ds,d1,d2,d3⟩:=h.marks
   refine⟨ds,d1,d2,fun r hr=>?_⟩
   obtain⟨p1,p2,p3⟩:=d3 r hr
   refine⟨p1,p2,?_⟩
   rw[kI r (Array.getElem?_eq_some_iff.1 p3).1 (fun e=>by rw[e,Lo]at p3;cases p3) (fun j hj e=>by
    obtain⟨_,_,_,_,_,c,e2,q⟩:=yW j hj r e
    rw[q]at p3;cases p3)]
   exact p3
  size:=by rw[n1];exact h.size
  os:=hos.trans h.os
  tape:=qG.trans h.tape
  output:=hout.trans h.output
  grown:=Nat.le_trans h.grown hsize
  frame:=fun k hk hown=>by
   rw[kI k (Nat.lt_of_lt_of_le hk h.grown) (fun e=>by
    rcases Ln with q|q
    ·omega
    ·exact hown (C.C1 _ (by rw[e];exact q))) (fun j hj e=>by
    rcases(yW j hj k e).1 with q|q
    ·omega
    ·exact hown (C.C1 _ q))]
   exact h.frame k hk hown
  m0:=Mem.le_trans h.m0 hM
  ep:=fun b o v e=>by
   rcases hmn b o v e with q|q|⟨j,q1,q2⟩
   ·exact h.ep b o v q
   ·exact .inr (.inl (Nat.le_trans h.grown q))
   ·rcases(yW j q1 b q2).1 with q|q
    ·exact .inr (.inl q)
    ·exact .inr (.inr (C.C1 _ q))
  cH:=hin
  tm:=fun s=>by rw[tOf];exact keep _ (h.wf.tr s) _ (h.tm s)
  bx:=fun j B e5=>by
   rw[zQ]at e5
   by_cases e:j=i
   ·rw[if_pos e]at e5;cases e5;subst e
    exact⟨Ln,hnb,QY,us',ad9,we⟩
   ·rw[if_neg e]at e5
    obtain⟨p1,p2,p3,vs,p4,p5⟩:=h.bx j B e5
    have hlt:=(Array.getElem?_eq_some_iff.1 p4).1
    have hno:∀j'∈olds,(E.ν j').ownBlock≠some (E.β j):=fun j' hj' q=>(yW j' hj' _ q).2.2.2.1 j B e5 rfl
    refine⟨p1,WD _ hlt p2 hno,p3,vs,?_,p5.imp (fun x hx v hv=>keep x (h.wf.br j B e5 x hx) v hv)⟩
    show w'.heap[E.β j]? =_
    rw[kI _ hlt (fun q=>e (h.inj j i B _ e5 hB q)) hno];exact p4
  inj:=fun j j' B B' h1 h2 e=>by
   have key:∀n B,(AS.bu (xJ olds news) (AS.eY [(i,⟨T,cells'⟩)] S)).b n=some B→∃B',S.b n=some B':=fun n B hn=>by
    rw[zQ]at hn
    by_cases e:n=i
    ·subst e;exact⟨_,hB⟩
    ·rw[if_neg e]at hn;exact⟨B,hn⟩
   obtain⟨B1,p1⟩:=key j B h1
   obtain⟨B2,p2⟩:=key j' B' h2
   exact h.inj j j' B1 B2 p1 p2 e
  rx:=fun j R hj=>by
   have boxes:∀g,(∀n B,S.b n=some B→E.β n≠g)→∀n B,(AS.bu (xJ olds news) (AS.eY [(i,⟨T,cells'⟩)] S)).b n=some B→E.β n≠g:=fun g hg n B hn=>by
    rw[zQ]at hn
    by_cases e:n=i
    ·subst e;exact hg _ _ hB
    ·rw[if_neg e]at hn;exact hg n B hn
   rcases live j R hj with⟨v,hm⟩|⟨hn,ho,hR⟩
   ·rw[show({E with M:=M',ν:=kL news E.ν}:Env).ν j=v from iQ hnd hm]
    obtain⟨p1,p2⟩:=hrow j R v hm
    refine⟨p1,fun g hg=>?_⟩
    obtain⟨p3,p4,p5⟩:=p2 g hg
    rcases p3 with⟨j',q1,q2⟩|p3
    ·obtain⟨o1,o2,o3,o4,_⟩:=yW j' q1 g q2
     exact⟨o1,p4,o3,boxes g o4⟩
    ·refine⟨.inl (Nat.le_trans h.grown p3),p4,fun q=>?_,boxes g (fun n B hn q=>?_)⟩
     ·have:=(h.kN g q).1;omega
     ·obtain⟨_,_,_,vs,q4,_⟩:=h.bx n B hn
      have:=(Array.getElem?_eq_some_iff.1 q4).1
      omega
   ·rw[show({E with M:=M',ν:=kL news E.ν}:Env).ν j=E.ν j from nA hn]
    obtain⟨⟨us,p1,p2⟩,p3⟩:=h.rx j R hR
    refine⟨⟨us,cP p1 fun g hg=>kI g (ju h hR hg) (fun e=>(p3 g hg).2.2.2 i _ hB e.symm) (ZY j R hR ho g hg),p2.mono hM⟩,fun g hg=>?_⟩
    obtain⟨p4,p5,p6,p7⟩:=p3 g hg
    exact⟨p4,WD g (ju h hR hg) p5 (ZY j R hR ho g hg),p6,boxes g p7⟩
  eX:=fun j j' R R' h1 h2 g e1 e2=>by
   have mixed:∀j R v j' R' g,(j,R,v)∈news→S.r j'=.live R'→j'∉olds→v.ownBlock=some g→(E.ν j').ownBlock=some g→False:=fun j R v j' R' g hm oe ho e1 e2=>by
    rcases((hrow j R v hm).2 g e1).1 with⟨j2,q1,q2⟩|q
    ·exact ZY j' R' oe ho g e2 j2 q1 q2
    ·have:=ju h oe e2;omega
   rcases live j R h1 with⟨v,hm⟩|⟨hn,ho,hR⟩<;>rcases live j' R' h2 with⟨v',hm'⟩|⟨hn',ho',oe⟩
   ·rw[show({E with M:=M',ν:=kL news E.ν}:Env).ν j=v from iQ hnd hm]at e1
    rw[show({E with M:=M',ν:=kL news E.ν}:Env).ν j'=v' from iQ hnd hm']at e2
    exact ZU j R v j' R' v' g hm hm' e1 e2
   ·rw[show({E with M:=M',ν:=kL news E.ν}:Env).ν j=v from iQ hnd hm]at e1
    rw[show({E with M:=M',ν:=kL news E.ν}:Env).ν j'=E.ν j' from nA hn']at e2
    exact(mixed j R v j' R' g hm oe ho' e1 e2).elim
   ·rw[show({E with M:=M',ν:=kL news E.ν}:Env).ν j=E.ν j from nA hn]at e1
    rw[show({E with M:=M',ν:=kL news E.ν}:Env).ν j'=v' from iQ hnd hm']at e2
    exact(mixed j' R' v' j R g hm' hR ho e2 e1).elim
   ·rw[show({E with M:=M',ν:=kL news E.ν}:Env).ν j=E.ν j from nA hn]at e1
    rw[show({E with M:=M',ν:=kL news E.ν}:Env).ν j'=E.ν j' from nA hn']at e2
    exact h.eX j j' R R' hR oe g e1 e2
  gL:=h.gL
  dP:=fun k v e=>by
   rw[show({E with M:=M',ν:=kL news E.ν}:Env).ν k=E.ν k from nA (fun R v hm=>by have:=(hnew k R v hm).2;have:=C.KP k _ e;omega)]
   exact h.dP k v e
  kN:=fun b hb=>by
   obtain⟨p1,p2,p3⟩:=h.kN b hb
   exact⟨Nat.lt_of_lt_of_le p1 hsize,WD b p1 p2 (fun j hj e=>(yW j hj b e).2.2.1 hb),p3⟩
  jj:=by
   have hj:=C.jf S.g S.go E.O E.M M' w w' h.jj hM hin (fun b o v e=>by
    rcases hmn b o v e with q|q|⟨j,q1,q2⟩
    ·exact .inl q
    ·exact .inr ⟨.inl (Nat.le_trans h.grown q),fun q2=>by have:=(h.kN b q2).1;omega⟩
    ·obtain⟨o1,_,o3,_⟩:=yW j q1 b q2
     exact .inr ⟨o1,o3⟩) (fun b hb=>by
    have hlt:b<w.heap.size∨w.heap.size≤b:=Nat.lt_or_ge _ _
    have hb':b<w.heap.size:=by
     rcases hb with⟨q,_⟩|q
     ·exact Nat.lt_of_lt_of_le q h.grown
     ·exact(h.kN b q).1
    refine kI b hb' (fun e=>?_) (fun j hj e=>?_)
    ·subst e
     rcases hb with⟨q1,q2⟩|q
     ·rcases Ln with p|p
      ·omega
      ·exact q2 p
     ·exact QY q
    ·obtain⟨o1,_,o3,_⟩:=yW j hj b e
     rcases hb with⟨q1,q2⟩|q
     ·rcases o1 with p|p
      ·omega
      ·exact q2 p
     ·exact o3 q) hos qG hout hsize
   rw[n4,n5];exact hj}
end swap
end Go.Fw
namespace Go.Fw
open Go.RowKit
inductive Oc where
 |s (x:SV)
 |r (R:Row)
def oN(M:Mem)(w:World):List Oc→List Value→Prop
 |[],[]=>True
 |.s x::l,v::vs=>x.h M v∧oN M w l vs
 |.r R::l,v::vs=>(∃us:List Value,w.ownsRow 0 R.E R.sz v R.n us∧SV.dO M R.cells us)∧oN M w l vs
 |_,_=>False
def rowsOf:List Oc→List Row
 |[]=>[]
 |.s _::l=>rowsOf l
 |.r R::l=>R::rowsOf l
def bt:List Oc→List Value→List (Row×Value)
 |.s _::l,_::vs=>bt l vs
 |.r R::l,v::vs=>(R,v)::bt l vs
 |_,_=>[]
def dR(c:List Oc)(us:List Value)(g:Nat):Prop:=∃p∈bt c us,p.2.ownBlock=some g
def bK:List Nat→List Oc→List AV
 |ids,.s x::l=>.sv x::bK ids l
 |i::ids,.r _::l=>.row i::bK ids l
 |[],.r _::l=>.sv .any::bK [] l
 |_,[]=>[]
def Hi(l:List (Row×Value)):Prop:=l.Pairwise fun p q=>∀g,p.2.ownBlock=some g→q.2.ownBlock≠some g
structure pR (M:Mem) (w:World) (β:Nat) (T:TypeId) (c:List Oc) (us:List Value):Prop where
 hp:w.heap[β]? =some (.cells ⟨us⟩ T (0,0))
 al:oN M w c us
 nb:∀o,M β o=none
 nr:∀g,dR c us g→g≠β∧∀o,M g o=none
 ap:Hi (bt c us)
theorem iA{M:Mem}{w:World}:∀{c:List Oc} {us:List Value},oN M w c us→(bt c us).map (·.1)=rowsOf c
 |[],[],_=>rfl
 |.s _::l,_::vs,h=>iA (c:=l) (us:=vs) h.2
 |.r R::l,v::vs,h=>congrArg (R:: ·) (iA (c:=l) (us:=vs) h.2)
 |[],_::_,h=>h.elim
 |.s _::_,[],h=>h.elim
 |.r _::_,[],h=>h.elim
theorem kM{M:Mem}{w:World}:∀{c:List Oc} {us:List Value},oN M w c us→∀p∈bt c us,∃vs:List Value,w.ownsRow 0 p.1.E p.1.sz p.2 p.1.n vs∧SV.dO M p.1.cells vs
 |[],[],_,p,hp=>by cases hp
 |.s _::l,_::vs,h,p,hp=>kM (c:=l) (us:=vs) h.2 p hp
 |.r R::l,v::vs,h,p,hp=>by
  rcases List.mem_cons.1 hp with rfl|hp
  ·exact h.1
  ·exact kM (c:=l) (us:=vs) h.2 p hp
 |[],_::_,h,_,_=>h.elim
 |.s _::_,[],h,_,_=>h.elim
 |.r _::_,[],h,_,_=>h.elim
theorem jq{α β:Type}:∀{l:List α} {k:List β} {a:α} {b:β},(a,b)∈l.zip k→a∈l∧b∈k
 |_::_,_::_,_,_,h=>by
  rw[List.zip_cons_cons]at h
  rcases List.mem_cons.1 h with e|e
  ·cases e;simp
  ·have:=jq e;exact⟨List.mem_cons_of_mem _ this.1,List.mem_cons_of_mem _ this.2⟩
 |[],_,_,_,h=>by simp at h
 |_::_,[],_,_,h=>by simp at h
theorem AB{α β:Type}:∀{l:List α} {k:List β},l.length=k.length→(l.zip k).map (·.1)=l
 |[],[],_=>rfl
 |_::l,_::k,h=>by rw[List.zip_cons_cons,List.map_cons,AB (by simpa using h)]
 |[],_::_,h=>by simp at h
 |_::_,[],h=>by simp at h
theorem yX:∀{ids:List Nat} {l:List (Row×Value)},ids.Nodup→Hi l→∀k R v k' R' v' g,(k,R,v)∈ids.zip l→(k',R',v')∈ids.zip l→v.ownBlock=some g→v'.ownBlock=some g→k=k'
 |i::ids,p::l,hn,ha,k,R,v,k',R',v',g,h1,h2,e1,e2=>by
  rw[List.zip_cons_cons]at h1 h2
  rw[List.nodup_cons]at hn
  obtain⟨ha1,ha2⟩:=List.pairwise_cons.1 ha
  rcases List.mem_cons.1 h1 with q1|q1<;>rcases List.mem_cons.1 h2 with q2|q2
  ·cases q1;cases q2;rfl
  ·cases q1;exact absurd e2 (ha1 (R',v') (jq q2).2 g e1)
  ·cases q2;exact absurd e1 (ha1 (R,v) (jq q1).2 g e2)
  ·exact yX hn.2 ha2 k R v k' R' v' g q1 q2 e1 e2
 |[],_,_,_,_,_,_,_,_,_,_,h1,_,_,_=>by simp at h1
 |_::_,[],_,_,_,_,_,_,_,_,_,h1,_,_,_=>by simp at h1
theorem oO{E:Env}{w:World}:∀{ids:List Nat} {c:List Oc} {us:List Value},ids.length=(rowsOf c).length→oN E.M w c us→(∀i p,(i,p)∈ids.zip (bt c us)→E.ν i=p.2)→cI E (bK ids c) us
 |ids,[],[],_,_,_=>by cases ids<;>exact trivial
 |ids,.s x::l,v::vs,hl,h,hv=>by
  have ih:=oO (E:=E) (w:=w) (ids:=ids) (c:=l) (us:=vs) hl h.2 hv
  cases ids<;>exact⟨h.1,ih⟩
 |i::ids,.r R::l,v::vs,hl,h,hv=>by
  refine⟨(hv i (R,v) (by rw[bt,List.zip_cons_cons];simp)).symm,oO (w:=w) (ids:=ids) (c:=l) (us:=vs) (by simpa[rowsOf]using hl) h.2 (fun j p hm=>hv j p ?_)⟩
  rw[bt,List.zip_cons_cons];exact List.mem_cons_of_mem _ hm
 |[],.r R::l,_::_,hl,_,_=>by simp[rowsOf]at hl
 |_,[],_::_,_,h,_=>h.elim
 |_,.s _::_,[],_,h,_=>h.elim
 |_,.r _::_,[],_,h,_=>h.elim
theorem oP:∀{ids:List Nat} {c:List Oc} (x:AV),x∈bK ids c→(∀j,¬x.mb j)∧∀j,x.mr j→j∈ids
 |ids,[],x,h=>by cases ids<;>simp[bK]at h
 |ids,.s y::l,x,h=>by
  have h':x∈AV.sv y::bK ids l:=by cases ids<;>exact h
  rcases List.mem_cons.1 h' with rfl|h'
  ·exact⟨fun j e=>e,fun j e=>e.elim⟩
  ·exact oP x h'
 |i::ids,.r _::l,x,h=>by
  rcases List.mem_cons.1 (show x∈AV.row i::bK ids l from h)with rfl|h'
  ·exact⟨fun j e=>e,fun j e=>by cases e;simp⟩
  ·obtain⟨h1,h2⟩:=oP x h'
   exact⟨h1,fun j e=>List.mem_cons_of_mem _ (h2 j e)⟩
 |[],.r _::l,x,h=>by
  rcases List.mem_cons.1 (show x∈AV.sv .any::bK [] l from h)with rfl|h'
  ·exact⟨fun j e=>e,fun j e=>e.elim⟩
  ·exact oP x h'
def Lv(S:AS):List Nat→List Row→Prop
 |[],[]=>True
 |j::js,R::Rs=>S.r j=.live R∧Lv S js Rs
 |_,_=>False
theorem Lv.len{S:AS}:∀{js:List Nat} {Rs:List Row},Lv S js Rs→js.length=Rs.length
 |[],[],_=>rfl
 |_::_,_::_,h=>congrArg (· +1) (Lv.len h.2)
 |[],_::_,h=>h.elim
 |_::_,[],h=>h.elim
theorem Lv.mem{S:AS}:∀{js:List Nat} {Rs:List Row},Lv S js Rs→∀j∈js,∃R,S.r j=.live R
 |j::js,R::Rs,h,k,hk=>by
  rcases List.mem_cons.1 hk with rfl|hk
  ·exact⟨R,h.1⟩
  ·exact Lv.mem h.2 k hk
 |[],_,_,k,hk=>by cases hk
 |_::_,[],h,_,_=>h.elim
theorem um{C:Ctx}{S:AS}{E:Env}{a:Act}{w:World}(h:az C S E a w):∀{js:List Nat} {c:List Oc} {us:List Value},Lv S js (rowsOf c)→cI E (bK js c) us→oN E.M w c us∧bt c us=(rowsOf c).zip (js.map E.ν)
 |[],[],[],_,_=>⟨trivial,rfl⟩
 |js,.s x::l,v::vs,hL,hv=>by
  have vk:cI E (AV.sv x::bK js l) (v::vs):=by cases js<;>exact hv
  obtain⟨h1,h2⟩:=um h (js:=js) (c:=l) (us:=vs) hL vk.2
  exact⟨⟨vk.1,h1⟩,h2⟩
 |j::js,.r R::l,v::vs,hL,hv=>by
  have hL:S.r j=.live R∧Lv S js (rowsOf l):=hL
  have vk:cI E (AV.row j::bK js l) (v::vs):=hv
  obtain⟨h1,h2⟩:=um h (js:=js) (c:=l) (us:=vs) hL.2 vk.2
  have e:v=E.ν j:=vk.1
  obtain⟨q1,_⟩:=h.rx j R hL.1
  rw[←e]at q1
  refine⟨⟨q1,h1⟩,?_⟩
  rw[bt,h2,e];rfl
 |[],.r _::_,_,hL,_=>hL.elim
 |_::_,[],_,hL,_=>hL.elim
 |[],[],_::_,_,hv=>by simp[bK]at hv;exact hv.elim
 |js,.s x::l,[],_,hv=>by
  have vk:cI E (AV.sv x::bK js l) []:=by cases js<;>exact hv
  exact vk.elim
 |_::_,.r _::_,[],_,hv=>hv.elim
theorem uo{α β:Type}:∀{l:List α} {k:List β} {b:β},l.length=k.length→b∈k→∃a,(a,b)∈l.zip k
 |a::l,c::k,b,h,hb=>by
  rcases List.mem_cons.1 hb with rfl|hb
  ·exact⟨a,by rw[List.zip_cons_cons];simp⟩
  ·obtain⟨a',h'⟩:=uo (l:=l) (k:=k) (by simpa using h) hb
   exact⟨a',by rw[List.zip_cons_cons];exact List.mem_cons_of_mem _ h'⟩
 |[],[],_,_,hb=>by cases hb
 |[],_::_,_,h,_=>by simp at h
theorem qH{C:Ctx}{S:AS}{E:Env}{a:Act}{w:World}(h:az C S E a w){i:Nat}{T:TypeId}{js:List Nat}{c:List Oc}(hB:S.b i=some ⟨T,bK js c⟩)(hL:Lv S js (rowsOf c))(hn:js.Nodup):
  ∃us,pR E.M w (E.β i) T c us∧(∀g,dR c us g↔∃j∈js,(E.ν j).ownBlock=some g):=by
 obtain⟨_,q1,_,us,q2,q3⟩:=h.bx i _ hB
 obtain⟨p1,p2⟩:=um h hL q3
 have hlen:=hL.len
 have EK:∀g,dR c us g↔∃j∈js,(E.ν j).ownBlock=some g:=fun g=>by
  unfold dR
  rw[p2]
  constructor
  ·rintro⟨⟨R,v⟩,hm,hg⟩
   obtain⟨j,hj,rfl⟩:=List.mem_map.1 (jq hm).2
   exact⟨j,hj,hg⟩
  ·rintro⟨j,hj,hg⟩
   obtain⟨R,hR⟩:=uo (l:=rowsOf c) (k:=js.map E.ν) (by simp[hlen]) (List.mem_map.2 ⟨j,hj,rfl⟩)
   exact⟨(R,E.ν j),hR,hg⟩
 refine⟨us,⟨q2,p1,q1,fun g hg=>?_,?_⟩,EK⟩
 ·obtain⟨j,hj,zy⟩:=(EK g).1 hg
  obtain⟨R,hR⟩:=hL.mem j hj
  obtain⟨_,q4⟩:=h.rx j R hR
  obtain⟨_,q5,_,q6⟩:=q4 g zy
  exact⟨fun e=>q6 i _ hB e.symm,q5⟩
 ·rw[p2]
  have key:∀(js:List Nat) (Rs:List Row),Lv S js Rs→js.Nodup→Hi (Rs.zip (js.map E.ν)):=by
   intro js
   induction js with
   |nil=>intro Rs hL _;cases Rs with|nil=>exact List.Pairwise.nil|cons _ _=>exact hL.elim
   |cons j js ih=>
    intro Rs hL hn
    cases Rs with
    |nil=>exact hL.elim
    |cons R Rs=>
     rw[List.nodup_cons]at hn
     rw[List.map_cons,List.zip_cons_cons]
     refine List.pairwise_cons.2 ⟨fun p hp g e1 e2=>?_,ih Rs hL.2 hn.2⟩
     obtain⟨R',v'⟩:=p
     obtain⟨j',hj',rfl⟩:=List.mem_map.1 (jq hp).2
     obtain⟨R2,hR2⟩:=hL.2.mem j' hj'
     have:=h.eX j j' R R2 hL.1 hR2 g e1 e2
     subst this;exact hn.1 hj'
  exact key js _ hL hn
def oQ(M:Mem)(β:Nat):Env:=⟨fun _=>β,fun _=>.nilIface,fun _=>False,M⟩
def Fc.oy:Fc→Bool
 |.val _=>true
 |.box i=>Nat.beq i 1000
 |.row _=>false
def AV.oy:AV→Bool
 |.sv _=>true
 |.ptr i _=>Nat.beq i 1000
 |.cmp _ js=>js.all Fc.oy
 |_=>false
def Fc.Tp(i:Nat):Fc→Fc
 |.box _=>.box i
 |c=>c
def AV.Tp(i:Nat):AV→AV
 |.ptr _ o=>.ptr i o
 |.cmp t js=>.cmp t (js.map (Fc.Tp i))
 |x=>x
theorem Lp{E:Env}{i:Nat}{x:AV}{v:Value}(hx:x.oy=true)(h:(x.Tp i).holds E v):x.holds (oQ E.M (E.β i)) v:=by
 cases x with
 |sv s=>exact h
 |ptr k o=>exact h
 |cmp t js=>
  obtain⟨vs,rfl,h⟩:=h
  refine⟨vs,rfl,?_⟩
  have key:∀(l:List Fc) (vs:List Value),(l.all Fc.oy)=true→xh E (l.map (Fc.Tp i)) vs→xh (oQ E.M (E.β i)) l vs:=by
   intro l
   induction l with
   |nil=>intro vs _ h;cases vs with|nil=>trivial|cons _ _=>exact h.elim
   |cons c l ih=>
    intro vs ho h
    rw[List.all_cons,Bool.and_eq_true]at ho
    cases vs with
    |nil=>exact h.elim
    |cons u vs=>
     refine⟨?_,ih vs ho.2 h.2⟩
     cases c with
     |val s=>exact h.1
     |box k=>exact h.1
     |row k=>exact(Bool.false_ne_true ho.1).elim
  exact key js vs hx h
 |_=>exact(Bool.false_ne_true hx).elim
theorem AD{E:Env}{i:Nat}:∀{l:List AV} {vs:List Value},(l.all AV.oy)=true→cI E (l.map (AV.Tp i)) vs→cI (oQ E.M (E.β i)) l vs
 |[],[],_,_=>trivial
 |x::l,v::vs,h,hv=>by
  rw[List.all_cons,Bool.and_eq_true]at h
  exact⟨Lp h.1 hv.1,AD h.2 hv.2⟩
 |[],_::_,_,h=>h.elim
 |_::_,[],_,h=>h.elim
def QZ(P:Program)(f:FuncId)(args:List AV)(T:TypeId)(c0:List Oc)(res:SV)(c1:List Oc):Prop:=
 ∀(M:Mem) (w:World) (β:Nat) (vs us:List Value),M.cH w→pR M w β T c0 us→cI (oQ M β) args vs→
  Calls P f ⟨vs⟩ w fun e w'=>∃v M' us',e=.returned v∧M.le M'∧(∀b o x,M' b o=some x→M b o=some x∨w.heap.size≤b∨dR c0 us b)∧M'.cH w'∧res.h M' v∧
   pR M' w' β T c1 us'∧(∀g,dR c1 us' g→dR c0 us g∨w.heap.size≤g)∧w'.os=w.os∧w'.tape=w.tape∧w'.output=w.output∧w.heap.size≤w'.heap.size∧
   ∀k,k<w.heap.size→k≠β→¬dR c0 us k→w'.heap[k]? =w.heap[k]?
def WE(w:World)(M:Mem)(β:Nat)(c:List Oc)(us:List Value):Ctx:={w0:=w,M0:=M,own:=fun k=>k=β∨dR c us k,uO:=fun k=>k=β∨dR c us k,gL:=fun i=>bif Nat.beq i 1000 then some β else none,dP:=fun _=>none,ro:=none,J:=fun _ _ _ _ _=>True,C1:=fun _ h=>h,KP:=fun _ _ h=>(by cases h),jf:=fun _ _ _ _ _ _ _ _ _ _ _ _ _ _ _ _=>trivial}
theorem xK{M:Mem}{w:World}:∀{ids:List Nat} {c:List Oc} {us:List Value},oN M w c us→∀{i:Nat} {R:Row},(i,R)∈ids.zip (rowsOf c)→∃v,(i,R,v)∈ids.zip (bt c us)
 |ids,.s x::l,v::vs,h,i,R,hm=>by
  have hm':(i,R)∈ids.zip (rowsOf l):=hm
  exact xK (c:=l) (us:=vs) h.2 hm'
 |k::ids,.r R'::l,v::vs,h,i,R,hm=>by
  have hm':(i,R)∈(k,R')::ids.zip (rowsOf l):=hm
  rw[bt,List.zip_cons_cons]
  rcases List.mem_cons.1 hm' with e|e
  ·cases e;exact⟨v,by simp⟩
  ·obtain⟨v',h'⟩:=xK (ids:=ids) (c:=l) (us:=vs) h.2 e
   exact⟨v',List.mem_cons_of_mem _ h'⟩
 |[],.r _::_,_::_,_,_,_,hm=>by simp at hm
 |_,[],[],_,_,_,hm=>by simp[rowsOf]at hm
 |_,[],_::_,h,_,_,_=>h.elim
 |_,.s _::_,[],h,_,_,_=>h.elim
 |_,.r _::_,[],h,_,_,_=>h.elim
theorem JW{n:Nat}{args:List AV}{T:TypeId}{c:List Oc}{M:Mem}{w:World}{β:Nat}{vs us:List Value}(ids:List Nat)(hM:M.cH w)(ho:pR M w β T c us)(hv:cI (oQ M β) args vs)(JX:args.all AV.oy=true)(hn:args.length≤n)(C4:ids.Nodup)(Tq:ids.length=(rowsOf c).length):
  az (WE w M β c us) (AS.CY n args [(1000,⟨T,bK ids c⟩)] (ids.zip (rowsOf c))) ⟨fun _=>β,kL (ids.zip (bt c us)) (fun _=>.nilIface),fun _=>False,M⟩ {tmps:=⟨vs⟩++Array.replicate (n-(⟨vs⟩:Array Value).size) undef,defers:=[]} w:=by
 have hl:=hv.length
 have Yj:(bt c us).length=(rowsOf c).length:=by rw[←iA ho.al,List.length_map]
 have hnd:((ids.zip (bt c us)).map (·.1)).Nodup:=by rw[AB (by omega)];exact C4
 have Tr:∀s,(rB args s).oy=true:=fun s=>by
  rcases xp (l:=args) (k:=s)with e|e
  ·rw[e];rfl
  ·exact List.all_eq_true.1 JX _ e
 have oyB:∀x:AV,x.oy=true→(∀j,x.mb j→j=1000)∧∀j,¬x.mr j:=fun x hx=>by
  cases x with
  |sv s=>exact⟨fun j e=>e.elim,fun j e=>e⟩
  |ptr k o=>exact⟨fun j e=>by cases e;exact Nat.eq_of_beq_eq_true hx,fun j e=>e⟩
  |cmp t js=>
   refine⟨fun j e=>?_,fun j e=>?_⟩
   ·exact Nat.eq_of_beq_eq_true (List.all_eq_true.1 hx _ e)
   ·exact Bool.false_ne_true (List.all_eq_true.1 hx _ e)
  |_=>exact(Bool.false_ne_true hx).elim
 have hall:cI ⟨fun _=>β,kL (ids.zip (bt c us)) (fun _=>.nilIface),fun _=>False,M⟩ args vs:=by
  refine hv.imp (fun x hx v hh=>?_)
  exact AV.b9 (E:=oQ M β) (E':=⟨fun _=>β,kL (ids.zip (bt c us)) (fun _=>.nilIface),fun _=>False,M⟩) (Mem.le_refl _) (fun _ _=>rfl) (fun j hj=>absurd hj ((oyB x (List.all_eq_true.1 JX x hx)).2 j)) hh
 have live:∀j R,(AS.CY n args [(1000,⟨T,bK ids c⟩)] (ids.zip (rowsOf c))).r j=.live R→(j,R)∈ids.zip (rowsOf c):=fun j R hj=>by
  have hj:(match CW (ids.zip (rowsOf c)) j with|some R=>kV.live R|none=>.un)=.live R:=hj
  cases e:CW (ids.zip (rowsOf c)) j with
  |none=>rw[e]at hj;cases hj
  |some R'=>rw[e]at hj;cases hj;exact As e
 have isLive:∀j∈ids,(AS.CY n args [(1000,⟨T,bK ids c⟩)] (ids.zip (rowsOf c))).r j≠ .un:=fun j hj=>by
  have key:∀(ids:List Nat) (Rs:List Row),ids.length=Rs.length→j∈ids→∃R,CW (ids.zip Rs) j=some R:=by
   intro ids
   induction ids with
   |nil=>intro _ _ h;cases h
   |cons k ids ih=>
    intro Rs hl hm
    cases Rs with
    |nil=>simp at hl
    |cons R Rs=>
     rw[List.zip_cons_cons,CW]
     by_cases e:j=k
     ·subst e;exact⟨R,by simp⟩
     ·rw[bQ e]
      rcases List.mem_cons.1 hm with q|q
      ·exact absurd q e
      ·exact ih Rs (by simpa using hl) q
  obtain⟨R,hR⟩:=key ids _ Tq hj
  show(match CW (ids.zip (rowsOf c)) j with|some R=>kV.live R|none=>.un)≠ .un
  rw[hR];simp
 have box:∀j B,(AS.CY n args [(1000,⟨T,bK ids c⟩)] (ids.zip (rowsOf c))).b j=some B→j=1000∧B=⟨T,bK ids c⟩:=fun j B h=>by
  have:=pE h
  simpa using this
 have MB:(AS.CY n args [(1000,⟨T,bK ids c⟩)] (ids.zip (rowsOf c))).b 1000=some ⟨T,bK ids c⟩:=rfl
 exact{
  wf:=by
   refine⟨fun s j hj=>?_,fun s j hj=>?_,fun i B hB x hx j hj=>?_,fun i B hB x hx j hj=>?_⟩
   ·have:=(oyB _ (Tr s)).1 j hj
    subst this;exact⟨_,MB⟩
   ·exact absurd hj ((oyB _ (Tr s)).2 j)
   ·obtain⟨rfl,rfl⟩:=box i B hB
    exact absurd hj ((oP x hx).1 j)
   ·obtain⟨rfl,rfl⟩:=box i B hB
    exact isLive j ((oP x hx).2 j hj)
  marks:=⟨[],rfl,List.nodup_nil,by simp⟩
  size:=by simp[AS.CY];omega
  os:=rfl
  tape:=rfl
  output:=rfl
  grown:=Nat.le_refl _
  frame:=fun _ _ _=>rfl
  m0:=Mem.le_refl _
  ep:=fun _ _ _ e=>.inl e
  cH:=hM
  tm:=fun s=>IA hall s
  bx:=fun i B h=>by
   obtain⟨rfl,rfl⟩:=box i B h
   refine⟨.inr (.inl rfl),ho.nb,fun h=>h,us,ho.hp,?_⟩
   exact oO (w:=w) Tq ho.al (fun j p hm=>iQ (R:=p.1) (v:=p.2) hnd hm)
  inj:=fun i j B1 B2 hi hj _=>by rw[(box i B1 hi).1,(box j B2 hj).1]
  rx:=fun j R hj=>by
   obtain⟨v,hm⟩:=xK ho.al (live j R hj)
   have hν:kL (ids.zip (bt c us)) (fun _=>Value.nilIface) j=v:=iQ hnd hm
   show(∃vs:List Value,w.ownsRow 0 R.E R.sz (kL (ids.zip (bt c us)) (fun _=>.nilIface) j) R.n vs∧SV.dO M R.cells vs)∧_
   rw[hν]
   refine⟨kM ho.al (R,v) (jq hm).2,fun g hg=>?_⟩
   have hg:v.ownBlock=some g:=by rw[←hν];exact hg
   have hb:dR c us g:=⟨(R,v),(jq hm).2,hg⟩
   obtain⟨q1,q2⟩:=ho.nr g hb
   refine⟨.inr (.inr hb),q2,fun h=>h,fun k B _ e=>q1 e.symm⟩
  eX:=fun j j' R R' h1 h2 g e1 e2=>by
   obtain⟨v,hm⟩:=xK ho.al (live j R h1)
   obtain⟨v',hm'⟩:=xK ho.al (live j' R' h2)
   have hν:kL (ids.zip (bt c us)) (fun _=>Value.nilIface) j=v:=iQ hnd hm
   have aee:kL (ids.zip (bt c us)) (fun _=>Value.nilIface) j'=v':=iQ hnd hm'
   exact yX C4 ho.ap j R v j' R' v' g hm hm' (by rw[←hν];exact e1) (by rw[←aee];exact e2)
  gL:=fun i b e=>by
   simp only[WE]at e
   cases h:Nat.beq i 1000 with
   |false=>rw[h]at e;cases e
   |true=>rw[h]at e;cases e;rfl
  dP:=fun i v e=>by cases e
  kN:=fun b e=>e.elim
  jj:=trivial}
theorem Ce{P:Program}{f:FuncId}{fn:Func}{code:Code}{args:List AV}{T:TypeId}{c0 c1:List Oc}{res:SV}(ids:List Nat)(hf:P.funcs[f]? =some fn)(hb:fn.body=some code)(hn:args.length≤fn.ntmps)(JX:args.all AV.oy=true)(C4:ids.Nodup)(Tq:ids.length=(rowsOf c0).length)
  (h:∀(w:World) (M:Mem) (β:Nat) (us:List Value),Ok P (WE w M β c0 us) code (AS.CY fn.ntmps args [(1000,⟨T,bK ids c0⟩)] (ids.zip (rowsOf c0))) (fun e S=>(e=.normal∨e=.ret)∧Mj P S fn.results.toList res∧∃ks:List Nat,S.b 1000=some ⟨T,bK ks c1⟩∧Lv S ks (rowsOf c1)∧ks.Nodup)):QZ P f args T c0 res c1:=by
 intro M w β vs us hM ho hv
 refine gx rfl hf hb (JW ids hM ho hv JX hn C4 Tq) (h w M β us) ?_
 rintro S' E a w' ⟨hr,ks,hB,hL,hk⟩ hh
 obtain⟨v,hv,hx⟩:=(zR.sv hr).run hh
 have hβ:E.β 1000=β:=hh.gL 1000 β rfl
 obtain⟨us',ho',kI⟩:=qH hh hB hL hk
 rw[hβ]at ho'
 refine⟨v,hv,v,E.M,us',rfl,hh.m0,fun b o x e=>?_,hh.cH,hx,ho',fun g hg=>?_,hh.os,hh.tape,hh.output,hh.grown,fun k hk hne hno=>hh.frame k hk (fun e=>e.elim hne hno)⟩
 ·rcases hh.ep b o x e with q|q|q|q
  ·exact .inl q
  ·exact .inr (.inl q)
  ·rw[show b=β from q,ho'.nb o]at e;cases e
  ·exact .inr (.inr q)
 ·obtain⟨j,hj,zy⟩:=(kI g).1 hg
  obtain⟨R,hR⟩:=hL.mem j hj
  obtain⟨_,q⟩:=hh.rx j R hR
  rcases(q g zy).1 with q1|q1|q1
  ·exact .inr q1
  ·exact absurd q1 (ho'.nr g hg).1
  ·exact .inl q1
end Go.Fw
namespace Go.Fw
open Go.RowKit
def Un(S:AS):List Nat→Prop
 |[]=>True
 |k::ks=>(S.r k=.un∧k<1000)∧Un S ks
theorem Un.mem{S:AS}:∀{ks:List Nat},Un S ks→∀k∈ks,S.r k=.un∧k<1000
 |k::ks,h,j,hj=>by
  rcases List.mem_cons.1 hj with rfl|hj
  ·exact h.1
  ·exact Un.mem h.2 j hj
 |[],_,j,hj=>by cases hj
theorem Un.congr{S S':AS}:∀{ks:List Nat},(∀k∈ks,S'.r k=S.r k)→Un S ks→Un S' ks
 |[],_,_=>trivial
 |k::ks,h,hu=>⟨by rw[h k (by simp)];exact hu.1,Un.congr (fun j hj=>h j (List.mem_cons_of_mem _ hj)) hu.2⟩
theorem Lv.congr{S S':AS}:∀{js:List Nat} {Rs:List Row},(∀k∈js,S'.r k=S.r k)→Lv S js Rs→Lv S' js Rs
 |[],[],_,_=>trivial
 |j::js,R::Rs,h,hl=>⟨by rw[h j (by simp)];exact hl.1,Lv.congr (fun k hk=>h k (List.mem_cons_of_mem _ hk)) hl.2⟩
 |[],_::_,_,h=>h.elim
 |_::_,[],_,h=>h.elim
def xL(js ks:List Nat)(c:List Oc):List (Nat×kV):=js.map (fun j=>(j,kV.dead))++(ks.zip (rowsOf c)).map (fun p=>(p.1,.live p.2))
theorem Hj:∀(ks:List Nat) (l:List (Row×Value)),(ks.zip l).map (fun n=>(n.1,kV.live n.2.1))=(ks.zip (l.map (·.1))).map (fun p=>(p.1,.live p.2))
 |[],_=>rfl
 |_::_,[]=>rfl
 |k::ks,p::l=>by rw[List.map_cons,List.zip_cons_cons,List.zip_cons_cons,List.map_cons,List.map_cons,Hj ks l]
theorem Hl{M:Mem}{w:World}{c:List Oc}{us:List Value}(h:oN M w c us)(js ks:List Nat):xJ js (ks.zip (bt c us))=xL js ks c:=by
 unfold xJ xL
 rw[Hj,iA h]
section steps
variable {P:Program}{C:Ctx}{ops:Array Oper}{S:AS}{nd:Bool}{K:List Ac→AS→Prop}{rest:List Oper}{acc:List Ac}
variable {gd:Option (Nat×Bool)}{rg:List Nat}{d:Nat}{ty:TypeId}{pos:String}{aft:Array Edge}{x y z:Operand}{T U E0:TypeId}
theorem az.Q0{E:Env}{a:Act}{w w':World}(h:az C S E a w){i:Nat}{js ks:List Nat}{c0 c1:List Oc}{us us':List Value}{M':Mem}(hB:S.b i=some ⟨T,bK js c0⟩)(hL:Lv S js (rowsOf c0))(hks:ks.Nodup)(C7:ks.length=(rowsOf c1).length)(Q1:Un S ks)
  (Cf:∀g,dR c0 us g↔∃j∈js,(E.ν j).ownBlock=some g) (hM:E.M.le M') (hn:∀b o x,M' b o=some x→E.M b o=some x∨w.heap.size≤b∨dR c0 us b) (hin:M'.cH w') (ho:pR M' w' (E.β i) T c1 us') (hg:∀g,dR c1 us' g→dR c0 us g∨w.heap.size≤g)
  (hos:w'.os=w.os) (qG:w'.tape=w.tape) (hout:w'.output=w.output) (hsize:w.heap.size≤w'.heap.size) (kI:∀k,k<w.heap.size→k≠E.β i→¬dR c0 us k→w'.heap[k]? =w.heap[k]?):
  ∃E':Env,E'.M=M'∧E'.β=E.β∧az C (AS.bu (xL js ks c1) (AS.eY [(i,⟨T,bK ks c1⟩)] S)) E' a w':=by
 have Yj:(bt c1 us').length=(rowsOf c1).length:=by rw[←iA ho.al,List.length_map]
 have hnd:((ks.zip (bt c1 us')).map (·.1)).Nodup:=by rw[AB (by omega)];exact hks
 rw[←Hl ho.al js ks]
 refine⟨{E with M:=M',ν:=kL (ks.zip (bt c1 us')) E.ν},rfl,rfl,h.ZT hB js (ks.zip (bt c1 us')) (fun j hj=>hL.mem j hj) (fun k R v hm=>Q1.mem k (jq hm).1) hnd hM (fun b o x e=>?_) hin ho.hp ho.nb ?_ (fun x hx=>?_) (fun k R v hm=>?_) (yX hks ho.ap) hos qG hout hsize (fun k hk hne hno=>kI k hk hne (fun q=>?_))⟩
 ·rcases hn b o x e with q|q|q
  ·exact .inl q
  ·exact .inr (.inl q)
  ·exact .inr (.inr ((Cf b).1 q))
 ·exact oO (E:={E with M:=M',ν:=kL (ks.zip (bt c1 us')) E.ν}) (w:=w') C7 ho.al (fun j p hm=>iQ (R:=p.1) (v:=p.2) hnd hm)
 ·obtain⟨q1,q2⟩:=oP x hx
  refine⟨q1,fun j hj=>?_⟩
  have hj:=q2 j hj
  have key:∀(ks:List Nat) (l:List (Row×Value)),ks.length=l.length→j∈ks→∃R v,(j,R,v)∈ks.zip l:=by
   intro ks
   induction ks with
   |nil=>intro _ _ h;cases h
   |cons k ks ih=>
    intro l hl hm
    cases l with
    |nil=>simp at hl
    |cons p l=>
     rw[List.zip_cons_cons]
     rcases List.mem_cons.1 hm with q|q
     ·subst q;exact⟨p.1,p.2,by simp⟩
     ·obtain⟨R,v,h⟩:=ih l (by simpa using hl) q
      exact⟨R,v,List.mem_cons_of_mem _ h⟩
  exact key ks _ (by omega) hj
 ·refine⟨kM ho.al (R,v) (jq hm).2,fun g Gk=>?_⟩
  have hb:dR c1 us' g:=⟨(R,v),(jq hm).2,Gk⟩
  obtain⟨q1,q2⟩:=ho.nr g hb
  refine⟨?_,q2,q1⟩
  rcases hg g hb with q|q
  ·exact .inl ((Cf g).1 q)
  ·exact .inr q
 ·obtain⟨j,hj,e⟩:=(Cf k).1 q
  exact hno j hj e
theorem RT.JY(hg:Gd ops S gd rg){f:FuncId}[bA P f]{g:Operand}{xs:Array Operand}{at_:Array TypeId}{args:List AV}{T:TypeId}{c0 c1:List Oc}{res:SV}(hp:QZ P f args T c0 res c1)(i:Nat)(js ks:List Nat)(hB:S.b i=some ⟨T,bK js c0⟩)(hL:Lv S js (rowsOf c0))(Ts:js.Nodup)(hks:ks.Nodup)(C7:ks.length=(rowsOf c1).length)(Q1:Un S ks)
  (JX:args.all AV.oy=true) (hf:S.ev g=.sv (.v (.func (.func f) #[] #[]))) (hargs:wj S xs.toList (args.map (AV.Tp i))) (hd:d<S.n)
  (next:RunT P C ops nd K rest (⟨rg++(au g++xs.toList.flatMap au),[i],js++ks,⟨some (d,.sv res),[(i,⟨T,bK ks c1⟩)],xL js ks c1⟩⟩::acc) ((AS.bu (xL js ks c1) (AS.eY [(i,⟨T,bK ks c1⟩)] S)).set d (.sv res))):RunT P C ops nd K (⟨some d,.call ⟨.value g,xs,at_⟩,ty,pos,aft,gd⟩::rest) acc S:=by
 refine .inl ⟨_,[i],js++ks,_,?_,next⟩
 rintro S' hn ht hb hr k a w L Q ho ⟨E,h⟩ ZZ
 refine bR (C:=C) ho (hg.wanted h (fun s hs=>ht s (List.mem_append_left _ hs)) rfl) ?_
 have tg:a.eval g=.func (.func f) #[] ⟨[]⟩:=by
  have h1:=h.ev g;rw[aH (fun _ h=>List.mem_append_right _ (List.mem_append_left _ h)) ht,hf]at h1;exact h1
 have hall:=AD JX (wj.vals h hargs (fun s hs=>ht s (List.mem_append_right _ (List.mem_append_right _ hs))))
 have e5:S'.b i=some ⟨T,bK js c0⟩:=by rw[hb i (by simp)];exact hB
 have Tt:Lv S' js (rowsOf c0):=hL.congr (fun k hk=>hr k (List.mem_append_left _ hk))
 have aef:Un S' ks:=Q1.congr (fun k hk=>hr k (List.mem_append_right _ hk))
 obtain⟨us,Q2,Cf⟩:=qH h e5 Tt Ts
 refine bP (C:=C) (by intro c h;cases h) (m7 tg) ?_
 rw[List.append_nil]
 refine⟨fun h=>by simp at h,gu ((hp E.M w (E.β i) _ us h.cH Q2 hall).mono ?_)⟩
 rintro e w' ⟨v,M',us',rfl,hM,hnew,hin,hv,JZ,Qc,hos,qG,hout,hsize,kI⟩
 obtain⟨E',e1,e2,h1⟩:=h.Q0 e5 Tt hks C7 aef Cf hM hnew hin JZ Qc hos qG hout hsize kI
 refine ZZ _ _ ⟨_,h1.put (x:=.sv res) (v:=v) (by show res.h E'.M v;rw[e1];exact hv) ?_ eI⟩
 rw[(eE _ _).1];show d<S'.n;omega
theorem RT.ec(hg:Gd ops S gd rg){i o:Nat}(hx:S.ev x=.ptr i o)(hd:d<S.n)
  (next:RunT P C ops nd K rest (⟨rg++au x,[],[],⟨some (d,.ptr i o),[],[]⟩⟩::acc) (S.set d (.ptr i o))):RunT P C ops nd K (⟨some d,.nilCheck x,ty,pos,aft,gd⟩::rest) acc S:=
 RT.value hg (au x) [] [] (.ptr i o) hd (by intro c h;cases h) (fun S' ht _ _ E a w h=>by
  have hx':S'.ev x=.ptr i o:=by rw[aH (fun _ h=>h) ht,hx]
  have h1:=h.ev x
  rw[hx']at h1
  have h2:a.eval x=.pointer (some ⟨E.β i,o,none⟩):=h1
  exact⟨a.eval x,by simp[execOp,h2],h1,kX h.wf hx'⟩) next
class zI (P:Program) (T:TypeId):Prop where
 u:P.underlying T=some (.pointer (P.pointee T))
theorem RT.Oh(hg:Gd ops S gd rg)[tT:zI P T]{i o:Nat}(hx:S.ev x=.ptr i o)(hy:S.ev y=.sv (.v (.pointer none)))(hd:d<S.n)
  (next:RunT P C ops nd K rest (⟨rg++(au x++au y),[],[],⟨some (d,.sv (.v (.bool false))),[],[]⟩⟩::acc) (S.set d (.sv (.v (.bool false))))):RunT P C ops nd K (⟨some d,.binOp .eql T x y U,ty,pos,aft,gd⟩::rest) acc S:=
 RT.value hg (au x++au y) [] [] (.sv (.v (.bool false))) hd (by intro c h;cases h) (fun S' ht _ _ E a w h=>by
  have h1:=h.ev x
  rw[aH (fun _ h=>List.mem_append_left _ h) ht,hx]at h1
  have h2:=h.ev y
  rw[aH (fun _ h=>List.mem_append_right _ h) ht,hy]at h2
  have h1:a.eval x=.pointer (some ⟨E.β i,o,none⟩):=h1
  have h2:a.eval y=.pointer none:=h2
  have e:=run_eql_pointer_nil (P:=P) w T (some ⟨E.β i,o,none⟩) tT.u
  refine⟨.bool false,?_,rfl,eI⟩
  simp[execOp,h1,h2,eqGuard,e]) next
def Fc.av:Fc→AV
 |.val s=>.sv s
 |.box i=>.ptr i 0
 |.row i=>.row i
theorem RT.xM(hg:Gd ops S gd rg){i:Nat}{js:List Fc}{s:Fc}(hx:S.ev x=.cmp .vG js)(hi:js[i]? =some s)(hd:d<S.n)
  (next:RunT P C ops nd K rest (⟨rg++au x,[],[],⟨some (d,s.av),[],[]⟩⟩::acc) (S.set d s.av)):RunT P C ops nd K (⟨some d,.extract x i,ty,pos,aft,gd⟩::rest) acc S:=
 RT.value hg (au x) [] [] s.av hd (by intro c h;cases h) (fun S' ht _ _ E a w h=>by
  have hx':S'.ev x=.cmp .vG js:=by rw[aH (fun _ h=>h) ht,hx]
  have h1:=h.ev x
  rw[hx']at h1
  obtain⟨l1,l2⟩:=kX h.wf hx'
  obtain⟨vs,hv,hall⟩:=h1
  have hv:a.eval x=.tuple ⟨vs⟩:=hv
  obtain⟨u,hu,hs⟩:=hall.get hi
  have hm:=List.mem_of_getElem? hi
  refine⟨u,by simp[execOp,hv,Instr.extract,hu],?_,fun j e=>?_,fun j e=>?_⟩
  ·cases s<;>exact hs
  ·cases s with
   |val s=>exact e.elim
   |box k=>have e:j=k:=e;subst e;exact l1 j hm
   |row k=>exact e.elim
  ·cases s with
   |val s=>exact e.elim
   |box k=>exact e.elim
   |row k=>have e:j=k:=e;subst e;exact l2 j hm) next
def aeg(tp:Bool)(p:Value)(rs:List Value):Value:=bif tp then .tuple ⟨p::rs⟩else p
def Lq(P:Program)(f:FuncId)(args:List SV)(tp:Bool)(rest:List SV)(T:TypeId)(c:List Oc):Prop:=
 ∀(M:Mem) (w:World) (vs:List Value),M.cH w→SV.dO M args vs→
  Calls P f ⟨vs⟩ w fun e w'=>∃β rs M' us,e=.returned (aeg tp (.pointer (some ⟨β,0,none⟩)) rs)∧M.le M'∧(∀b o x,M' b o=some x→M b o=some x∨w.heap.size≤b)∧M'.cH w'∧SV.dO M' rest rs∧
   pR M' w' β T c us∧w.heap.size≤β∧(∀g,dR c us g→w.heap.size≤g)∧Below w.heap.size w w'
theorem Ho{w:World}{M:Mem}{S':AS}{E:Env}{a:Act}{w':World}{k:Nat}{ks:List Nat}{c:List Oc}(hB:S'.b k=some ⟨T,bK ks c⟩)(hL:Lv S' ks (rowsOf c))(hk:ks.Nodup)(hh:az (Gw w M) S' E a w'):
  ∃us,M.le E.M∧(∀b o x,E.M b o=some x→M b o=some x∨w.heap.size≤b)∧E.M.cH w'∧pR E.M w' (E.β k) T c us∧w.heap.size≤E.β k∧(∀g,dR c us g→w.heap.size≤g)∧Below w.heap.size w w':=by
 obtain⟨us,ho,kI⟩:=qH hh hB hL hk
 refine⟨us,hh.m0,fun b o x e=>?_,hh.cH,ho,(hh.bx k _ hB).1.elim id (fun h=>h.elim),fun g hg=>?_,hh.os,hh.tape,hh.output,hh.grown,fun k hk=>hh.frame k hk (fun h=>h)⟩
 ·rcases hh.ep b o x e with h|h|h
  ·exact .inl h
  ·exact .inr h
  ·exact h.elim
 ·obtain⟨j,hj,zy⟩:=(kI g).1 hg
  obtain⟨R,hR⟩:=hL.mem j hj
  exact((hh.rx j R hR).2 g zy).1.elim id (fun h=>h.elim)
theorem Hp{f:FuncId}{fn:Func}{code:Code}{args:List SV}{c:List Oc}(hf:P.funcs[f]? =some fn)(hb:fn.body=some code)(hn:args.length≤fn.ntmps)
  (h:∀(w:World) (M:Mem) (vs:List Value),SV.dO M args vs→Ok P (Gw w M) code (AS.init fn.ntmps args) (fun e S=>(e=.normal∨e=.ret)∧∃(k:Nat) (ks:List Nat),zR P S fn.results.toList (.ptr k 0)∧S.b k=some ⟨T,bK ks c⟩∧Lv S ks (rowsOf c)∧ks.Nodup)):Lq P f args false [] T c:=by
 intro M w vs hM hvs
 refine gx rfl hf hb (kH hM hvs hn) (h w M vs hvs) ?_
 rintro S' E a w' ⟨k,ks,hr,hB,hL,hk⟩ hh
 obtain⟨v,hv,hx⟩:=hr.run hh
 obtain rfl:v=.pointer (some ⟨E.β k,0,none⟩):=hx
 obtain⟨us,q1,q2,q3,q4,q5,q6,q7⟩:=Ho hB hL hk hh
 exact⟨_,hv,E.β k,[],E.M,us,rfl,q1,q2,q3,trivial,q4,q5,q6,q7⟩
theorem Hq{f:FuncId}{fn:Func}{code:Code}{args:List SV}{s:SV}{c:List Oc}{t1 t2:Nat}(hf:P.funcs[f]? =some fn)(hb:fn.body=some code)(hn:args.length≤fn.ntmps)(hres:fn.results=#[.tmp t1,.tmp t2])
  (h:∀(w:World) (M:Mem) (vs:List Value),SV.dO M args vs→Ok P (Gw w M) code (AS.init fn.ntmps args) (fun e S=>(e=.normal∨e=.ret)∧∃(k:Nat) (ks:List Nat),S.t t1=.ptr k 0∧S.t t2=.sv s∧S.b k=some ⟨T,bK ks c⟩∧Lv S ks (rowsOf c)∧ks.Nodup)):Lq P f args true [s] T c:=by
 intro M w vs hM hvs
 refine gx rfl hf hb (kH hM hvs hn) (h w M vs hvs) ?_
 rintro S' E a w' ⟨k,ks,WG,Z0,hB,hL,hk⟩ hh
 have h1:=hh.tm t1
 rw[WG]at h1
 have h1:a.tmps.getD t1 undef=.pointer (some ⟨E.β k,0,none⟩):=h1
 have h2:=hh.tm t2
 rw[Z0]at h2
 obtain⟨us,q1,q2,q3,q4,q5,q6,q7⟩:=Ho hB hL hk hh
 refine⟨.tuple #[.pointer (some ⟨E.β k,0,none⟩),a.tmps.getD t2 undef],?_,E.β k,[a.tmps.getD t2 undef],E.M,us,rfl,q1,q2,q3,⟨h2,trivial⟩,q4,q5,q6,q7⟩
 rw[Array.getD_eq_getD_getElem?]at h1
 simp[results,hres,h1]
theorem az.J0{a:Act}{w:World}:∀(ks:List Nat) (l:List (Row×Value)) {S:AS} {E:Env},az C S E a w→ks.length=l.length→ks.Nodup→Un S ks→(∀p∈l,∃vs:List Value,w.ownsRow 0 p.1.E p.1.sz p.2 p.1.n vs∧SV.dO E.M p.1.cells vs)→Hi l→(∀p∈l,∀g,p.2.ownBlock=some g→KS C S E g)→
  ∃E':Env,E'.M=E.M∧E'.β=E.β∧E'.O=E.O∧(∀i p,(i,p)∈ks.zip l→E'.ν i=p.2)∧(∀i,i∉ks→E'.ν i=E.ν i)∧az C (AS.bu ((ks.zip l).map (fun n=>(n.1,.live n.2.1))) S) E' a w
 |[],[],S,E,h,_,_,_,_,_,_=>⟨E,rfl,rfl,rfl,fun i p hm=>(by simp at hm),fun _ _=>rfl,h⟩
 |k::ks,p::l,S,E,h,hl,hn,hu,ho,ha,hf=>by
  obtain⟨R,v⟩:=p
  rw[List.nodup_cons]at hn
  obtain⟨ha1,ha2⟩:=List.pairwise_cons.1 ha
  obtain⟨vs,Q2,JZ⟩:=ho (R,v) (by simp)
  have h1:=h.EJ hu.1.1 hu.1.2 [] none (.inl ⟨rfl,rfl⟩) (R':=R) Q2 JZ (fun g hg=>.inr (hf (R,v) (by simp) g hg)) (rD w none)
  have hu':Un (AS.bu ([]++[(k,.live R)]) S) ks:=hu.2.congr (fun j hj=>by
   show(AS.qa S k _).r j=_
   exact AS.kE _ _ _ _ (fun e=>hn.1 (e▸hj)))
  obtain⟨E',q1,q2,q3,q4,q5,q6⟩:=az.J0 ks l h1 (by simpa using hl) hn.2 hu' (fun p hp=>ho p (List.mem_cons_of_mem _ hp)) ha2 (fun p hp g hg=>by
   obtain⟨f1,f2,f3,f4,f5⟩:=hf p (List.mem_cons_of_mem _ hp) g hg
   refine⟨f1,f2,f3,f4,fun j R' oe e=>?_⟩
   have oe:(AS.qa S k (.live R)).r j=.live R':=oe
   by_cases ej:j=k
   ·subst ej
    have e:(if j=j then v else E.ν j).ownBlock=some g:=e
    rw[if_pos rfl]at e
    exact ha1 p hp g e hg
   ·rw[AS.kE _ _ _ _ ej]at oe
    have e:(if j=k then v else E.ν j).ownBlock=some g:=e
    rw[if_neg ej]at e
    exact f5 j R' oe e)
  refine⟨E',q1,q2,q3,fun i p hm=>?_,fun i hi=>?_,q6⟩
  ·rw[List.zip_cons_cons]at hm
   rcases List.mem_cons.1 hm with e|e
   ·cases e
    rw[q5 k hn.1]
    show(if k=k then v else E.ν k)=v
    rw[if_pos rfl]
   ·exact q4 i p e
  ·rw[q5 i (fun hm=>hi (List.mem_cons_of_mem _ hm))]
   show(if i=k then v else E.ν i)=E.ν i
   rw[if_neg (fun e=>hi (by rw[e];simp))]
 |[],_::_,_,_,_,hl,_,_,_,_,_=>by simp at hl
 |_::_,[],_,_,_,hl,_,_,_,_,_=>by simp at hl
theorem Cg(i:Nat)(B:nV):∀(l:List (Nat×kV)) (S:AS),AS.bu l (S.jO i B)=(AS.bu l S).jO i B
 |[],_=>rfl
 |(j,R)::l,S=>Cg i B l (S.qa j R)
theorem ur{α β:Type}:∀{l:List α} {k:List β} {a:α},l.length=k.length→a∈l→∃b,(a,b)∈l.zip k
 |a::l,c::k,b,h,hb=>by
  rcases List.mem_cons.1 hb with rfl|hb
  ·exact⟨c,by rw[List.zip_cons_cons];simp⟩
  ·obtain⟨a',h'⟩:=ur (l:=l) (k:=k) (by simpa using h) hb
   exact⟨a',by rw[List.zip_cons_cons];exact List.mem_cons_of_mem _ h'⟩
 |[],_,_,_,hb=>by cases hb
 |_::_,[],_,h,_=>by simp at h
theorem az.newObj{E:Env}{a:Act}{w w':World}(h:az C S E a w){i:Nat}(hi:S.b i=none)(hp:C.gL i=none){ks:List Nat}{c:List Oc}{us:List Value}{M':Mem}{β:Nat}(hks:ks.Nodup)(C7:ks.length=(rowsOf c).length)(Q1:Un S ks)
  (hM:E.M.le M') (hn:∀b o x,M' b o=some x→E.M b o=some x∨w.heap.size≤b) (hin:M'.cH w') (ho:pR M' w' β T c us) (hβ:w.heap.size≤β) (hg:∀g,dR c us g→w.heap.size≤g) (Qv:Below w.heap.size w w'):
  ∃E':Env,E'.M=M'∧E'.β i=β∧az C (AS.bu (xL [] ks c) (AS.eY [(i,⟨T,bK ks c⟩)] S)) E' a w':=by
 have Yj:(bt c us).length=(rowsOf c).length:=by rw[←iA ho.al,List.length_map]
 have h0:=h.grow hM hn hin Qv
 obtain⟨E1,q1,q2,q3,q4,q5,h1⟩:=az.J0 ks (bt c us) h0 (by omega) hks Q1 (kM ho.al) ho.ap (fun p hp g Gk=>h.Au (hg g ⟨p,hp,Gk⟩) (ho.nr g ⟨p,hp,Gk⟩).2)
 have hS1:AS.bu ((ks.zip (bt c us)).map (fun n=>(n.1,.live n.2.1))) S=AS.bu (xL [] ks c) S:=by rw[←Hl ho.al [] ks];rfl
 rw[hS1]at h1
 obtain⟨f1,f2,f3,f4,f5⟩:=h.Au (M':=M') hβ ho.nb
 have hi1:(AS.bu (xL [] ks c) S).b i=none:=by rw[(eE _ _).2.2.1];exact hi
 have hfree:KS C (AS.bu (xL [] ks c) S) E1 β:=by
  refine⟨f1,by rw[q1];exact f2,by rw[q3];exact f3,fun j B hB=>?_,fun j R hR e=>?_⟩
  ·rw[(eE _ _).2.2.1]at hB;rw[q2];exact f4 j B hB
  ·by_cases hj:j∈ks
   ·obtain⟨p,hm⟩:=ur (l:=ks) (k:=bt c us) (by omega) hj
    rw[q4 j p hm]at e
    exact(ho.nr β ⟨p,(jq hm).2,e⟩).1 rfl
   ·rw[kz,wL (fun R hm=>by
     obtain⟨x,hx,e⟩:=List.mem_map.1 (show(j,R)∈(ks.zip (rowsOf c)).map (fun p=>(p.1,kV.live p.2))from hm)
     obtain⟨k,R2⟩:=x
     have e:k=j:=congrArg Prod.fst e
     exact hj (e▸(jq hx).1))]at hR
    rw[q5 j hj]at e
    exact f5 j R hR e
 have h2:=h1.JG hi1 hp hfree ho.hp (oO (w:=w') C7 (by rw[q1];exact ho.al) q4) (fun x hx=>by
  obtain⟨p1,p2⟩:=oP x hx
  refine⟨fun j e=>absurd e (p1 j),fun j e=>?_⟩
  obtain⟨R,hm⟩:=ur (l:=ks) (k:=rowsOf c) C7 (p2 j e)
  obtain⟨R',oe⟩:=Cd (l:=xL [] ks c) (j:=j) (R:=.live R) (List.mem_map.2 ⟨(j,R),hm,rfl⟩)
  rw[kz,oe]
  obtain⟨x,hx,e⟩:=List.mem_map.1 (show(j,R')∈(ks.zip (rowsOf c)).map (fun p=>(p.1,kV.live p.2))from wM oe)
  rw[←show kV.live x.2=R' from congrArg Prod.snd e]
  simp)
 refine⟨{E1 with β:=fun j=>if j=i then β else E1.β j},q1,?_,?_⟩
 rotate_left 1
 ·rw[show AS.eY [(i,(⟨T,bK ks c⟩:nV))] S=S.jO i ⟨T,bK ks c⟩from rfl,Cg]
  exact h2
 ·show(if i=i then β else E1.β i)=β
  rw[if_pos rfl]
theorem RT.Oi(hg:Gd ops S gd rg){f:FuncId}[bA P f]{g:Operand}{xs:Array Operand}{at_:Array TypeId}{args:List SV}{T:TypeId}{c:List Oc}(hp:Lq P f args false [] T c)(ks:List Nat)(hks:ks.Nodup)(C7:ks.length=(rowsOf c).length)(Q1:Un S ks)(hf:S.ev g=.sv (.v (.func (.func f) #[] #[])))(hargs:gi S xs.toList args)(hd:d<S.n)(hdb:S.b d=none)(ID:C.gL d=none)
  (next:RunT P C ops nd K rest (⟨rg++(au g++xs.toList.flatMap au),[d],ks,⟨some (d,.ptr d 0),[(d,⟨T,bK ks c⟩)],xL [] ks c⟩⟩::acc) ((AS.bu (xL [] ks c) (AS.eY [(d,⟨T,bK ks c⟩)] S)).set d (.ptr d 0))):RunT P C ops nd K (⟨some d,.call ⟨.value g,xs,at_⟩,ty,pos,aft,gd⟩::rest) acc S:=by
 refine .inl ⟨_,[d],ks,_,?_,next⟩
 rintro S' hn ht hb hr i a w L Q ho ⟨E,h⟩ hL
 refine bR (C:=C) ho (hg.wanted h (fun s hs=>ht s (List.mem_append_left _ hs)) rfl) ?_
 have tg:a.eval g=.func (.func f) #[] ⟨[]⟩:=by
  have h1:=h.ev g;rw[aH (fun _ h=>List.mem_append_right _ (List.mem_append_left _ h)) ht,hf]at h1;exact h1
 have hall:=gi.vals h hargs (fun s hs=>ht s (List.mem_append_right _ (List.mem_append_right _ hs)))
 have hdn:S'.b d=none:=by rw[hb d (by simp)];exact hdb
 refine bP (C:=C) (by intro c h;cases h) (m7 tg) ?_
 rw[List.append_nil]
 refine⟨fun h=>by simp at h,gu ((hp E.M w _ h.cH hall).mono ?_)⟩
 rintro e w' ⟨β,rs,M',us,rfl,hM,hnew,hin,Yk,JZ,hβ,Qc,Qv⟩
 obtain⟨E',e1,e2,h1⟩:=h.newObj hdn ID hks C7 (Q1.congr hr) hM hnew hin JZ hβ Qc Qv
 refine hL _ _ ⟨_,h1.put (x:=.ptr d 0) (v:=.pointer (some ⟨β,0,none⟩)) (by show _=Value.pointer (some ⟨E'.β d,0,none⟩);rw[e2]) ?_ ⟨fun j e=>?_,fun j e=>e.elim⟩⟩
 ·rw[(eE _ _).1];show d<S'.n;omega
 ·have e:j=d:=e
  subst e
  rw[(eE _ _).2.2.1]
  exact⟨_,AS.cu _ _ _⟩
theorem RT.J1(hg:Gd ops S gd rg){f:FuncId}[bA P f]{g:Operand}{xs:Array Operand}{at_:Array TypeId}{args:List SV}{T:TypeId}{c:List Oc}{s:SV}(hp:Lq P f args true [s] T c)(ks:List Nat)(hks:ks.Nodup)(C7:ks.length=(rowsOf c).length)(Q1:Un S ks)(hf:S.ev g=.sv (.v (.func (.func f) #[] #[])))(hargs:gi S xs.toList args)(hd:d<S.n)(hdb:S.b d=none)(ID:C.gL d=none)
  (next:RunT P C ops nd K rest (⟨rg++(au g++xs.toList.flatMap au),[d],ks,⟨some (d,.cmp .vG [.box d,.val s]),[(d,⟨T,bK ks c⟩)],xL [] ks c⟩⟩::acc) ((AS.bu (xL [] ks c) (AS.eY [(d,⟨T,bK ks c⟩)] S)).set d (.cmp .vG [.box d,.val s]))):RunT P C ops nd K (⟨some d,.call ⟨.value g,xs,at_⟩,ty,pos,aft,gd⟩::rest) acc S:=by
 refine .inl ⟨_,[d],ks,_,?_,next⟩
 rintro S' hn ht hb hr i a w L Q ho ⟨E,h⟩ hL
 refine bR (C:=C) ho (hg.wanted h (fun s hs=>ht s (List.mem_append_left _ hs)) rfl) ?_
 have tg:a.eval g=.func (.func f) #[] ⟨[]⟩:=by
  have h1:=h.ev g;rw[aH (fun _ h=>List.mem_append_right _ (List.mem_append_left _ h)) ht,hf]at h1;exact h1
 have hall:=gi.vals h hargs (fun s hs=>ht s (List.mem_append_right _ (List.mem_append_right _ hs)))
 have hdn:S'.b d=none:=by rw[hb d (by simp)];exact hdb
 refine bP (C:=C) (by intro c h;cases h) (m7 tg) ?_
 rw[List.append_nil]
 refine⟨fun h=>by simp at h,gu ((hp E.M w _ h.cH hall).mono ?_)⟩
 rintro e w' ⟨β,rs,M',us,rfl,hM,hnew,hin,Yk,JZ,hβ,Qc,Qv⟩
 obtain⟨E',e1,e2,h1⟩:=h.newObj hdn ID hks C7 (Q1.congr hr) hM hnew hin JZ hβ Qc Qv
 match rs,Yk with
 |[r],Yk=>
  refine hL _ _ ⟨_,h1.put (x:=.cmp .vG [.box d,.val s]) (v:=.tuple #[.pointer (some ⟨β,0,none⟩),r]) ⟨[.pointer (some ⟨β,0,none⟩),r],rfl,by show _=Value.pointer (some ⟨E'.β d,0,none⟩);rw[e2],by show s.h E'.M r;rw[e1];exact Yk.1,trivial⟩ ?_ ⟨fun j e=>?_,fun j e=>?_⟩⟩
  ·rw[(eE _ _).1];show d<S'.n;omega
  ·have e:j=d:=by simpa[AV.mb]using e
   subst e
   rw[(eE _ _).2.2.1]
   exact⟨_,AS.cu _ _ _⟩
  ·simp[AV.mr]at e
end steps
end Go.Fw
namespace Go.Fw
open Go.RowKit
def Ch(P:Program)(f:FuncId)(args:List AV)(T:TypeId)(c:List Oc)(res:SV):Prop:=
 ∀(M:Mem) (w:World) (β:Nat) (vs us:List Value),M.cH w→pR M w β T c us→cI (oQ M β) args vs→
  Calls P f ⟨vs⟩ w fun e w'=>∃v M',e=.returned v∧M.le M'∧(∀b o x,M' b o=some x→M b o=some x∨w.heap.size≤b)∧M'.cH w'∧res.h M' v∧
   pR M' w' β T c us∧w'.os=w.os∧w'.tape=w.tape∧w'.output=w.output∧w.heap.size≤w'.heap.size∧∀k,k<w.heap.size→k≠β→¬dR c us k→w'.heap[k]? =w.heap[k]?
def Yl:List (Nat×Row×Value)→Nat→Option Value
 |[],_=>none
 |(k,_,v)::l,j=>if j=k then some v else Yl l j
theorem FB:∀{l:List (Nat×Row×Value)} {j:Nat} {v:Value},Yl l j=some v→∃R,(j,R,v)∈l
 |(k,R,u)::l,j,v,h=>by
  rw[Yl]at h
  by_cases e:j=k
  ·rw[if_pos e]at h;cases h;subst e;exact⟨R,by simp⟩
  ·rw[if_neg e]at h
   obtain⟨R',hm⟩:=FB h
   exact⟨R',List.mem_cons_of_mem _ hm⟩
 |[],_,_,h=>by cases h
theorem Oj:∀{l:List (Nat×Row×Value)} {j:Nat} {R:Row} {v:Value},(l.map (·.1)).Nodup→(j,R,v)∈l→Yl l j=some v
 |(k,R',v')::l,j,R,v,hn,h=>by
  rw[List.map_cons,List.nodup_cons]at hn
  rw[Yl]
  rcases List.mem_cons.1 h with e|e
  ·cases e;rw[if_pos rfl]
  ·have:j≠k:=fun q=>hn.1 (List.mem_map.2 ⟨(j,R,v),e,q⟩)
   rw[if_neg this];exact Oj hn.2 e
theorem WH{ids:List Nat}(h:(ids.all fun i=>Nat.ble 1000 i)=true):∀i∈ids,1000≤i:=fun i hi=>Nat.le_of_ble_eq_true (List.all_eq_true.1 h i hi)
def Q3(w:World)(M:Mem)(β:Nat)(c:List Oc)(us:List Value)(ids:List Nat)(C4:(ids.all fun i=>Nat.ble 1000 i)=true):Ctx:={w0:=w,M0:=M,own:=fun k=>k=β∨dR c us k,uO:=fun k=>k=β∨dR c us k,gL:=fun i=>bif Nat.beq i 1000 then some β else none,dP:=Yl (ids.zip (bt c us)),ro:=none,J:=fun _ _ _ _ _=>True,C1:=fun _ h=>h,KP:=fun _ _ h=>(by obtain⟨R,hm⟩:=FB h;exact WH C4 _ (jq hm).1),jf:=fun _ _ _ _ _ _ _ _ _ _ _ _ _ _ _ _=>trivial}
def Oc.cst:Oc→Prop
 |.s x=>∃v,x=.v v
 |.r _=>True
def FC:List Oc→Prop
 |[]=>True
 |c::l=>c.cst∧FC l
theorem FD{M M':Mem}{w w':World}:∀{c:List Oc} {us us':List Value},FC c→oN M w c us→oN M' w' c us'→bt c us=bt c us'→us=us'
 |[],[],[],_,_,_,_=>rfl
 |.s x::l,v::vs,v'::vs',hc,h,h',e=>by
  obtain⟨y,rfl⟩:=hc.1
  have e1:v=y:=h.1
  have e2:v'=y:=h'.1
  rw[e1,e2,FD hc.2 h.2 h'.2 e]
 |.r R::l,v::vs,v'::vs',hc,h,h',e=>by
  rw[bt,bt]at e
  have e1:=(List.cons.inj e).1
  have e2:=(List.cons.inj e).2
  rw[FD hc.2 h.2 h'.2 e2]
  rw[(Prod.mk.inj e1).2]
 |[],[],_::_,_,_,h,_=>h.elim
 |[],_::_,_,_,h,_,_=>h.elim
 |.s _::_,[],_,_,h,_,_=>h.elim
 |.r _::_,[],_,_,h,_,_=>h.elim
 |.s _::_,_::_,[],_,_,h,_=>h.elim
 |.r _::_,_::_,[],_,_,h,_=>h.elim
section steps
variable {P:Program}{C:Ctx}{ops:Array Oper}{S:AS}{nd:Bool}{K:List Ac→AS→Prop}{rest:List Oper}{acc:List Ac}
variable {gd:Option (Nat×Bool)}{rg:List Nat}{d:Nat}{ty:TypeId}{pos:String}{aft:Array Edge}{x y z:Operand}{T U E0:TypeId}
theorem az.J2{E:Env}{a:Act}{w w':World}(h:az C S E a w){i:Nat}{js:List Nat}{c:List Oc}{us:List Value}{M':Mem}(hB:S.b i=some ⟨T,bK js c⟩)(hL:Lv S js (rowsOf c))(Ts:js.Nodup)(Aq:pR E.M w (E.β i) T c us)
  (hM:E.M.le M') (hn:∀b o x,M' b o=some x→E.M b o=some x∨w.heap.size≤b) (hin:M'.cH w') (ho:pR M' w' (E.β i) T c us)
  (hos:w'.os=w.os) (qG:w'.tape=w.tape) (hout:w'.output=w.output) (hsize:w.heap.size≤w'.heap.size) (kI:∀k,k<w.heap.size→k≠E.β i→¬dR c us k→w'.heap[k]? =w.heap[k]?):
  az C S {E with M:=M'} a w':=by
 obtain⟨Ln,aea,QY,Q4,Lo,Z1⟩:=h.bx i _ hB
 obtain rfl:Q4=us:=by
  rw[Aq.hp]at Lo
  have:=Option.some.inj Lo
  injection this with e
  injection e with e
  exact e.symm
 obtain⟨_,Yj⟩:=um h hL Z1
 have hlen:=hL.len
 have EK:∀g,dR c Q4 g↔∃j∈js,(E.ν j).ownBlock=some g:=fun g=>by
  unfold dR
  rw[Yj]
  constructor
  ·rintro⟨⟨R,v⟩,hm,hg⟩
   obtain⟨j,hj,rfl⟩:=List.mem_map.1 (jq hm).2
   exact⟨j,hj,hg⟩
  ·rintro⟨j,hj,hg⟩
   obtain⟨R,hR⟩:=uo (l:=rowsOf c) (k:=js.map E.ν) (by simp[hlen]) (List.mem_map.2 ⟨j,hj,rfl⟩)
   exact⟨(R,E.ν j),hR,hg⟩
 have yW:∀g,dR c Q4 g→(C.w0.heap.size≤g∨C.uO g)∧¬E.O g∧(∀n B,S.b n=some B→E.β n≠g)∧∃c e,w.heap[g]? =some (Obj.cells c e (0,0)):=fun g hg=>by
  obtain⟨j,hj,zy⟩:=(EK g).1 hg
  obtain⟨R,hR⟩:=hL.mem j hj
  obtain⟨⟨us,q1,_⟩,q2⟩:=h.rx j R hR
  obtain⟨q3,q4,q5,q6⟩:=q2 g zy
  refine⟨q3,q5,q6,?_⟩
  rcases q1.2 with⟨q7,_⟩|⟨g',cap,cur,q7,_,q8,_⟩
  ·rw[q7]at zy;cases zy
  ·rw[q7]at zy;cases zy;exact⟨_,_,q8⟩
 have keep:∀x:AV,∀v,x.holds E v→x.holds {E with M:=M'} v:=fun x v hv=>AV.b9 (E:=E) (E':={E with M:=M'}) hM (fun _ _=>rfl) (fun _ _=>rfl) hv
 have WD:∀b,b<w.heap.size→(∀o,E.M b o=none)→∀o,M' b o=none:=fun b h1 h2 o=>by
  cases e:M' b o with
  |none=>rfl
  |some v=>
   rcases hn b o v e with q|q
   ·rw[h2 o]at q;cases q
   ·omega
 exact{
  wf:=h.wf
  marks:=by
   obtain⟨ds,d1,d2,d3⟩:=h.marks
   refine⟨ds,d1,d2,fun r hr=>?_⟩
   obtain⟨p1,p2,p3⟩:=d3 r hr
   refine⟨p1,p2,?_⟩
   rw[kI r (Array.getElem?_eq_some_iff.1 p3).1 (fun e=>by rw[e,Lo]at p3;cases p3) (fun e=>by
    obtain⟨_,_,_,c,e2,q⟩:=yW r e
    rw[q]at p3;cases p3)]
   exact p3
  size:=h.size
  os:=hos.trans h.os
  tape:=qG.trans h.tape
  output:=hout.trans h.output
  grown:=Nat.le_trans h.grown hsize
  frame:=fun k hk hown=>by
   rw[kI k (Nat.lt_of_lt_of_le hk h.grown) (fun e=>by
    rcases Ln with q|q
    ·omega
    ·exact hown (C.C1 _ (by rw[e];exact q))) (fun e=>by
    rcases(yW k e).1 with q|q
    ·omega
    ·exact hown (C.C1 _ q))]
   exact h.frame k hk hown
  m0:=Mem.le_trans h.m0 hM
  ep:=fun b o v e=>by
   rcases hn b o v e with q|q
   ·exact h.ep b o v q
   ·exact .inr (.inl (Nat.le_trans h.grown q))
  cH:=hin
  tm:=fun s=>keep _ _ (h.tm s)
  bx:=fun j B e5=>by
   obtain⟨p1,p2,p3,vs,p4,p5⟩:=h.bx j B e5
   have hlt:=(Array.getElem?_eq_some_iff.1 p4).1
   by_cases e:j=i
   ·subst e
    rw[hB]at e5;cases e5
    refine⟨p1,ho.nb,p3,Q4,ho.hp,?_⟩
    exact Z1.imp (fun x _ v hv=>keep x v hv)
   ·refine⟨p1,WD _ hlt p2,p3,vs,?_,p5.imp (fun x _ v hv=>keep x v hv)⟩
    show w'.heap[E.β j]? =_
    rw[kI _ hlt (fun q=>e (h.inj j i B _ e5 hB q)) (fun q=>(yW _ q).2.2.1 j B e5 rfl)];exact p4
  inj:=h.inj
  rx:=fun j R hR=>by
   obtain⟨⟨vs,p1,p2⟩,p3⟩:=h.rx j R hR
   by_cases hj:j∈js
   ·have hz:(R,E.ν j)∈bt c Q4:=by
     rw[Yj]
     have key:∀(js:List Nat) (Rs:List Row),Lv S js Rs→j∈js→(R,E.ν j)∈Rs.zip (js.map E.ν):=by
      intro js
      induction js with
      |nil=>intro _ _ h;cases h
      |cons k js ih=>
       intro Rs hl hm
       cases Rs with
       |nil=>exact hl.elim
       |cons R' Rs=>
        rw[List.map_cons,List.zip_cons_cons]
        rcases List.mem_cons.1 hm with q|q
        ·subst q
         have:=hl.1
         rw[hR]at this;cases this
         simp
        ·exact List.mem_cons_of_mem _ (ih Rs hl.2 q)
     exact key js _ hL hj
    refine⟨kM ho.al _ hz,fun g hg=>?_⟩
    obtain⟨p4,p5,p6,p7⟩:=p3 g hg
    exact⟨p4,(ho.nr g ⟨_,hz,hg⟩).2,p6,p7⟩
   ·have ZY:∀g,(E.ν j).ownBlock=some g→¬dR c Q4 g:=fun g hg q=>by
     obtain⟨j',hj',e⟩:=(EK g).1 q
     obtain⟨R',oe⟩:=hL.mem j' hj'
     have:=h.eX j j' R R' hR oe g hg e
     subst this;exact hj hj'
    refine⟨⟨vs,cP p1 fun g hg=>kI g (ju h hR hg) (fun e=>(p3 g hg).2.2.2 i _ hB e.symm) (ZY g hg),p2.mono hM⟩,fun g hg=>?_⟩
    obtain⟨p4,p5,p6,p7⟩:=p3 g hg
    exact⟨p4,WD g (ju h hR hg) p5,p6,p7⟩
  eX:=h.eX
  gL:=h.gL
  dP:=h.dP
  kN:=fun b hb=>by
   obtain⟨p1,p2,p3⟩:=h.kN b hb
   exact⟨Nat.lt_of_lt_of_le p1 hsize,WD b p1 p2,p3⟩
  jj:=C.jf S.g S.go E.O E.M M' w w' h.jj hM hin (fun b o v e=>by
    rcases hn b o v e with q|q
    ·exact .inl q
    ·exact .inr ⟨.inl (Nat.le_trans h.grown q),fun q2=>by have:=(h.kN b q2).1;omega⟩) (fun b hb=>by
    have hb':b<w.heap.size:=by
     rcases hb with⟨q,_⟩|q
     ·exact Nat.lt_of_lt_of_le q h.grown
     ·exact(h.kN b q).1
    refine kI b hb' (fun e=>?_) (fun e=>?_)
    ·subst e
     rcases hb with⟨q1,q2⟩|q
     ·rcases Ln with p|p
      ·omega
      ·exact q2 p
     ·exact QY q
    ·obtain⟨o1,o3,_⟩:=yW b e
     rcases hb with⟨q1,q2⟩|q
     ·rcases o1 with p|p
      ·omega
      ·exact q2 p
     ·exact o3 q) hos qG hout hsize}
theorem RT.jk(hg:Gd ops S gd rg){f:FuncId}[bA P f]{g:Operand}{xs:Array Operand}{at_:Array TypeId}{args:List AV}{T:TypeId}{c:List Oc}{res:SV}(hp:Ch P f args T c res)(i:Nat)(js:List Nat)(hB:S.b i=some ⟨T,bK js c⟩)(hL:Lv S js (rowsOf c))(Ts:js.Nodup)
  (JX:args.all AV.oy=true) (hf:S.ev g=.sv (.v (.func (.func f) #[] #[]))) (hargs:wj S xs.toList (args.map (AV.Tp i))) (hd:d<S.n)
  (next:RunT P C ops nd K rest (⟨rg++(au g++xs.toList.flatMap au),[i],js,⟨some (d,.sv res),[],[]⟩⟩::acc) (S.set d (.sv res))):RunT P C ops nd K (⟨some d,.call ⟨.value g,xs,at_⟩,ty,pos,aft,gd⟩::rest) acc S:=by
 refine .inl ⟨_,[i],js,_,?_,next⟩
 rintro S' hn ht hb hr k a w L Q ho ⟨E,h⟩ ZZ
 refine bR (C:=C) ho (hg.wanted h (fun s hs=>ht s (List.mem_append_left _ hs)) rfl) ?_
 have tg:a.eval g=.func (.func f) #[] ⟨[]⟩:=by
  have h1:=h.ev g;rw[aH (fun _ h=>List.mem_append_right _ (List.mem_append_left _ h)) ht,hf]at h1;exact h1
 have hall:=AD JX (wj.vals h hargs (fun s hs=>ht s (List.mem_append_right _ (List.mem_append_right _ hs))))
 have e5:S'.b i=some ⟨T,bK js c⟩:=by rw[hb i (by simp)];exact hB
 have Tt:Lv S' js (rowsOf c):=hL.congr (fun k hk=>hr k hk)
 obtain⟨us,Q2,Cf⟩:=qH h e5 Tt Ts
 refine bP (C:=C) (by intro c h;cases h) (m7 tg) ?_
 rw[List.append_nil]
 refine⟨fun h=>by simp at h,gu ((hp E.M w (E.β i) _ us h.cH Q2 hall).mono ?_)⟩
 rintro e w' ⟨v,M',rfl,hM,hnew,hin,hv,JZ,hos,qG,hout,hsize,kI⟩
 have h1:=h.J2 e5 Tt Ts Q2 hM hnew hin JZ hos qG hout hsize kI
 exact ZZ _ _ ⟨_,h1.put (x:=.sv res) (v:=v) hv (by show d<S'.n;omega) eI⟩
end steps
end Go.Fw
namespace Go.Fw
open Go.RowKit
section
variable {P:Program}
def WI(P:Program)(f:FuncId)(args:List SV)(c:List Oc):Prop:=
 ∀(M:Mem) (w:World) (vs:List Value),M.cH w→SV.dO M args vs→
  Calls P f ⟨vs⟩ w fun e w'=>∃us M',e=.returned (.agg ⟨us⟩)∧M.le M'∧(∀b o x,M' b o=some x→M b o=some x∨w.heap.size≤b)∧M'.cH w'∧oN M' w' c us∧
   (∀g,dR c us g→w.heap.size≤g∧∀o,M' g o=none)∧Hi (bt c us)∧Below w.heap.size w w'
theorem WI.w{f:FuncId}{args args':List SV}{c:List Oc}(h:WI P f args c)(hi:bV args' args):WI P f args' c:=fun M w vs hM hv=>h M w vs hM (hi.holds hv)
end
section
variable {P:Program}{C:Ctx}{ops:Array Oper}{S:AS}{nd:Bool}{K:List Ac→AS→Prop}{rest:List Oper}{acc:List Ac}
variable {gd:Option (Nat×Bool)}{rg:List Nat}{d:Nat}{ty:TypeId}{pos:String}{aft:Array Edge}{x y z:Operand}{T U E0:TypeId}
inductive Ci (S:AS):List (Nat×Operand)→List (Nat×Fc)→Prop
 |nil:Ci S [] []
 |one {i:Nat} {x:Operand} {s:SV} {ps:List (Nat×Operand)} {qs:List (Nat×Fc)} [o:One s] (h:S.ev x=.sv s) (t:Ci S ps qs):Ci S ((i,x)::ps) ((i,.val s)::qs)
 |row {i j:Nat} {x:Operand} {R:Row} {ps:List (Nat×Operand)} {qs:List (Nat×Fc)} (h:S.ev x=.row j) (hR:S.r j=.live R) (t:Ci S ps qs):Ci S ((i,x)::ps) ((i,.row j)::qs)
end
end Go.Fw
namespace Go.Proofs.YtningmnklfpfjaaGreat
open Go.Fw
noncomputable def nZ(x0:Lr):Option (Sz):=match x0 with|⟨aA,aB,aK,aL⟩=>(some (aB.length:Int)).bind fun x7=>(some (aK.length:Int)).bind fun dB=>(some (aL.length:Int)).bind fun iu=>some ⟨aA,x7,dB,iu⟩
noncomputable def gO(x0:Lr):Option (Bool):=match x0 with|⟨aA,aB,aK,aL⟩=>(nZ ⟨aA,aB,aK,aL⟩).bind fun⟨Dl,G2,Dm,Fx⟩=>cm (fun(Ol:Bool)=>(bif Ol then some false else cm (fun(I8:Bool)=>(bif I8 then some false else cm (fun(Tu:Bool)=>some Tu) fun K16=>(mK aB).bind fun pH=>(some (decide ((pH:Int)≤Dl))).bind fun rj=>(bif rj then(mK aK).bind fun ri=>(some (decide ((ri:Int)≤Dl))).bind fun uV=>some uV else some false).bind fun Om=>K16 Om)) fun L0=>(some (decide ((128:Int)<Dm))).bind fun lf=>(bif lf then some true else(some (decide ((Fx:Int)≠Dm))).bind fun iE=>some iE).bind fun On=>L0 On)) fun Tv=>(some (decide ((Dl:Int)<0))).bind fun x8=>(bif x8 then some true else(some (decide ((64:Int)<Dl))).bind fun dh=>some dh).bind fun Oo=>(bif Oo then some true else(some (decide ((G2:Int)<1))).bind fun gh=>some gh).bind fun WJ=>(bif WJ then some true else(some (decide ((4:Int)<G2))).bind fun kf=>some kf).bind fun WK=>Tv WK
noncomputable def fJ(x0:Lr)(x1:List Qr):Option (Bool):=match x0 with|⟨aA,aB,aK,aL⟩=>cm (fun(Oq:Bool)=>(bif Oq then some false else(some (x1.length:Int)).bind fun gz=>(bT (fun(J3:Int)=>(show Option ((Int)⊕((Unit)⊕(Bool)))from(some (decide ((J3:Int)<gz))).bind fun jw=>(bif jw then(cC x1 J3).bind fun⟨⟨oH,oI⟩,⟨oJ,oK⟩⟩=>(ef ⟨⟨oH,oI⟩,⟨oJ,oK⟩⟩).bind fun kj=>(some (decide ((kj:Int)<0))).bind fun nX=>(bif nX then some (.inr (.inr false))else(some (IntKind.i64.wrap (J3+1))).bind fun gA=>some (.inl gA))else some (.inr (.inl ()))))) 0).bind fun e9=>match e9 with|.inr v9=>some v9|.inl _=>(mB (fun(k:Nat) (xg:Unit)=>(show Option ((Unit)⊕(Bool))from(some ((Lr.rows ⟨aA,aB,aK,aL⟩).getD k [])).bind fun p32=>(some ((Lr.bounds ⟨aA,aB,aK,aL⟩).getD k (⟨⟨false,[]⟩,⟨false,[]⟩⟩:Qr))).bind fun⟨⟨Tw,Tx⟩,⟨Ty,Tz⟩⟩=>(jQ p32 x1).bind fun⟨⟨pI,pJ⟩,⟨D6,D7⟩⟩=>(mI ⟨⟨pI,pJ⟩,⟨D6,D7⟩⟩ ⟨⟨Tw,Tx⟩,⟨Ty,Tz⟩⟩).bind fun xy=>(some (decide ((xy:Int)=1))).bind fun kg=>(bif kg then some (.inr false)else some (.inl ())))) ((Lr.rows ⟨aA,aB,aK,aL⟩).length) ()).bind fun JS=>match JS with|.inr v12=>some v12|.inl _=>some true)) fun K3=>(gO ⟨aA,aB,aK,aL⟩).bind fun gY=>(some (!gY)).bind fun dh=>(bif dh then some true else(some (x1.length:Int)).bind fun dQ=>(some (decide ((aA:Int)<dQ))).bind fun eD=>some eD).bind fun Ot=>K3 Ot
noncomputable def iW(x0:Lr)(x1:List Qr):Option (List Qr):=match x0 with|⟨aA,aB,aK,aL⟩=>(lD aB x1).bind fun x8=>some x8
noncomputable def lF(x0:Lr)(x1:List Qr)(x2:List Qr):Option (Int):=match x0 with|⟨aA,aB,aK,aL⟩=>(iW ⟨aA,aB,aK,aL⟩ x1).bind fun dB=>(iW ⟨aA,aB,aK,aL⟩ x2).bind fun iu=>(fI dB iu).bind fun eH=>(some (decide ((eH:Int)≠0))).bind fun gy=>(bif gy then some eH else(fI x2 x1).bind fun gV=>some gV)
noncomputable def lG(x0:Lr)(x1:List Qr):Option (List Qr):=match x0 with|⟨aA,aB,aK,aL⟩=>(qh aB x1).bind fun x8=>some x8
end Go.Proofs.YtningmnklfpfjaaGreat
namespace Go.Proofs.YtningmnklfpfjaaGreat
open Go.Fw Go.Fw.Z Go.RowKit
instance:St4 Tryz.prog 97 3:=⟨by kernel_rfl,by kernel_rfl,by kernel_rfl,by kernel_rfl⟩
theorem xN(p:Lr):Pure Tryz.prog 85 [.agg (DO p)] (gX 126 [ref [.v (.int .i64 p.vars),(slc 1 (List.map (eS 4 eQ) p.pq)),(slc 1 (List.map (eS 4 eQ) p.rows)),(slc 4 (List.map eQ p.bounds))]]):=by
 refine ay Tryz.func85 rfl (Nat.le_of_ble_eq_true rfl) (fun cE M vs hvs=>?_)
 refine sr<|bx rfl<|ag rfl<|dn<|sr<|RT.makeFunc .none (.box rfl (.nil)) T<|an (s:=.ek _ _) rfl<|dn ?_
 refine bz (gp (i:=1) rfl [.v (.int .i64 p.vars),(slc 1 (List.map (eS 4 eQ) p.pq)),(slc 1 (List.map (eS 4 eQ) p.rows)),(slc 4 (List.map eQ p.bounds))] (.cons rfl (.cons rfl (.cons rfl (.cons rfl .nil)))) .any 0 [(2,.ek 126 [.val (ref [.v (.int .i64 p.vars),(slc 1 (List.map (eS 4 eQ) p.pq)),(slc 1 (List.map (eS 4 eQ) p.rows)),(slc 4 (List.map eQ p.bounds))])])] (fun _ _ _=>trivial) (qp.h (l:=[.v (.int .i64 p.vars),(slc 1 (List.map (eS 4 eQ) p.pq)),(slc 1 (List.map (eS 4 eQ) p.rows)),(slc 4 (List.map eQ p.bounds))])) ⟨@FT.ek _ _ _ _ _ 2 126 [.box 1] rfl,trivial⟩)<|bz (EN 2 (gX 126 [ref [.v (.int .i64 p.vars),(slc 1 (List.map (eS 4 eQ) p.pq)),(slc 1 (List.map (eS 4 eQ) p.rows)),(slc 4 (List.map eQ p.bounds))]]) (fun _ _ h=>EO h)) ?_
 exact aj<|⟨.inr rfl,EM (.tmp rfl (.nil)) rfl⟩
theorem xO(p:Lr):Iter Tryz.prog 126 [ref [.v (.int .i64 p.vars),(slc 1 (List.map (eS 4 eQ) p.pq)),(slc 1 (List.map (eS 4 eQ) p.rows)),(slc 4 (List.map eQ p.bounds))]] p.rows.length (fun k=>[(slc 4 (List.map eQ (p.rows.getD k []))),.agg (eQ (p.bounds.getD k (⟨⟨false,[]⟩,⟨false,[]⟩⟩:Qr)))]):=by
 refine rE Tryz.func126 rfl rfl (Nat.le_of_ble_eq_true rfl) (fun cE M O l J hJ yD hr=>?_)
 obtain⟨oq,yD⟩:=yD
 have hla:p.rows.length≤9223372036854775807:=by cases oq with|nil=>exact yD.elim|cons _ oq=>exact Of yD.1
 refine aN ?_
 refine af ?_
 refine RT.aT .none rfl (tl rfl) rfl ?_
 refine RT.cO .none rfl rfl (tl rfl) ?_
 refine RT.len .none rfl (tl rfl) ?_
 refine RT.mv .none rfl (tl rfl) ?_
 refine RT.done ?_
 refine ae.n ?_
 refine aq ?_
 refine xm (I:=fun x:{i:Nat//i≤p.rows.length}=>AS.bG 30 [(0,.sv (.v (.func (.yield l) #[] #[]))),(1,.sv (ref [.v (.int .i64 p.vars),(slc 1 (List.map (eS 4 eQ) p.pq)),(slc 1 (List.map (eS 4 eQ) p.rows)),(slc 4 (List.map eQ p.bounds))])),(7,.sv ((slc 1 (List.map (eS 4 eQ) p.rows)))),(8,.sv (.v (.int .i64 ((p.rows.length:Nat):Int)))),(9,.sv (.v (.int .i64 ((x.1:Nat):Int))))] [] [] (x.1)) (μ:=fun x=>p.rows.length-x.1) ⟨0,by omega⟩ (by(try dsimp only);exact cS id rfl rfl rfl rfl rfl ⟨.sv (by first|exact SV.aa _|exact SV.ak (by omega)|exact SV.ak (by push_cast;omega)|exact SV.ak (by dsimp only;omega)|exact SV.imp_eq (by simp)),.sv (by first|exact SV.aa _|exact SV.ak (by omega)|exact SV.ak (by push_cast;omega)|exact SV.ak (by dsimp only;omega)|exact SV.imp_eq (by simp)),.sv (by first|exact SV.aa _|exact SV.ak (by omega)|exact SV.ak (by push_cast;omega)|exact SV.ak (by dsimp only;omega)|exact SV.imp_eq (by simp)),.sv (SV.ak (by simp)),.sv (by first|exact SV.aa _|exact SV.ak (by omega)|exact SV.ak (by push_cast;omega)|exact SV.ak (by dsimp only;omega)|exact SV.imp_eq (by simp)),trivial⟩ trivial trivial (fun _ _=>rfl)) ?_
 rintro⟨i,Vj⟩
 try dsimp only
 rcases I7 p.rows p.bounds i Vj with⟨hi,hb⟩|⟨hi,hb⟩|hi
 ·
  refine aN ?_
  refine af ?_
  refine RT.lss .none (true) rfl rfl (tl rfl) (by simp;omega) ?_
  refine RT.done ?_
  refine ae.n ?_
  refine aN ?_
  refine cj rfl ?_
  refine aE ?_
  refine ae.n ?_
  refine aN ?_
  refine aq ?_
  refine aN ?_
  refine af ?_
  refine RT.mv .none rfl (tl rfl) ?_
  refine RT.Mt .none [(slc 4 (List.map eQ (p.rows.getD i [])))] (Int.natCast_nonneg i) (by rw[Int.toNat_natCast,List.getElem?_map,dW hi];rfl) rfl rfl (tl rfl) ?_
  refine RT.cO .none rfl rfl (tl rfl) ?_
  refine RT.A4 .none rfl (tl rfl) ?_
  refine RT.A4 .none rfl (tl rfl) ?_
  refine RT.done ?_
  refine ae.n ?_
  refine aN ?_
  refine af ?_
  refine RT.rF .none (cs:=eQ ⟨⟨false,[]⟩,⟨false,[]⟩⟩) (by exact⟨SV.aa _,imp_nil,SV.aa _,imp_nil,trivial⟩) rfl (tl rfl) rfl rfl ?_
  refine RT.done ?_
  refine ae.n ?_
  refine aN ?_
  refine aN ?_
  refine af ?_
  refine RT.mv .none rfl (tl rfl) ?_
  refine RT.aT .none rfl (tl rfl) rfl ?_
  refine RT.cO .none rfl rfl (tl rfl) ?_
  refine RT.len .none rfl (tl rfl) ?_
  refine RT.lss .none (true) rfl rfl (tl rfl) (by simp only[List.length_map];simp;omega) ?_
  refine RT.done ?_
  refine ae.n ?_
  refine cj rfl ?_
  refine af ?_
  refine RT.aT .none rfl (tl rfl) rfl ?_
  refine RT.cO .none rfl rfl (tl rfl) ?_
  refine RT.mv .none rfl (tl rfl) ?_
  refine RT.Mt .none [.v (.bool (p.bounds.getD i (⟨⟨false,[]⟩,⟨false,[]⟩⟩:Qr)).num.neg),slc 1 ((p.bounds.getD i (⟨⟨false,[]⟩,⟨false,[]⟩⟩:Qr)).num.w.map ah),.v (.bool (p.bounds.getD i (⟨⟨false,[]⟩,⟨false,[]⟩⟩:Qr)).den.neg),slc 1 ((p.bounds.getD i (⟨⟨false,[]⟩,⟨false,[]⟩⟩:Qr)).den.w.map ah)] (Int.natCast_nonneg i) (by rw[Int.toNat_natCast,List.getElem?_map,dW hb];rfl) rfl rfl (tl rfl) ?_
  refine RT.iw .none rfl (tl rfl) (cs:=[.v (.bool (p.bounds.getD i (⟨⟨false,[]⟩,⟨false,[]⟩⟩:Qr)).num.neg),slc 1 ((p.bounds.getD i (⟨⟨false,[]⟩,⟨false,[]⟩⟩:Qr)).num.w.map ah),.v (.bool (p.bounds.getD i (⟨⟨false,[]⟩,⟨false,[]⟩⟩:Qr)).den.neg),slc 1 ((p.bounds.getD i (⟨⟨false,[]⟩,⟨false,[]⟩⟩:Qr)).den.w.map ah)]) rfl rfl ?_
  refine RT.store .none rfl rfl rfl rfl rfl ?_
  refine RT.done ?_
  refine ae.n ?_
  refine aN ?_
  refine af ?_
  refine RT.mv .none rfl (tl rfl) ?_
  refine RT.mv .none rfl (tl rfl) ?_
  refine RT.load .none rfl rfl (.cons rfl (.cons rfl (.cons rfl (.cons rfl (.nil))))) rfl (tl rfl) ?_
  refine RT.yield .none hr rfl (fun _ h=>h) rfl (i) rfl rfl hi (by exact⟨rfl,rfl,trivial⟩) (tl rfl) (fun yb=>?_)
  cases yb
  ·
   refine RT.not .none rfl (tl rfl) true rfl ?_
   refine RT.done ?_
   refine ae.n ?_
   refine cj rfl ?_
   refine aj ?_
   refine aG.r ?_
   refine ae.r ?_
   refine ae.r ?_
   refine aG.r ?_
   exact⟨.inr rfl,(fun h=>by cases h)⟩
  ·
   refine RT.not .none rfl (tl rfl) false rfl ?_
   refine RT.done ?_
   refine ae.n ?_
   refine dJ rfl ?_
   refine aE ?_
   refine aG.n ?_
   refine ae.n ?_
   refine af ?_
   refine RT.add .none (((i:Nat):Int)+1) rfl rfl (tl rfl) (k7 (by omega)) ?_
   refine RT.mv .none rfl (tl rfl) ?_
   refine RT.done ?_
   refine ae.n ?_
   refine⟨⟨i+1,by omega⟩,(by dsimp only;omega),?_⟩
   try dsimp only
   exact cS id rfl rfl rfl rfl rfl ⟨.sv (by first|exact SV.aa _|exact SV.ak (by omega)|exact SV.ak (by push_cast;omega)|exact SV.ak (by dsimp only;omega)|exact SV.imp_eq (by simp)),.sv (by first|exact SV.aa _|exact SV.ak (by omega)|exact SV.ak (by push_cast;omega)|exact SV.ak (by dsimp only;omega)|exact SV.imp_eq (by simp)),.sv (by first|exact SV.aa _|exact SV.ak (by omega)|exact SV.ak (by push_cast;omega)|exact SV.ak (by dsimp only;omega)|exact SV.imp_eq (by simp)),.sv (by first|exact SV.aa _|exact SV.ak (by omega)|exact SV.ak (by push_cast;omega)|exact SV.ak (by dsimp only;omega)|exact SV.imp_eq (by simp)),.sv (by first|exact SV.aa _|exact SV.ak (by omega)|exact SV.ak (by push_cast;omega)|exact SV.ak (by dsimp only;omega)|exact SV.imp_eq (by simp)),trivial⟩ trivial trivial (fun _ _=>rfl)
 ·
  refine aN ?_
  refine af ?_
  refine RT.lss .none (true) rfl rfl (tl rfl) (by simp;omega) ?_
  refine RT.done ?_
  refine ae.n ?_
  refine aN ?_
  refine cj rfl ?_
  refine aE ?_
  refine ae.n ?_
  refine aN ?_
  refine aq ?_
  refine aN ?_
  refine af ?_
  refine RT.mv .none rfl (tl rfl) ?_
  refine RT.Mt .none [(slc 4 (List.map eQ (p.rows.getD i [])))] (Int.natCast_nonneg i) (by rw[Int.toNat_natCast,List.getElem?_map,dW hi];rfl) rfl rfl (tl rfl) ?_
  refine RT.cO .none rfl rfl (tl rfl) ?_
  refine RT.A4 .none rfl (tl rfl) ?_
  refine RT.A4 .none rfl (tl rfl) ?_
  refine RT.done ?_
  refine ae.n ?_
  refine aN ?_
  refine af ?_
  refine RT.rF .none (cs:=eQ ⟨⟨false,[]⟩,⟨false,[]⟩⟩) (by exact⟨SV.aa _,imp_nil,SV.aa _,imp_nil,trivial⟩) rfl (tl rfl) rfl rfl ?_
  refine RT.done ?_
  refine ae.n ?_
  refine aN ?_
  refine aN ?_
  refine af ?_
  refine RT.mv .none rfl (tl rfl) ?_
  refine RT.aT .none rfl (tl rfl) rfl ?_
  refine RT.cO .none rfl rfl (tl rfl) ?_
  refine RT.len .none rfl (tl rfl) ?_
  refine RT.lss .none (false) rfl rfl (tl rfl) (by simp only[List.length_map];simp;omega) ?_
  refine RT.done ?_
  refine ae.n ?_
  refine dJ rfl ?_
  refine aE ?_
  refine ae.n ?_
  refine aN ?_
  refine af ?_
  refine RT.mv .none rfl (tl rfl) ?_
  refine RT.mv .none rfl (tl rfl) ?_
  refine RT.load .none rfl rfl (.cons rfl (.cons rfl (.cons rfl (.cons rfl (.nil))))) rfl (tl rfl) ?_
  refine RT.yield .none hr rfl (fun _ h=>h) rfl (i) rfl rfl hi (by exact⟨rfl,(by show AV.sv _=AV.sv _;rw[iy hb]),trivial⟩) (tl rfl) (fun yb=>?_)
  cases yb
  ·
   refine RT.not .none rfl (tl rfl) true rfl ?_
   refine RT.done ?_
   refine ae.n ?_
   refine cj rfl ?_
   refine aj ?_
   refine aG.r ?_
   refine ae.r ?_
   refine ae.r ?_
   refine aG.r ?_
   exact⟨.inr rfl,(fun h=>by cases h)⟩
  ·
   refine RT.not .none rfl (tl rfl) false rfl ?_
   refine RT.done ?_
   refine ae.n ?_
   refine dJ rfl ?_
   refine aE ?_
   refine aG.n ?_
   refine ae.n ?_
   refine af ?_
   refine RT.add .none (((i:Nat):Int)+1) rfl rfl (tl rfl) (k7 (by omega)) ?_
   refine RT.mv .none rfl (tl rfl) ?_
   refine RT.done ?_
   refine ae.n ?_
   refine⟨⟨i+1,by omega⟩,(by dsimp only;omega),?_⟩
   try dsimp only
   exact cS id rfl rfl rfl rfl rfl ⟨.sv (by first|exact SV.aa _|exact SV.ak (by omega)|exact SV.ak (by push_cast;omega)|exact SV.ak (by dsimp only;omega)|exact SV.imp_eq (by simp)),.sv (by first|exact SV.aa _|exact SV.ak (by omega)|exact SV.ak (by push_cast;omega)|exact SV.ak (by dsimp only;omega)|exact SV.imp_eq (by simp)),.sv (by first|exact SV.aa _|exact SV.ak (by omega)|exact SV.ak (by push_cast;omega)|exact SV.ak (by dsimp only;omega)|exact SV.imp_eq (by simp)),.sv (by first|exact SV.aa _|exact SV.ak (by omega)|exact SV.ak (by push_cast;omega)|exact SV.ak (by dsimp only;omega)|exact SV.imp_eq (by simp)),.sv (by first|exact SV.aa _|exact SV.ak (by omega)|exact SV.ak (by push_cast;omega)|exact SV.ak (by dsimp only;omega)|exact SV.imp_eq (by simp)),trivial⟩ trivial trivial (fun _ _=>rfl)
 ·
  subst hi
  refine aN ?_
  refine af ?_
  refine RT.lss .none (false) rfl rfl (tl rfl) (by simp) ?_
  refine RT.done ?_
  refine ae.n ?_
  refine aN ?_
  refine dJ rfl ?_
  refine aZ ?_
  refine ae.x ?_
  refine ae.x ?_
  refine aG.x ?_
  exact⟨.inl rfl,(fun _=>rfl)⟩
theorem Dr{x0:Lr}{r:Sz}(h:nZ x0=some r):Pure Tryz.prog 83 [.agg (DO x0)] (.agg (eSz r)):=by
 obtain⟨aA,aB,aK,aL⟩:=x0
 refine ay Tryz.func83 rfl (Nat.le_of_ble_eq_true rfl) (fun cE M vs hvs=>?_)
 unfold nZ at h
 refine sr<|bx rfl<|al (cs:=[.v (.int .i64 0),.v (.int .i64 0),.v (.int .i64 0),.v (.int .i64 0)]) (by exact⟨SV.aa _,SV.aa _,SV.aa _,SV.aa _,trivial⟩) rfl<|dn<|sr<|fa rfl rfl<|lV rfl rfl rfl<|fa rfl rfl<|lV rfl rfl rfl<|lE h fun x7 h7 h=>ln rfl h7<|fa rfl rfl<|lV rfl rfl rfl<|lE h fun dB fM h=>ln rfl fM<|fa rfl rfl ?_
 refine lV rfl rfl rfl<|lE h fun iu gN h=>ln rfl gN<|bI (cs:=[_,_,_,_]) (cs':=[.v (.int .i64 aA),.v (.int .i64 x7),.v (.int .i64 dB),.v (.int .i64 iu)]) (.one rfl (.one rfl (.one rfl (.one rfl (.nil))))) ⟨SV.aa _,SV.aa _,SV.aa _,SV.aa _,trivial⟩<|so rfl rfl rfl<|dn<|aj ?_
 obtain rfl:=O h
 exact RZ (.agg rfl rfl (.cons rfl (.cons rfl (.cons rfl (.cons rfl (.nil))))) rfl (.nil))
theorem pS{x0:Lr}{r:Bool}(h:gO x0=some r):Pure Tryz.prog 34 [.agg (DO x0)] (.v (.bool r)):=by
 obtain⟨aA,aB,aK,aL⟩:=x0
 refine ay Tryz.func34 rfl (Nat.le_of_ble_eq_true rfl) (fun cE M vs hvs=>?_)
 unfold gO at h
 refine sr<|bx rfl<|ag rfl<|dn<|sr<|ld rfl rfl (.cons rfl (.cons rfl (.cons rfl (.cons rfl (.nil))))) ?_
 obtain⟨⟨Dl,G2,Dm,Fx⟩,h5,h⟩:=bS h
 refine cl (Dr h5) ⟨rfl,trivial⟩<|al (cs:=[.v (.int .i64 0),.v (.int .i64 0),.v (.int .i64 0),.v (.int .i64 0)]) (by exact⟨SV.aa _,SV.aa _,SV.aa _,SV.aa _,trivial⟩) rfl<|so rfl rfl rfl<|dn<|qq<|qq ?_
 refine aF h (fun WL=>AS.bG 48 [(1,.ptr 1 0),(3,.ptr 3 0),(23,.sv (.v (.bool WL)))] [(3,⟨97,[.sv (.v (.int .i64 Dl)),.sv (.v (.int .i64 G2)),.sv (.v (.int .i64 Dm)),.sv (.v (.int .i64 Fx))]⟩),(1,⟨25,[.sv (.v (.int .i64 aA)),.sv (slc 1 (List.map (eS 4 eQ) aB)),.sv (slc 1 (List.map (eS 4 eQ) aK)),.sv (slc 4 (List.map eQ aL))]⟩)] []) (fun h=>?_) (fun Ol h=>?_)
 refine af<|fa rfl rfl<|lV rfl rfl rfl<|lE h fun x8 h8 h=>ls _ rfl rfl h8<|mv rfl<|bE h fun Oo vw h=>?_
 cases x8
 refine RT.fieldAddr (.some rfl rfl) rfl T rfl<|RT.sV (.some rfl rfl) rfl rfl rfl T<|lE (F vw) fun dh ey vw=>gg _ rfl rfl ey ?_
 obtain rfl:=O vw
 refine pF rfl<|mv rfl<|bE h fun aej Ls h=>?_
 cases dh
 refine RT.fieldAddr (.some rfl rfl) rfl T rfl<|RT.sV (.some rfl rfl) rfl rfl rfl T<|lE (F Ls) fun gh kJ Ls=>RT.lss (.some rfl rfl) _ rfl rfl T kJ ?_
 obtain rfl:=O Ls
 refine pF rfl<|mv rfl<|bE h fun aek Q5 h=>?_
 cases gh
 refine RT.fieldAddr (.some rfl rfl) rfl T rfl<|RT.sV (.some rfl rfl) rfl rfl rfl T<|lE (F Q5) fun kf nK Q5=>gg _ rfl rfl nK ?_
 obtain rfl:=O Q5
 exact pF rfl<|dn<|⟨kf,h,wR []⟩
 obtain rfl:=O (V Q5)
 exact ww<|ww<|ww<|pT rfl<|dn<|⟨true,h,wR []⟩
 obtain rfl:=O (V Ls)
 refine ww<|ww<|ww<|pT rfl<|mv rfl<|bE h fun WM uu h=>?_
 obtain rfl:=O (V uu)
 exact ww<|ww<|ww<|pT rfl<|dn<|⟨true,h,wR []⟩
 obtain rfl:=O (V vw)
 refine ww<|ww<|ww<|pT rfl<|mv rfl<|bE h fun ael r9 h=>?_
 obtain rfl:=O (V r9)
 refine ww<|ww<|ww<|pT rfl<|mv rfl<|bE h fun aem uw h=>?_
 obtain rfl:=O (V uw)
 exact ww<|ww<|ww<|pT rfl<|dn<|⟨true,h,wR []⟩
 try dsimp only
 refine ae.n ?_
 cases Ol
 refine fs<|qq<|qq ?_
 refine aF (F h) (fun Lh=>AS.bG 48 [(1,.ptr 1 0),(3,.ptr 3 0),(33,.sv (.v (.bool Lh)))] [(3,⟨97,[.sv (.v (.int .i64 Dl)),.sv (.v (.int .i64 G2)),.sv (.v (.int .i64 Dm)),.sv (.v (.int .i64 Fx))]⟩),(1,⟨25,[.sv (.v (.int .i64 aA)),.sv (slc 1 (List.map (eS 4 eQ) aB)),.sv (slc 1 (List.map (eS 4 eQ) aK)),.sv (slc 4 (List.map eQ aL))]⟩)] []) (fun h=>?_) (fun I8 h=>?_)
 refine af<|fa rfl rfl<|lV rfl rfl rfl<|lE h fun lf nY h=>gt _ rfl rfl nY<|mv rfl<|bE h fun On ko h=>?_
 cases lf
 refine RT.fieldAddr (.some rfl rfl) rfl T rfl<|RT.sV (.some rfl rfl) rfl rfl rfl T<|RT.fieldAddr (.some rfl rfl) rfl T rfl<|RT.sV (.some rfl rfl) rfl rfl rfl T<|lE (F ko) fun iE kA ko=>gq _ rfl rfl (ER (p:=Fx) (q:=Dm) kA) ?_
 obtain rfl:=O ko
 exact pF rfl<|dn<|⟨iE,h,wR []⟩
 obtain rfl:=O (V ko)
 exact ww<|ww<|ww<|ww<|ww<|pT rfl<|dn<|⟨true,h,wR []⟩
 try dsimp only
 refine ae.n ?_
 cases I8
 refine fs<|qq ?_
 refine aF (F h) (fun ZH=>AS.bG 48 [(2,.sv (.v (.bool ZH)))] [] []) (fun h=>?_) (fun Tu h=>?_)
 refine ai mixed<|fa rfl rfl<|lV rfl rfl rfl<|bE h fun pH pA h=>cl (zH pA) ⟨rfl,trivial⟩<|fa rfl rfl<|lV rfl rfl rfl<|lE h fun rj z4 h=>RT.leq .none _ rfl rfl T z4<|mv rfl<|bE h fun Om jr h=>?_
 cases rj
 obtain rfl:=O (F jr)
 refine ww<|ww<|ww<|ww<|ww<|ww<|pF rfl<|ag rfl ?_
 refine RT.done ⟨by kernel_rfl,?_⟩
 exact ae.n<|⟨false,h,wR []⟩
 refine RT.fieldAddr (.some rfl rfl) rfl T rfl<|RT.sV (.some rfl rfl) rfl rfl rfl T<|bE (V jr) fun ri AA jr=>gc (zH AA) ⟨rfl,trivial⟩<|RT.fieldAddr (.some rfl rfl) rfl T rfl<|RT.sV (.some rfl rfl) rfl rfl rfl T<|lE jr fun uV h46 jr=>RT.leq (.some rfl rfl) _ rfl rfl T h46 ?_
 obtain rfl:=O jr
 refine pT rfl<|ag rfl ?_
 refine RT.done ⟨by kernel_rfl,?_⟩
 exact ae.n<|⟨uV,h,wR []⟩
 try dsimp only
 refine ae.n<|aj ?_
 obtain rfl:=O h
 exact R1 rfl
 refine cT<|sr<|ag rfl<|dn<|aj<|ae.r ?_
 obtain rfl:=O (V h)
 exact R1 rfl
 refine cT<|sr<|ag rfl<|dn<|aj<|ae.r ?_
 obtain rfl:=O (V h)
 exact R1 rfl
theorem ux{x0:Lr}{x1:List Qr}{r:Bool}(h:fJ x0 x1=some r):Pure Tryz.prog 36 [.agg (DO x0),slc 4 (List.map eQ x1)] (.v (.bool r)):=by
 obtain⟨aA,aB,aK,aL⟩:=x0
 refine ay Tryz.func36 rfl (Nat.le_of_ble_eq_true rfl) (fun cE M vs hvs=>?_)
 unfold fJ at h
 refine sr<|bx rfl<|RT.vZ .none (s:=.sv _) rfl T rfl rfl<|ag rfl<|dn<|MQ<|qq<|qq ?_
 refine aF h (fun j3=>AS.bG 42 [(2,.ptr 2 0),(3,.ptr 3 0),(19,.sv (.v (.bool j3)))] [(3,⟨23,[.sv (slc 4 (List.map eQ x1))]⟩),(2,⟨25,[.sv (.v (.int .i64 aA)),.sv (slc 1 (List.map (eS 4 eQ) aB)),.sv (slc 1 (List.map (eS 4 eQ) aK)),.sv (slc 4 (List.map eQ aL))]⟩)] []) (fun h=>?_) (fun Oq h=>?_)
 refine af<|ld rfl rfl (.cons rfl (.cons rfl (.cons rfl (.cons rfl (.nil)))))<|bE h fun gY mG h=>cl (pS mG) ⟨rfl,trivial⟩<|lE h fun dh ey h=>nt rfl _ ey<|mv rfl<|bE h fun Ot Lt h=>?_
 cases dh
 refine RT.sV (.some rfl rfl) rfl rfl rfl T<|lE (F Lt) fun dQ fN Lt=>gn rfl fN<|RT.fieldAddr (.some rfl rfl) rfl T rfl<|RT.sV (.some rfl rfl) rfl rfl rfl T<|lE Lt fun eD ij Lt=>gg _ rfl rfl ij ?_
 obtain rfl:=O Lt
 exact pF rfl<|dn<|⟨eD,h,wR []⟩
 obtain rfl:=O (V Lt)
 exact ww<|ww<|ww<|ww<|ww<|pT rfl<|dn<|⟨true,h,wR []⟩
 try dsimp only
 refine ae.n ?_
 cases Oq
 refine fs<|qq<|sr<|lV rfl rfl rfl<|lE (F h) fun gz mH h=>ln rfl mH<|mv rfl<|dn<|bE h fun e9 hl9 ho9=>?_
 refine aV (fun(xe9:Unit)=>AS.bG 42 [(2,.ptr 2 0),(3,.ptr 3 0)] [(3,⟨23,[.sv (slc 4 (List.map eQ x1))]⟩),(2,⟨25,[.sv (.v (.int .i64 aA)),.sv (slc 1 (List.map (eS 4 eQ) aB)),.sv (slc 1 (List.map (eS 4 eQ) aK)),.sv (slc 4 (List.map eQ aL))]⟩)] []) (fun xe9=>.inl xe9=e9) ?_ (fun xe9 hx9=>?_)
 refine aq ?_
 refine aW hl9 (fun s9=>AS.bG 42 [(2,.ptr 2 0),(3,.ptr 3 0),(20,.sv (slc 4 (List.map eQ x1))),(21,.sv (.v (.int .i64 gz))),(22,.sv (.v (.int .i64 s9)))] [(3,⟨23,[.sv (slc 4 (List.map eQ x1))]⟩),(2,⟨25,[.sv (.v (.int .i64 aA)),.sv (slc 1 (List.map (eS 4 eQ) aB)),.sv (slc 1 (List.map (eS 4 eQ) aK)),.sv (slc 4 (List.map eQ aL))]⟩)] []) (wR []) (fun J3 y9 G9 h hG9 hE9=>?_)
 try dsimp only
 refine sr<|lE h fun jw pz h=>ls _ rfl rfl pz<|dn<|qq ?_
 cases jw
 refine cF<|aZ<|ae.x<|ae.x<|aG.x<|ae.n ?_
 obtain rfl:=O (F h)
 exact⟨(),hE9 _ rfl,wR []⟩
 refine cT<|aE<|ae.n<|qq<|aq<|sr ?_
 obtain⟨⟨⟨oH,oI⟩,⟨oJ,oK⟩⟩,l9,h⟩:=bS (V h)
 refine ix rfl rfl l9<|RT.iw (cs:=[_,_,_,_]) .none rfl T rfl rfl<|al (cs:=[.v (.bool false),slc 1 (List.map ah []),.v (.bool false),slc 1 (List.map ah [])]) (by exact⟨SV.aa _,imp_nil,SV.aa _,imp_nil,trivial⟩) rfl<|so rfl rfl rfl<|dn<|sr<|ld rfl rfl (.cons rfl (.cons rfl (.cons rfl (.cons rfl (.nil)))))<|bE h fun kj og h=>cl (fB og) ⟨rfl,trivial⟩<|lE h fun nX tR h=>ls _ rfl rfl tR<|dn ?_
 cases nX
 refine cF<|aE<|aG.n<|ae.n<|af<|lE (F h) fun gA iP h=>ad _ rfl rfl iP<|mv rfl<|RT.done ?_
 obtain rfl:=O h
 exact ae.n ⟨gA,hG9 _ rfl,wR []⟩
 refine cT<|sr<|ag rfl<|dn<|aj<|aG.r<|ae.r ?_
 obtain rfl:=O (V h)
 have he9:=hE9 _ rfl
 subst he9
 refine ae.r<|aG.r<|ae.r<|ae.r<|MP.r ?_
 obtain rfl:=O ho9
 exact R1 rfl
 subst hx9
 try dsimp only
 refine ae.n<|sr<|al (cs:=[.v (.bool false)]) (by exact⟨SV.aa _,trivial⟩) rfl<|RT.mz (cells:=[_]) .none (s:=.sv _) rfl rfl rfl T rfl<|dn<|qq<|MR<|ae.n<|qq<|sr<|ld rfl rfl (.cons rfl (.cons rfl (.cons rfl (.cons rfl (.nil)))))<|cl (xN ⟨aA,aB,aK,aL⟩) ⟨rfl,trivial⟩<|dn<|aq<|bE ho9 fun JS BB ik=>?_
 obtain⟨m12,aeo,aiX,aep,aeq⟩:=yA BB
 refine mP (xO ⟨aA,aB,aK,aL⟩) (fun _ _ _ _ _=>trivial) rfl (fun k=>AS.bG 42 [(3,.ptr 3 0),(7,.ptr 7 0),(31,.sv (gX 126 [ref [.v (.int .i64 aA),slc 1 (List.map (eS 4 eQ) aB),slc 1 (List.map (eS 4 eQ) aK),slc 4 (List.map eQ aL)]]))] [(7,⟨4,[.sv (.v (.bool true))]⟩),(3,⟨23,[.sv (slc 4 (List.map eQ x1))]⟩)] []) [7,3] rfl (fun _=>⟨rfl,rfl⟩) (nH rfl) (fun _=>rfl) (nI rfl) (by(try dsimp only);(try dsimp only);exact cS id rfl rfl rfl rfl rfl ⟨.ptr,.ptr,.sv (SV.aa _),trivial⟩ ⟨⟨_,rfl,⟨.sv (SV.aa _),trivial⟩⟩,⟨_,rfl,⟨.sv (SV.aa _),trivial⟩⟩,trivial⟩ trivial (fun _ _=>rfl)) m12 (fun k hk hkm D hD=>?_) (fun hdn=>?_)
 obtain⟨y12,h,Fh,Fi⟩:=aep k hk hkm
 dsimp only[AS.JH,ot]
 try dsimp only at h
 refine lE h fun p32 aer h=>?_
 rw[aer]
 obtain⟨⟨⟨Tw,Tx⟩,⟨Ty,Tz⟩⟩,aes,h⟩:=bS h
 rw[Option.some.inj aes]
 refine sr<|ag rfl<|dn<|af<|al (cs:=[.v (.bool false),slc 1 (List.map ah []),.v (.bool false),slc 1 (List.map ah [])]) (by exact⟨SV.aa _,imp_nil,SV.aa _,imp_nil,trivial⟩) rfl<|so rfl rfl rfl<|RT.done ?_
 refine ae.n ⟨rfl,?_⟩
 dsimp only[AS.xw]
 refine aq<|qq<|ai mixed<|mv rfl<|lV rfl rfl rfl ?_
 obtain⟨⟨⟨pI,pJ⟩,⟨D6,D7⟩⟩,pA,h⟩:=bS h
 refine cl (wK pA) ⟨rfl,rfl,trivial⟩<|ld rfl rfl (.cons rfl (.cons rfl (.cons rfl (.cons rfl (.nil)))))<|bE h fun xy Ff h=>cl (zG Ff) ⟨rfl,rfl,trivial⟩ ?_
 refine RT.done ⟨by kernel_rfl,?_⟩
 refine ae.n<|aq<|sr<|lE h fun kg mQ h=>eq _ rfl rfl (tB (p:=xy) (q:=1) mQ)<|ag rfl<|dn ?_
 cases kg
 refine cF<|aE<|aG.n<|aG.n ?_
 obtain rfl:=O (F h)
 obtain⟨aet,aiY⟩:=Fh _ rfl
 exact⟨aet,rfl,rfl,wR []⟩
 refine cT<|sr<|RT.mz (cells:=[_]) .none (s:=.sv _) rfl rfl rfl T rfl<|dn<|aZ<|aG.y (by decide)<|aG.y (by decide) ?_
 obtain rfl:=O (V h)
 have aeu:=Fi _ rfl
 subst aeu
 refine⟨rfl,rfl,?_⟩
 refine aG.x<|ae.n<|sr<|lV rfl rfl rfl<|ag rfl<|dn<|aj<|MP.r ?_
 obtain rfl:=O ik
 exact R1 rfl
 have aev:=aeq hdn
 subst aev
 obtain⟨aiZ,Z2⟩:∃q,aeo ((Lr.rows ⟨aA,aB,aK,aL⟩).length)=q:=⟨_,rfl⟩
 rw[Z2]at ik
 try dsimp only
 refine aG.n<|ae.n<|sr<|lV rfl rfl rfl<|ag rfl<|dn<|aj<|MP.r ?_
 obtain rfl:=O ik
 exact R1 rfl
 refine cT<|sr<|ag rfl<|dn<|aj<|ae.r<|MP.r ?_
 obtain rfl:=O (V h)
 exact R1 rfl
theorem uy{x0:Lr}{x1:List Qr}{r:List Qr}(h:iW x0 x1=some r):Pure Tryz.prog 39 [.agg (DO x0),slc 4 (List.map eQ x1)] (slc 4 (List.map eQ r)):=by
 obtain⟨aA,aB,aK,aL⟩:=x0
 refine ay Tryz.func39 rfl (Nat.le_of_ble_eq_true rfl) (fun cE M vs hvs=>?_)
 unfold iW at h
 refine sr<|bx rfl<|aI rfl (imp_nil (n:=4) (e:=eQ))<|dn<|sr<|fa rfl rfl<|lV rfl rfl rfl<|mv rfl<|bE h fun x8 h8 h=>cl (Dq h8) ⟨rfl,rfl,trivial⟩<|ag rfl<|dn<|aj ?_
 obtain rfl:=O h
 exact R1 rfl
theorem Ds{x0:Lr}{x1:List Qr}{x2:List Qr}{r:Int}(h:lF x0 x1 x2=some r):Pure Tryz.prog 43 [.agg (DO x0),slc 4 (List.map eQ x1),slc 4 (List.map eQ x2)] (.v (.int .i64 r)):=by
 obtain⟨aA,aB,aK,aL⟩:=x0
 refine ay Tryz.func43 rfl (Nat.le_of_ble_eq_true rfl) (fun cE M vs hvs=>?_)
 unfold lF at h
 refine sr<|bx rfl<|ag rfl<|dn<|qq<|qq<|ai mixed<|ld rfl rfl (.cons rfl (.cons rfl (.cons rfl (.cons rfl (.nil)))))<|mv rfl<|bE h fun dB fM h=>cl (uy fM) ⟨rfl,rfl,trivial⟩<|ld rfl rfl (.cons rfl (.cons rfl (.cons rfl (.cons rfl (.nil)))))<|mv rfl<|bE h fun iu gN h=>cl (uy gN) ⟨rfl,rfl,trivial⟩<|bE h fun eH jc h=>cl (lC jc) ⟨rfl,rfl,trivial⟩ ?_
 refine ag rfl ?_
 refine RT.done ⟨by kernel_rfl,?_⟩
 refine ae.n<|sr<|mv rfl<|lE h fun gy jA h=>ne _ rfl rfl (ER (p:=eH) (q:=0) jA)<|dn ?_
 cases gy
 refine fs<|sr<|mv rfl<|mv rfl<|bE (F h) fun gV l8 h=>cl (lC l8) ⟨rfl,rfl,trivial⟩<|ag rfl<|dn<|aj ?_
 obtain rfl:=O h
 exact R1 rfl
 refine cT<|sr<|mv rfl<|ag rfl<|dn<|aj<|ae.r ?_
 obtain rfl:=O (V h)
 exact R1 rfl
theorem Ab{x0:Lr}{x1:List Qr}{r:List Qr}(h:lG x0 x1=some r):A8 Tryz.prog 39 [.agg (DO x0),slc 4 (List.map eQ x1)] (TR 43 4 eQ r):=by
 obtain⟨aA,aB,aK,aL⟩:=x0
 refine rC Tryz.func39 rfl (Nat.le_of_ble_eq_true rfl) (fun cE M vs hvs=>?_)
 unfold lG at h
 refine sr<|bx rfl<|ag rfl<|dn<|bz (iO 4 304 43 4 rfl rfl T)<|sr<|fa rfl rfl<|lV rfl rfl rfl<|mv rfl<|bE h fun x8 h8 h=>cN (Cc h8) ⟨rfl,rfl,trivial⟩<|an (s:=.row _) rfl<|dn<|aj ?_
 obtain rfl:=O h
 exact⟨.inr rfl,_,.tmp rfl,rfl⟩
end Go.Proofs.YtningmnklfpfjaaGreat
