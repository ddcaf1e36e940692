/- A part of the proof: the framework, the plain functions, the followed functions, the plain laws. -/
import Derived.Test.YtningmnklfpfjaaGreatPTE2
set_option linter.unusedVariables false
set_option linter.unusedSimpArgs false
namespace Go.Proofs.YtningmnklfpfjaaGreat
open Go.Fw Go.Fw.Z Go.RowKit
theorem pS{x0:List Nat}{x1:Nat}{r:Nat×List Nat}(h:ig x0 x1=some r):IM Tryz.prog 204 [.row 1000,.sv (.v (.int .u64 ((x1:Nat):Int)))] (TR 130 1 ah x0) (.sv (.v (.int .u64 ((r.1:Nat):Int)))) (List.flatMap ah r.2):=by
 refine wJ Tryz.func204 rfl (Nat.le_of_ble_eq_true rfl) rfl rfl (fun cG M v0=>?_)
 unfold ig at h
 refine sr<|ag rfl<|dn<|sr<|ag rfl<|dn<|qq<|sr<|mo (s:=.row _) rfl<|lE h fun x9 h9 h=>lL rfl rfl h9<|lE h fun dm fD h=>sb _ rfl rfl fD<|ag rfl<|dn<|bE h fun e8 Am ud=>?_
 refine aV (fun(Ej:Nat×(List Nat))=>AS.bG 34 [(5,.sv (.v (.int .u64 ((Ej.1:Nat):Int))))] [] [(1000,TR 130 1 ah Ej.2)]) (fun Ej=>Ej=e8) ?_ (fun Ej An=>?_)
 refine ak ?_
 refine aW Am (fun s8=>AS.bG 34 [(0,.row 1000),(1,.sv (.v (.int .u64 ((x1:Nat):Int)))),(5,.sv (.v (.int .u64 ((s8.1:Nat):Int)))),(6,.sv (.v (.int .i64 s8.2.1)))] [] [(1000,TR 130 1 ah s8.2.2)]) (wR []) (fun s8 y8 G8 h Ao Ap=>?_)
 obtain⟨MU,MV,rQ⟩:=s8
 try dsimp only
 refine qq<|sr<|mv rfl<|lE h fun dB eI h=>ge _ rfl rfl eI<|dn ?_
 cases dB
 refine cF<|aZ<|ae.x<|ae.x<|aG.x<|ae.n ?_
 obtain rfl:=O (F h)
 exact⟨(MU,rQ),Ap _ rfl,wR []⟩
 refine cT<|aE<|ae.n<|qq<|ak<|sr<|mv rfl<|lE (V h) fun gu iQ h=>RT.shl .none _ rfl rfl T (by decide) (UK.shl (a:=MU) (q:=32) (s:=32) rfl iQ)<|mo (s:=.row _) rfl<|mv rfl<|bE h fun kW kx h=>iR rfl rfl rfl kx<|bE h fun gB lM h=>lR rfl rfl lM rfl<|lE h fun iv nS h=>cv _ rfl (UK.nat nS)<|lE h fun iP mD h=>RT.or .none _ rfl rfl T (UK.or (a:=gu) (b:=iv) mD)<|ag rfl<|dn<|sr<|mo (s:=.row _) rfl ?_
 refine mv rfl<|mv rfl<|mv rfl<|bE h fun kq m7 h=>RT.quo .none _ rfl rfl T (nzU m7) (UK.quo m7)<|lE h fun mN rY h=>cv _ rfl (UK.nat rY)<|bE h fun gH iT h=>iR rfl rfl rfl iT<|bE h fun qH kE h=>sR mN rfl rfl rfl rfl kE<|dn<|af<|mv rfl<|mv rfl<|bE h fun iD kz h=>RT.rem .none _ rfl rfl T (XY kz) (KY kz)<|ag rfl<|RT.done<|aG.n<|ae.n<|af<|mv rfl<|lE h fun eU jg h=>sb _ rfl rfl jg ?_
 refine ag rfl<|RT.done ?_
 obtain rfl:=O h
 exact ae.n ⟨(iD,eU,qH),Ao _ rfl,wR []⟩
 subst An
 obtain⟨Y3,AY⟩:=Ej
 try dsimp only
 refine ae.n<|sr<|mv rfl<|ag rfl<|dn<|aj<|bE ud fun _ hle ud=>?_
 obtain rfl:=O ud
 exact⟨.inr rfl,.sv (gE (.tmp rfl (.nil)) (SV.aa _)),(by show _=lq.live ⟨130,1,x0.length,List.flatMap ah AY⟩;rw[←iC hle];rfl)⟩
theorem oM{x0:List Nat}{x1:Nat}{r:List Nat}(h:fk x0 x1=some r):Pure Tryz.prog 211 [slc 1 (List.map ah x0),.v (.int .u64 ((x1:Nat):Int))] (slc 1 (List.map ah r)):=by
 refine ay Tryz.func211 rfl (Nat.le_of_ble_eq_true rfl) (fun cG M vs hvs=>?_)
 unfold fk at h
 refine sr<|aI rfl (imp_nil (n:=1) (e:=ah))<|dn<|sr<|RT.tJ .none (cz 0) rfl ⟨rfl,trivial⟩ T rfl rfl<|an (s:=.ey _ _) rfl<|dn<|sr<|mv rfl<|lE h fun gU mB h=>ln rfl mB<|lE h fun dB eI h=>ad _ rfl rfl eI<|bE h fun fB fT h=>RT.v9 (e:=ah) .none rfl rfl T rfl T fT<|an (s:=.row _) rfl<|dn<|qq<|sr<|mv rfl<|lE h fun dA fE h=>ln rfl fE ?_
 refine mv rfl<|dn<|bE h fun e8 Am ud=>?_
 refine aV (fun(Ej:Nat×(List Nat))=>AS.bG 35 [(5,.ey 202 [.box 9]),(6,.row 302)] [(9,⟨128,[.sv (.v (.int .u64 ((Ej.1:Nat):Int)))]⟩)] [(302,TR 130 1 ah Ej.2)]) (fun Ej=>Ej=e8) ?_ (fun Ej An=>?_)
 refine ak ?_
 refine aW Am (fun s8=>AS.bG 35 [(1,.sv (.v (.int .u64 ((x1:Nat):Int)))),(5,.ey 202 [.box 9]),(6,.row 302),(14,.sv (slc 1 (List.map ah x0))),(15,.sv (.v (.int .i64 dA))),(16,.sv (.v (.int .i64 s8.1)))] [(9,⟨128,[.sv (.v (.int .u64 ((s8.2.1:Nat):Int)))]⟩)] [(302,TR 130 1 ah s8.2.2)]) (cH (fun i=>bif Nat.beq i 302 then 13 else i) rfl rfl rfl rfl rfl ⟨.sv (SV.aa _),.ey,.row rfl,.sv (SV.aa _),.sv (SV.aa _),.sv (SV.aa _),trivial⟩ ⟨⟨_,rfl,⟨.sv (SV.aa _),trivial⟩⟩,trivial⟩ ⟨⟨_,rfl,bQ.refl _⟩,trivial⟩ (fun i hi=>by rw[bH (show i≠302 by omega)];rfl)) (fun s8 y8 G8 h Ao Ap=>?_)
 obtain⟨xM,rR,gx⟩:=s8
 try dsimp only
 refine sr<|lE h fun eT jD h=>ls _ rfl rfl jD<|dn<|qq ?_
 cases eT
 refine cF<|aZ<|ae.x<|ae.x<|aG.x<|ae.n ?_
 obtain rfl:=O (F h)
 exact⟨(rR,gx),Ap _ rfl,wR []⟩
 refine cT<|aE<|ae.n<|qq<|ak<|sr<|bE (V h) fun ek gV h=>ix rfl rfl gV<|lr rfl rfl<|ag rfl<|dn<|af<|mo (s:=.row _) rfl<|mo (s:=.ey _ _) rfl<|mv rfl<|lE h fun kA qL h=>cv _ rfl (UK.nat qL)<|mv rfl<|lE h fun yH qM h=>RT.shl .none _ rfl rfl T (Int.natCast_nonneg _) (UK.shl (a:=kA) (q:=((x1:Nat):Int)) (s:=min x1 64) rfl qM) ?_
 obtain⟨⟨lI,UC⟩,nT,h⟩:=bS h
 refine cB (aY nT) 9 rfl ⟨rfl,trivial⟩<|bl (l:=[lI]) (e:=ah) (.one rfl (.nil)) rfl rfl rfl rfl rfl rfl<|bE h fun mN rY h=>aR (k:=[lI]) (e:=ah) rfl rfl rfl rY<|an (s:=.row _) rfl<|RT.done<|aG.n<|ae.n<|af<|lE h fun gH iT h=>ad _ rfl rfl iT<|mv rfl<|RT.done ?_
 obtain rfl:=O h
 exact ae.n ⟨(gH,UC,mN),Ao _ rfl,cH (fun i=>bif Nat.beq i 302 then 28 else i) rfl rfl rfl rfl rfl ⟨.sv (SV.aa _),.ey,.row rfl,.sv (SV.aa _),.sv (SV.aa _),.sv (SV.aa _),trivial⟩ ⟨⟨_,rfl,⟨.sv (SV.aa _),trivial⟩⟩,trivial⟩ ⟨⟨_,rfl,bQ.refl _⟩,trivial⟩ (fun i hi=>by rw[bH (show i≠302 by omega)];rfl)⟩
 subst An
 obtain⟨BH,MW⟩:=Ej
 try dsimp only
 refine ae.n<|sr<|mo (s:=.row _) rfl<|mo (s:=.ey _ _) rfl ?_
 obtain⟨⟨iD,k12⟩,kz,ud⟩:=bS ud
 refine cB (aY kz) 9 rfl ⟨rfl,trivial⟩<|bl (l:=[iD]) (e:=ah) (.one rfl (.nil)) rfl rfl rfl rfl rfl rfl<|bE ud fun pH ql ud=>RT.MJ (k:=[iD]) (e:=ah) .none rfl rfl rfl T rfl T ql<|ag rfl<|dn<|aj ?_
 obtain rfl:=O ud
 exact R1 rfl
theorem oa{x0:List Nat}{x1:Nat}{r:List Nat}(h:iE x0 x1=some r):Ah Tryz.prog 211 [slc 1 (List.map ah x0),.v (.int .u64 ((x1:Nat):Int))] (TR 130 1 ah r):=by
 refine oH Tryz.func211 rfl (Nat.le_of_ble_eq_true rfl) (fun cG M vs hvs=>?_)
 unfold iE at h
 refine sr<|ag rfl<|dn<|bh (fW 4 304 130 1 rfl rfl T)<|sr<|RT.tJ .none (cz 0) rfl ⟨rfl,trivial⟩ T rfl rfl<|an (s:=.ey _ _) rfl<|dn<|sr<|mv rfl<|lE h fun gU mB h=>ln rfl mB<|lE h fun dB eI h=>ad _ rfl rfl eI<|bE h fun fB fT h=>RT.v9 (e:=ah) .none rfl rfl T rfl T fT<|an (s:=.row _) rfl<|dn<|qq<|sr<|mv rfl<|lE h fun dA fE h=>ln rfl fE ?_
 refine mv rfl<|dn<|bE h fun e8 Am ud=>?_
 refine aV (fun(Ej:Nat×(List Nat))=>AS.bG 35 [(5,.ey 202 [.box 9]),(6,.row 306)] [(9,⟨128,[.sv (.v (.int .u64 ((Ej.1:Nat):Int)))]⟩)] [(306,TR 130 1 ah Ej.2)]) (fun Ej=>Ej=e8) ?_ (fun Ej An=>?_)
 refine ak ?_
 refine aW Am (fun s8=>AS.bG 35 [(1,.sv (.v (.int .u64 ((x1:Nat):Int)))),(5,.ey 202 [.box 9]),(6,.row 306),(14,.sv (slc 1 (List.map ah x0))),(15,.sv (.v (.int .i64 dA))),(16,.sv (.v (.int .i64 s8.1)))] [(9,⟨128,[.sv (.v (.int .u64 ((s8.2.1:Nat):Int)))]⟩)] [(306,TR 130 1 ah s8.2.2)]) (cH (fun i=>bif Nat.beq i 306 then 13 else i) rfl rfl rfl rfl rfl ⟨.sv (SV.aa _),.ey,.row rfl,.sv (SV.aa _),.sv (SV.aa _),.sv (SV.aa _),trivial⟩ ⟨⟨_,rfl,⟨.sv (SV.aa _),trivial⟩⟩,trivial⟩ ⟨⟨_,rfl,bQ.refl _⟩,trivial⟩ (fun i hi=>by rw[bH (show i≠306 by omega)];rfl)) (fun s8 y8 G8 h Ao Ap=>?_)
 obtain⟨xM,rR,Ff⟩:=s8
 try dsimp only
 refine sr<|lE h fun eT jD h=>ls _ rfl rfl jD<|dn<|qq ?_
 cases eT
 refine cF<|aZ<|ae.x<|ae.x<|aG.x<|ae.n ?_
 obtain rfl:=O (F h)
 exact⟨(rR,Ff),Ap _ rfl,wR []⟩
 refine cT<|aE<|ae.n<|qq<|ak<|sr<|bE (V h) fun ek gV h=>ix rfl rfl gV<|lr rfl rfl<|ag rfl<|dn<|af<|mo (s:=.row _) rfl<|mo (s:=.ey _ _) rfl<|mv rfl<|lE h fun kA qL h=>cv _ rfl (UK.nat qL)<|mv rfl<|lE h fun yH qM h=>RT.shl .none _ rfl rfl T (Int.natCast_nonneg _) (UK.shl (a:=kA) (q:=((x1:Nat):Int)) (s:=min x1 64) rfl qM) ?_
 obtain⟨⟨lI,UC⟩,nT,h⟩:=bS h
 refine cB (aY nT) 9 rfl ⟨rfl,trivial⟩<|bl (l:=[lI]) (e:=ah) (.one rfl (.nil)) rfl rfl rfl rfl rfl rfl<|bE h fun mN rY h=>aR (k:=[lI]) (e:=ah) rfl rfl rfl rY<|an (s:=.row _) rfl<|RT.done<|aG.n<|ae.n<|af<|lE h fun gH iT h=>ad _ rfl rfl iT<|mv rfl<|RT.done ?_
 obtain rfl:=O h
 exact ae.n ⟨(gH,UC,mN),Ao _ rfl,cH (fun i=>bif Nat.beq i 306 then 28 else i) rfl rfl rfl rfl rfl ⟨.sv (SV.aa _),.ey,.row rfl,.sv (SV.aa _),.sv (SV.aa _),.sv (SV.aa _),trivial⟩ ⟨⟨_,rfl,⟨.sv (SV.aa _),trivial⟩⟩,trivial⟩ ⟨⟨_,rfl,bQ.refl _⟩,trivial⟩ (fun i hi=>by rw[bH (show i≠306 by omega)];rfl)⟩
 subst An
 obtain⟨BH,MX⟩:=Ej
 try dsimp only
 refine ae.n<|sr<|mo (s:=.row _) rfl<|mo (s:=.ey _ _) rfl ?_
 obtain⟨⟨iD,k12⟩,kz,ud⟩:=bS ud
 refine cB (aY kz) 9 rfl ⟨rfl,trivial⟩<|bl (l:=[iD]) (e:=ah) (.one rfl (.nil)) rfl rfl rfl rfl rfl rfl<|bE ud fun pH ql ud=>aR (k:=[iD]) (e:=ah) rfl rfl rfl ql<|an (s:=.row _) rfl<|dn<|aj ?_
 obtain rfl:=O ud
 exact⟨.inr rfl,_,.tmp rfl,rfl⟩
theorem wX{x0:Nat}{r:Int}(h:gI x0=some r):Pure Tryz.prog 215 [.v (.int .u32 ((x0:Nat):Int))] (.v (.int .i64 r)):=by
 refine ay Tryz.func215 rfl (Nat.le_of_ble_eq_true rfl) (fun cG M vs hvs=>?_)
 unfold gI at h
 refine sr<|ag rfl<|dn<|qq<|sr<|mv rfl<|lE h fun x4 h4 h=>ge _ rfl rfl (leN (p:=65536) (q:=x0) h4)<|dn ?_
 refine aF h (fun j2=>AS.bG 19 [(0,.sv (.v (.int .u32 ((j2.1:Nat):Int)))),(2,.sv (.v (.int .i64 j2.2)))] [] []) (fun h=>?_) (fun j2 h=>?_)
 cases x4
 exact fs<|⟨(x0,0),(F h),wR []⟩
 exact cT<|sr<|mv rfl<|lE (V h) fun x6 h6 h=>RT.shr .none _ rfl rfl T (by decide) (Aj (k:=.u32) (a:=x0) (q:=16) (s:=16) rfl h6)<|ag rfl<|dn<|af<|ag rfl<|dn<|⟨(x6,16),h,wR []⟩
 obtain⟨IV,QN⟩:=j2
 try dsimp only
 refine ae.n<|qq<|sr<|mv rfl<|lE h fun x8 h8 h=>ge _ rfl rfl (leN (p:=256) (q:=IV) h8)<|dn ?_
 refine aF h (fun j4=>AS.bG 19 [(0,.sv (.v (.int .u32 ((j4.1:Nat):Int)))),(2,.sv (.v (.int .i64 j4.2)))] [] []) (fun h=>?_) (fun j4 h=>?_)
 cases x8
 exact fs<|⟨(IV,QN),(F h),wR []⟩
 exact cT<|sr<|mv rfl<|lE (V h) fun dm fD h=>RT.shr .none _ rfl rfl T (by decide) (Aj (k:=.u32) (a:=IV) (q:=8) (s:=8) rfl fD)<|ag rfl<|dn<|af<|mv rfl<|lE h fun dB eI h=>ad _ rfl rfl eI<|ag rfl<|dn<|⟨(dm,dB),h,wR []⟩
 obtain⟨Y4,Y5⟩:=j4
 try dsimp only
 refine ae.n<|sr<|mv rfl<|mv rfl<|lE h fun dA fE h=>cv _ rfl (UK.nat fE)<|bE h fun gu iQ h=>?_
 refine RT.six (l:=[0,1,2,2,3,3,3,3,4,4,4,4,4,4,4,4,5,5,5,5,5,5,5,5,5,5,5,5,5,5,5,5,6,6,6,6,6,6,6,6,6,6,6,6,6,6,6,6,6,6,6,6,6,6,6,6,6,6,6,6,6,6,6,6,7,7,7,7,7,7,7,7,7,7,7,7,7,7,7,7,7,7,7,7,7,7,7,7,7,7,7,7,7,7,7,7,7,7,7,7,7,7,7,7,7,7,7,7,7,7,7,7,7,7,7,7,7,7,7,7,7,7,7,7,7,7,7,7,8,8,8,8,8,8,8,8,8,8,8,8,8,8,8,8,8,8,8,8,8,8,8,8,8,8,8,8,8,8,8,8,8,8,8,8,8,8,8,8,8,8,8,8,8,8,8,8,8,8,8,8,8,8,8,8,8,8,8,8,8,8,8,8,8,8,8,8,8,8,8,8,8,8,8,8,8,8,8,8,8,8,8,8,8,8,8,8,8,8,8,8,8,8,8,8,8,8,8,8,8,8,8,8,8,8,8,8,8,8,8,8,8,8,8,8,8,8,8,8,8,8,8,8,8,8,8,8]) .none rfl rfl T iQ ?_
 refine lE h fun eT jD h=>cv _ rfl jD<|lE h fun ek gV h=>ad _ rfl rfl gV<|ag rfl<|dn<|aj ?_
 obtain rfl:=O h
 exact R1 rfl
theorem jr{x0:Nat}{r:Int}(h:cZ x0=some r):Pure Tryz.prog 210 [.v (.int .u32 ((x0:Nat):Int))] (.v (.int .i64 r)):=by
 refine ay Tryz.func210 rfl (Nat.le_of_ble_eq_true rfl) (fun cG M vs hvs=>?_)
 unfold cZ at h
 refine sr<|ag rfl<|dn<|sr<|mv rfl<|bE h fun x4 h4 h=>cl (wX h4) ⟨rfl,trivial⟩<|lE h fun x5 h5 h=>sb _ rfl rfl h5<|ag rfl<|dn<|aj ?_
 obtain rfl:=O h
 exact R1 rfl
theorem pU{x0:List Nat}{o0:Nat}{n0:Nat}{x1:List Nat}{r:Nat×List Nat}(h:ij x0 o0 n0 x1=some r):IM Tryz.prog 212 [.nP 1000 (o0*1) n0,.sv (slc 1 (List.map ah x1))] (TR 130 1 ah x0) (.sv (.v (.int .u64 ((r.1:Nat):Int)))) (List.flatMap ah r.2):=by
 refine wJ Tryz.func212 rfl (Nat.le_of_ble_eq_true rfl) rfl rfl (fun cG M v0=>?_)
 unfold ij at h
 refine sr<|ag rfl<|dn<|sr<|mv rfl<|lE h fun dB eI h=>ln rfl eI<|ag rfl<|dn<|qq<|ai mixed<|mo (s:=.nP _ _ _) rfl<|mv rfl<|bE h fun dA fE h=>RT.GM .none rfl rfl T fE<|bE h fun gu iQ h=>lR rfl rfl iQ rfl<|lE h fun eT jD h=>cv _ rfl (UK.nat jD)<|lE h fun ek gV h=>RT.shl .none _ rfl rfl T (by decide) (UK.shl (a:=eT) (q:=32) (s:=32) rfl gV)<|mo (s:=.nP _ _ _) rfl ?_
 refine mv rfl<|lE h fun iv nS h=>sb _ rfl rfl nS<|bE h fun iP mD h=>RT.GM .none rfl rfl T mD<|bE h fun kA qL h=>lR rfl rfl qL rfl<|lE h fun fR kD h=>cv _ rfl (UK.nat kD)<|lE h fun yH qM h=>RT.or .none _ rfl rfl T (UK.or (a:=ek) (b:=fR) qM)<|ag rfl ?_
 refine RT.done ⟨by kernel_rfl,?_⟩
 refine ae.n<|qq<|ai mixed<|mv rfl<|mv rfl<|lE h fun mN rY h=>sb _ rfl rfl rY<|bE h fun gH iT h=>ix rfl rfl iT<|lr rfl rfl<|lE h fun td xS h=>cv _ rfl (UK.nat xS)<|mv rfl<|mv rfl<|lE h fun pH ql h=>sb _ rfl rfl ql<|bE h fun rO za h=>ix rfl rfl za<|lr rfl rfl<|lE h fun tf xU h=>cv _ rfl (UK.nat xU)<|ag rfl<|ag rfl ?_
 refine RT.done ⟨by kernel_rfl,?_⟩
 refine ae.n<|qq<|ai mixed<|mv rfl<|mv rfl<|bE h fun lu nO h=>RT.quo .none _ rfl rfl T (nzU nO) (UK.quo nO)<|mv rfl<|mv rfl<|bE h fun vn Dj h=>RT.rem .none _ rfl rfl T (XY Dj) (KY Dj)<|ag rfl<|ag rfl ?_
 refine RT.done ⟨by kernel_rfl,?_⟩
 refine ae.n<|qq<|bE h fun Lg BT xR=>?_
 refine aV (fun(K1:Nat)=>AS.bG 71 [(9,.sv (.v (.int .u64 ((K1:Nat):Int))))] [] [(1000,TR 130 1 ah x0)]) (fun K1=>K1=Lg) ?_ (fun K1 BU=>?_)
 refine ak ?_
 refine aW BT (fun zZ=>AS.bG 71 [(0,.nP 1000 (o0*1) n0),(5,.sv (.v (.int .i64 dB))),(7,.sv (.v (.int .u64 ((td:Nat):Int)))),(8,.sv (.v (.int .u64 ((tf:Nat):Int)))),(9,.sv (.v (.int .u64 ((zZ.1:Nat):Int)))),(10,.sv (.v (.int .u64 ((zZ.2:Nat):Int))))] [] [(1000,TR 130 1 ah x0)]) (wR []) (fun zZ Zg Zh h BV y5=>?_)
 obtain⟨Dw,Eb⟩:=zZ
 try dsimp only
 refine qq<|qq ?_
 refine aF h (fun Lh=>AS.bG 71 [(0,.nP 1000 (o0*1) n0),(5,.sv (.v (.int .i64 dB))),(7,.sv (.v (.int .u64 ((td:Nat):Int)))),(8,.sv (.v (.int .u64 ((tf:Nat):Int)))),(9,.sv (.v (.int .u64 ((Dw:Nat):Int)))),(10,.sv (.v (.int .u64 ((Eb:Nat):Int)))),(61,.sv (.v (.bool Lh)))] [] [(1000,TR 130 1 ah x0)]) (fun h=>?_) (fun IW h=>?_)
 refine af<|mv rfl<|lE h fun Di I1 h=>RT.shr .none _ rfl rfl T (by decide) (Aj (k:=.u64) (a:=Dw) (q:=32) (s:=32) rfl I1)<|lE h fun vp h46 h=>ne _ rfl rfl (neN (p:=Di) (q:=0) h46)<|mv rfl<|bE h fun MZ eC h=>?_
 cases vp
 refine gm rfl<|gm rfl<|lE (F eC) fun vo DD eC=>RT.mul (.some rfl rfl) _ rfl rfl T (UK.mul (a:=Dw) (b:=tf) DD)<|gm rfl<|lE eC fun wj zg eC=>RT.shl (.some rfl rfl) _ rfl rfl T (by decide) (UK.shl (a:=Eb) (q:=32) (s:=32) rfl zg)<|RT.move (.some rfl rfl) (s:=.nP _ _ _) rfl T<|gm rfl<|lE eC fun xz GW eC=>RT.sub (.some rfl rfl) _ rfl rfl T GW<|bE eC fun Fb I2 eC=>RT.GM (.some rfl rfl) rfl rfl T I2<|bE eC fun Qe Vc eC=>RT.YR (.some rfl rfl) rfl rfl Vc rfl T ?_
 refine lE eC fun x58 h58 eC=>RT.conv (.some rfl rfl) _ rfl T (UK.nat h58)<|lE eC fun IU QX eC=>RT.or (.some rfl rfl) _ rfl rfl T (UK.or (a:=wj) (b:=x58) QX)<|lE eC fun JX I3 eC=>gg _ rfl rfl (YN (p:=IU) (q:=vo) I3) ?_
 obtain rfl:=O eC
 exact pF rfl<|dn<|⟨JX,h,wR []⟩
 obtain rfl:=O (V eC)
 exact ww<|ww<|ww<|ww<|ww<|ww<|ww<|ww<|ww<|ww<|ww<|ww<|ww<|pT rfl<|dn<|⟨true,h,wR []⟩
 try dsimp only
 refine ae.n ?_
 cases IW
 refine cF<|aZ<|ae.x<|ae.x<|aG.x<|ae.n ?_
 obtain rfl:=O (F h)
 exact⟨Dw,y5 _ rfl,wR []⟩
 refine cT<|aE<|ae.n<|ak<|sr<|mv rfl<|lE (V h) fun UD h63 h=>sb _ rfl rfl (UK.sub (a:=Dw) (b:=1) h63)<|ag rfl<|dn<|sr<|mv rfl<|mv rfl<|lE h fun L2 Zi h=>ad _ rfl rfl (UK.add (a:=Eb) (b:=td) Zi)<|ag rfl<|dn<|sr<|mv rfl<|lE h fun L3 Zj h=>RT.shr .none _ rfl rfl T (by decide) (Aj (k:=.u64) (a:=L2) (q:=32) (s:=32) rfl Zj)<|lE h fun MY Zk h=>ne _ rfl rfl (neN (p:=L3) (q:=0) Zk) ?_
 refine dn ?_
 cases MY
 refine cF<|aE<|aG.n ?_
 obtain rfl:=O (F h)
 exact ae.n ⟨(UD,L2),BV _ rfl,wR []⟩
 refine cT<|aZ<|aG.y (by decide)<|ae.x<|aG.x<|ae.n ?_
 obtain rfl:=O (V h)
 exact⟨UD,y5 _ rfl,wR []⟩
 subst BU
 try dsimp only
 refine ae.n<|sr<|mv rfl<|ag rfl<|dn<|aj<|bE xR fun _ hle xR=>?_
 obtain rfl:=O xR
 exact⟨.inr rfl,.sv (gE (.tmp rfl (.nil)) (SV.aa _)),(by show _=lq.live ⟨130,1,x0.length,List.flatMap ah x0⟩;rw[←iC hle];rfl)⟩
theorem ko{x0:List Nat}{o0:Nat}{n0:Nat}{x1:List Nat}{x2:Nat}{r:Bool×List Nat}(h:cS x0 o0 n0 x1 x2=some r):IM Tryz.prog 213 [.nP 1000 (o0*1) n0,.sv (slc 1 (List.map ah x1)),.sv (.v (.int .u64 ((x2:Nat):Int)))] (TR 130 1 ah x0) (.sv (.v (.bool r.1))) (List.flatMap ah r.2):=by
 refine wJ Tryz.func213 rfl (Nat.le_of_ble_eq_true rfl) rfl rfl (fun cG M v0=>?_)
 unfold cS at h
 refine sr<|ag rfl<|dn<|sr<|ag rfl<|dn<|sr<|RT.tJ .none (cz 0) rfl ⟨rfl,trivial⟩ T rfl rfl<|an (s:=.ey _ _) rfl<|dn<|qq<|sr<|mo (s:=.nP _ _ _) rfl<|lE h fun eU jg h=>RT.UA .none rfl T jg<|mv rfl<|dn<|bE h fun M3 Fi jh=>?_
 refine aV (fun(qN:Nat×(List Nat))=>AS.bG 51 [(7,.sv (.v (.int .u64 ((qN.1:Nat):Int))))] [] [(1000,TR 130 1 ah qN.2)]) (fun qN=>qN=M3) ?_ (fun qN I4=>?_)
 refine ak ?_
 refine aW Fi (fun xN=>AS.bG 51 [(0,.nP 1000 (o0*1) n0),(1,.sv (slc 1 (List.map ah x1))),(2,.sv (.v (.int .u64 ((x2:Nat):Int)))),(7,.sv (.v (.int .u64 ((xN.1:Nat):Int)))),(8,.ey 202 [.box 12]),(14,.sv (.v (.int .i64 eU))),(15,.sv (.v (.int .i64 xN.2.1)))] [(12,⟨128,[.sv (.v (.int .u64 ((xN.2.2.1:Nat):Int)))]⟩)] [(1000,TR 130 1 ah xN.2.2.2)]) (wR []) (fun xN y12 G12 h I5 I6=>?_)
 obtain⟨La,xO,Fg,vr⟩:=xN
 try dsimp only
 refine sr<|lE h fun gu iQ h=>ls _ rfl rfl iQ<|dn<|qq ?_
 cases gu
 refine cF<|aZ<|ae.x<|ae.x<|aG.x<|ae.n ?_
 obtain rfl:=O (F h)
 exact⟨(La,vr),I6 _ rfl,wR []⟩
 refine cT<|aE<|ae.n<|qq<|ak<|sr<|mv rfl<|ag rfl<|dn<|sr<|ag rfl<|dn<|qq<|sr<|mv rfl<|mv rfl<|lE (V h) fun gB lM h=>ln rfl lM<|lE h fun iv nS h=>ls _ rfl rfl nS<|dn ?_
 refine aF h (fun j14=>AS.bG 51 [(0,.nP 1000 (o0*1) n0),(1,.sv (slc 1 (List.map ah x1))),(2,.sv (.v (.int .u64 ((x2:Nat):Int)))),(7,.sv (.v (.int .u64 ((La:Nat):Int)))),(8,.ey 202 [.box 12]),(9,.sv (.v (.int .i64 xO))),(10,.sv (.v (.int .u64 ((j14:Nat):Int)))),(14,.sv (.v (.int .i64 eU))),(15,.sv (.v (.int .i64 xO)))] [(12,⟨128,[.sv (.v (.int .u64 ((Fg:Nat):Int)))]⟩)] [(1000,TR 130 1 ah vr)]) (fun h=>?_) (fun M1 h=>?_)
 cases iv
 exact fs<|⟨0,(F h),wR []⟩
 exact cT<|af<|mv rfl<|mv rfl<|bE (V h) fun fR kD h=>ix rfl rfl kD<|lr rfl rfl<|lE h fun lI nT h=>cv _ rfl (UK.nat nT)<|mv rfl<|lE h fun mN rY h=>RT.mul .none _ rfl rfl T (UK.mul (a:=lI) (b:=x2) rY)<|ag rfl<|dn<|⟨mN,h,wR []⟩
 try dsimp only
 refine ae.n<|qq<|ai mixed<|mo (s:=.nP _ _ _) rfl<|mv rfl<|bE h fun td xS h=>RT.GM .none rfl rfl T xS<|bE h fun iD kz h=>lR rfl rfl kz rfl<|lE h fun rS rZ h=>cv _ rfl (UK.nat rZ)<|mo (s:=.ey _ _) rfl<|mv rfl ?_
 obtain⟨⟨oC,k16⟩,pL,h⟩:=bS h
 refine cB (aY pL) 12 rfl ⟨rfl,trivial⟩<|lE h fun tf xU h=>cv _ rfl (UK.nat xU)<|lE h fun Al GS h=>sb _ rfl rfl (UK.sub (a:=rS) (b:=tf) GS)<|mv rfl<|lE h fun lu nO h=>sb _ rfl rfl (UK.sub (a:=Al) (b:=La) nO)<|ag rfl ?_
 refine RT.done ⟨by kernel_rfl,?_⟩
 refine ae.n<|sr<|mo (s:=.nP _ _ _) rfl<|mv rfl<|mv rfl<|lE h fun vJ zh h=>cv _ rfl (UK.nat zh)<|bE h fun Di I1 h=>RT.GM .none rfl rfl T I1<|bE h fun l18 Zl h=>sR vJ rfl rfl rfl rfl Zl<|dn<|af<|mv rfl<|lE h fun tQ wW h=>RT.shr .none _ rfl rfl T (by decide) (Aj (k:=.u64) (a:=lu) (q:=63) (s:=63) rfl wW)<|ag rfl<|RT.done<|aG.n<|ae.n<|af<|lE h fun sO h48 h=>ad _ rfl rfl h48<|mv rfl<|RT.done ?_
 obtain rfl:=O h
 exact ae.n ⟨(tQ,sO,k16,l18),I5 _ rfl,wR []⟩
 subst I4
 obtain⟨M4,xP⟩:=qN
 try dsimp only
 refine ae.n<|sr<|mv rfl<|lE jh fun vo DD jh=>ne _ rfl rfl (neN (p:=M4) (q:=0) DD)<|ag rfl<|dn<|aj<|bE jh fun _ hle jh=>?_
 obtain rfl:=O jh
 exact⟨.inr rfl,.sv (gE (.tmp rfl (.nil)) (SV.aa _)),(by show _=lq.live ⟨130,1,x0.length,List.flatMap ah xP⟩;rw[←iC hle];rfl)⟩
set_option maxHeartbeats 4000000 in
theorem zj{x0:List Nat}{x1:List Nat}{r:(List Nat)×(List Nat)}(h:fz x0 x1=some r):Pure Tryz.prog 205 [slc 1 (List.map ah x0),slc 1 (List.map ah x1)] (.vW [slc 1 (List.map ah r.1),slc 1 (List.map ah r.2)]):=by
 refine ay Tryz.func205 rfl (Nat.le_of_ble_eq_true rfl) (fun cG M vs hvs=>?_)
 unfold fz at h
 refine sr<|ag rfl<|ag rfl<|dn<|bh (fW 4 306 130 1 rfl rfl T)<|bh (fW 5 308 130 1 rfl rfl T)<|sr<|mv rfl<|lE h fun eT jD h=>ln rfl jD<|ag rfl<|dn<|sr<|mv rfl<|mv rfl<|lE h fun gB lM h=>sb _ rfl rfl lM<|bE h fun iv nS h=>ix rfl rfl nS<|lr rfl rfl<|bE h fun kA qL h=>cl (jr qL) ⟨rfl,trivial⟩ ?_
 refine lE h fun fR kD h=>cv _ rfl (UK.conv kD)<|ag rfl<|dn<|qq<|ai mixed<|mv rfl<|mv rfl<|bE h fun kq m7 h=>cN (oa m7) ⟨rfl,rfl,trivial⟩<|mv rfl<|mv rfl<|bE h fun yW wV h=>cl (oM wV) ⟨rfl,rfl,trivial⟩<|mv rfl<|bE h fun iD kz h=>RT.wP .none 0 eT rfl rfl ⟨_,rfl⟩ T kz<|an (s:=.row _) rfl<|ag rfl ?_
 refine RT.done ⟨by kernel_rfl,?_⟩
 refine ae.n<|sr<|mv rfl<|lE h fun pH ql h=>ln rfl ql<|mv rfl<|lE h fun oC pL h=>sb _ rfl rfl pL<|lE h fun tf xU h=>ad _ rfl rfl xU<|bE h fun Al GS h=>RT.jy (n:=1) (e:=ah) .none rfl rfl T rfl T (by rfl) (by decide) (by exact⟨SV.aa _,trivial⟩) GS<|an (s:=.row _) rfl<|dn<|qq<|sr<|mv rfl<|lE h fun lu nO h=>ln rfl nO<|mv rfl<|lE h fun rB ze h=>sb _ rfl rfl ze ?_
 refine ag rfl<|dn<|bE h fun Zd Vd I7=>?_
 refine aV (fun(zk:(List Nat)×(List Nat))=>AS.bG 141 [(4,.row 38),(6,.sv (.v (.int .i64 eT))),(7,.sv (.v (.int .u64 ((fR:Nat):Int)))),(8,.row 27)] [] [(38,TR 130 1 ah zk.1),(27,TR 130 1 ah zk.2)]) (fun zk=>zk=Zd) ?_ (fun zk Ve=>?_)
 refine ak ?_
 refine aW Vd (fun Lb=>AS.bG 141 [(4,.row 38),(6,.sv (.v (.int .i64 eT))),(7,.sv (.v (.int .u64 ((fR:Nat):Int)))),(8,.row 27),(9,.sv (slc 1 (List.map ah iD))),(10,.sv (.v (.int .i64 Lb.1)))] [] [(38,TR 130 1 ah Lb.2.1),(27,TR 130 1 ah Lb.2.2)]) (wR []) (fun Lb y36 G36 h Vf Vg=>?_)
 obtain⟨fX,mP,qk⟩:=Lb
 try dsimp only
 refine qq<|sr<|mv rfl<|lE h fun vJ zh h=>ge _ rfl rfl zh<|dn ?_
 cases vJ
 refine cF<|aZ<|ae.x<|ae.x<|aG.x<|ae.n ?_
 obtain rfl:=O (F h)
 exact⟨(mP,qk),Vg _ rfl,wR []⟩
 refine cT<|aE<|ae.n<|qq<|ak<|sr<|mo (s:=.row _) rfl<|mv rfl<|mv rfl<|mv rfl<|lE (V h) fun BF DE h=>ad _ rfl rfl DE<|lE h fun wj zg h=>ad _ rfl rfl zg ?_
 obtain⟨⟨o53,n53⟩,QY,h⟩:=bS h
 refine RT.QG .none fX wj rfl rfl ⟨_,rfl⟩ ⟨_,rfl⟩ T QY<|mv rfl ?_
 obtain⟨⟨xz,IA⟩,GW,h⟩:=bS h
 refine bE h fun _ Vh h=>cR (l:=qk) (l':=IA) (e:=ah) (pU GW) (iC Vh) 27 rfl (.cons rfl (.cons rfl (.nil)))<|ag rfl<|dn<|qq<|sr<|mo (s:=.row _) rfl<|mv rfl<|mv rfl<|mv rfl<|lE h fun JX I3 h=>ad _ rfl rfl I3<|lE h fun Fe NA h=>ad _ rfl rfl NA ?_
 obtain⟨⟨o62,n62⟩,h62,h⟩:=bS h
 refine RT.QG .none fX Fe rfl rfl ⟨_,rfl⟩ ⟨_,rfl⟩ T h62<|mv rfl<|mv rfl ?_
 obtain⟨⟨Y6,Lc⟩,h65,h⟩:=bS h
 refine bE h fun _ Vi h=>cR (l:=IA) (l':=Lc) (e:=ah) (ko h65) (iC Vi) 27 rfl (.cons rfl (.cons rfl (.cons rfl (.nil))))<|dn ?_
 refine aF h (fun Ld=>AS.bG 141 [(4,.row 38),(6,.sv (.v (.int .i64 eT))),(7,.sv (.v (.int .u64 ((fR:Nat):Int)))),(8,.row 27),(9,.sv (slc 1 (List.map ah iD))),(10,.sv (.v (.int .i64 fX))),(11,.sv (.v (.int .u64 ((Ld.1:Nat):Int))))] [] [(38,TR 130 1 ah mP),(27,TR 130 1 ah Ld.2)]) (fun h=>?_) (fun Ld h=>?_)
 cases Y6
 exact fs<|⟨(xz,Lc),(F h),wR []⟩
 refine cT<|sr<|mv rfl<|lE (V h) fun Gn QZ h=>sb _ rfl rfl (UK.sub (a:=xz) (b:=1) QZ)<|ag rfl<|dn<|sr<|RT.tJ .none (cz 0) rfl ⟨rfl,trivial⟩ T rfl rfl<|an (s:=.ey _ _) rfl<|dn<|qq<|sr<|mv rfl<|lE h fun M6 Zm h=>ln rfl Zm<|mv rfl<|dn<|bE h fun Zb Vj jF=>?_
 refine aV (fun(zm:Nat×(List Nat))=>AS.bG 141 [(4,.row 38),(6,.sv (.v (.int .i64 eT))),(7,.sv (.v (.int .u64 ((fR:Nat):Int)))),(8,.row 27),(9,.sv (slc 1 (List.map ah iD))),(10,.sv (.v (.int .i64 fX))),(11,.sv (.v (.int .u64 ((Gn:Nat):Int)))),(12,.ey 202 [.box 68])] [(68,⟨128,[.sv (.v (.int .u64 ((zm.1:Nat):Int)))]⟩)] [(38,TR 130 1 ah mP),(27,TR 130 1 ah zm.2)]) (fun zm=>zm=Zb) ?_ (fun zm Vk=>?_)
 refine ak ?_
 refine aW Vj (fun Le=>AS.bG 141 [(4,.row 38),(6,.sv (.v (.int .i64 eT))),(7,.sv (.v (.int .u64 ((fR:Nat):Int)))),(8,.row 27),(9,.sv (slc 1 (List.map ah iD))),(10,.sv (.v (.int .i64 fX))),(11,.sv (.v (.int .u64 ((Gn:Nat):Int)))),(12,.ey 202 [.box 68]),(69,.sv (slc 1 (List.map ah iD))),(70,.sv (.v (.int .i64 M6))),(71,.sv (.v (.int .i64 Le.1)))] [(68,⟨128,[.sv (.v (.int .u64 ((Le.2.1:Nat):Int)))]⟩)] [(38,TR 130 1 ah mP),(27,TR 130 1 ah Le.2.2)]) (wR []) (fun Le y65 G65 h Vl Vm=>?_)
 obtain⟨wU,qJ,rT⟩:=Le
 try dsimp only
 refine sr<|lE h fun L4 Vn h=>ls _ rfl rfl Vn<|dn<|qq ?_
 cases L4
 refine cF<|aZ<|ae.x<|ae.x<|aG.x<|ae.n ?_
 obtain rfl:=O (F h)
 exact⟨(qJ,rT),Vm _ rfl,wR []⟩
 refine cT<|aE<|ae.n<|qq<|ak<|sr<|mv rfl<|bE (V h) fun UF Zn h=>ix rfl rfl Zn<|lr rfl rfl<|ag rfl<|ag rfl<|dn<|af<|mo (s:=.row _) rfl<|mv rfl<|mv rfl<|lE h fun Lf Q0 h=>ad _ rfl rfl Q0<|mo (s:=.ey _ _) rfl<|mo (s:=.row _) rfl<|mv rfl<|mv rfl<|lE h fun x84 h84 h=>ad _ rfl rfl h84<|bE h fun X1 Zo h=>iR rfl rfl rfl Zo ?_
 refine bE h fun Qf Vo h=>lR rfl rfl Vo rfl<|lE h fun QO Vp h=>cv _ rfl (UK.nat Vp)<|mv rfl<|lE h fun QS Zp h=>cv _ rfl (UK.nat Zp)<|lE h fun Qg Vq h=>ad _ rfl rfl (UK.add (a:=QO) (b:=QS) Vq) ?_
 obtain⟨⟨Y8,Y9⟩,h91,h⟩:=bS h
 refine cB (aY h91) 68 rfl ⟨rfl,trivial⟩<|bE h fun x92 h92 h=>iR rfl rfl rfl h92<|bE h fun Za NB h=>sR Y8 rfl rfl rfl rfl NB<|RT.done<|aG.n<|ae.n<|af<|lE h fun SE Zq h=>ad _ rfl rfl Zq<|mv rfl<|RT.done ?_
 obtain rfl:=O h
 exact ae.n ⟨(SE,Y9,Za),Vl _ rfl,wR []⟩
 subst Vk
 obtain⟨BJ,yX⟩:=zm
 try dsimp only
 refine ae.n<|af<|mo (s:=.row _) rfl<|mv rfl<|mv rfl<|lE jF fun X2 Zs jF=>ad _ rfl rfl Zs<|mo (s:=.ey _ _) rfl<|mo (s:=.row _) rfl<|mv rfl<|mv rfl<|lE jF fun UG Vr jF=>ad _ rfl rfl Vr<|bE jF fun IY NC jF=>iR rfl rfl rfl NC<|bE jF fun UH Vs jF=>lR rfl rfl Vs rfl<|lE jF fun UI Vt jF=>cv _ rfl (UK.nat Vt) ?_
 obtain⟨⟨M7,k72⟩,Vu,jF⟩:=bS jF
 exact cB (aY Vu) 68 rfl ⟨rfl,trivial⟩<|bE jF fun UJ Vv jF=>iR rfl rfl rfl Vv<|bE jF fun Zc ND jF=>sR M7 rfl rfl rfl rfl ND<|dn<|⟨(Gn,Zc),jF,wR []⟩
 obtain⟨IX,BI⟩:=Ld
 try dsimp only
 refine ae.n<|af<|mo (s:=.row _) rfl<|mv rfl<|mv rfl<|lE h fun M5 Vw h=>cv _ rfl (UK.nat Vw)<|bE h fun UE Vx h=>iR rfl rfl rfl Vx<|bE h fun Y7 NF h=>sR M5 rfl rfl rfl rfl NF<|RT.done<|aG.n<|ae.n<|af<|mv rfl<|lE h fun vp h46 h=>sb _ rfl rfl h46<|ag rfl<|RT.done ?_
 obtain rfl:=O h
 exact ae.n ⟨(vp,Y7,BI),Vf _ rfl,wR []⟩
 subst Ve
 obtain⟨rU,tR⟩:=zk
 try dsimp only
 refine ae.n<|sr<|mv rfl<|bE I7 fun UL Vy I7=>RT.jy (n:=1) (e:=ah) .none rfl rfl T rfl T (by rfl) (by decide) (by exact⟨SV.aa _,trivial⟩) Vy<|an (s:=.row _) rfl<|dn<|qq<|sr<|mv rfl<|mv rfl<|dn<|bE I7 fun e81 Vz VA=>?_
 refine aV (fun(jW:(List Nat))=>AS.bG 141 [(4,.row 38),(5,.row 114)] [] [(38,TR 130 1 ah rU),(114,TR 130 1 ah jW)]) (fun jW=>jW=e81) ?_ (fun jW VB=>?_)
 refine ak ?_
 refine aW Vz (fun M8=>AS.bG 141 [(4,.row 38),(5,.row 114),(7,.sv (.v (.int .u64 ((fR:Nat):Int)))),(8,.row 27),(115,.sv (.v (.int .i64 eT))),(116,.sv (.v (.int .i64 M8.1)))] [] [(38,TR 130 1 ah rU),(114,TR 130 1 ah M8.2),(27,TR 130 1 ah tR)]) (wR []) (fun M8 y81 G81 h VC VD=>?_)
 obtain⟨rV,rW⟩:=M8
 try dsimp only
 refine sr<|lE h fun M9 VE h=>ls _ rfl rfl VE<|dn<|qq ?_
 cases M9
 refine cF<|aZ<|ae.x<|ae.x<|aG.x<|ae.n ?_
 obtain rfl:=O (F h)
 exact⟨rW,VD _ rfl,wR []⟩
 refine cT<|aE<|ae.n<|qq<|ak<|sr<|mv rfl<|ag rfl<|dn<|ai mixed<|mo (s:=.row _) rfl<|mv rfl<|mo (s:=.row _) rfl<|mv rfl<|bE (V h) fun UM VF h=>iR rfl rfl rfl VF<|bE h fun UN VG h=>lR rfl rfl VG rfl<|lE h fun Na VH h=>cv _ rfl (UK.nat VH)<|mo (s:=.row _) rfl<|mv rfl<|lE h fun UO h128 h=>ad _ rfl rfl h128<|bE h fun UP VI h=>?_
 refine iR rfl rfl rfl VI<|bE h fun UQ VJ h=>lR rfl rfl VJ rfl<|lE h fun Nb VK h=>cv _ rfl (UK.nat VK)<|lE h fun Nc VL h=>RT.shl .none _ rfl rfl T (by decide) (UK.shl (a:=Nb) (q:=32) (s:=32) rfl VL)<|lE h fun Nd VM h=>RT.or .none _ rfl rfl T (UK.or (a:=Na) (b:=Nc) VM)<|mv rfl<|lE h fun UR VN h=>RT.shr .none _ rfl rfl T (Int.natCast_nonneg _) (Aj (k:=.u64) (a:=Nd) (q:=((fR:Nat):Int)) (s:=min fR 64) rfl VN)<|lE h fun Nf VO h=>cv _ rfl (UK.nat VO) ?_
 refine bE h fun US VP h=>iR rfl rfl rfl VP<|bE h fun Ze NG h=>sR Nf rfl rfl rfl rfl NG ?_
 refine RT.done ⟨by kernel_rfl,?_⟩
 refine aG.n<|ae.n<|af<|lE h fun Ng VQ h=>ad _ rfl rfl VQ<|mv rfl<|RT.done ?_
 obtain rfl:=O h
 exact ae.n ⟨(Ng,Ze),VC _ rfl,wR []⟩
 subst VB
 try dsimp only
 refine ae.n<|sr<|mo (s:=.row _) rfl<|mo (s:=.row _) rfl<|an (s:=.row _) rfl<|an (s:=.row _) rfl<|dn<|bh (c8 (i:=38) (E1:=130) (n:=1) (e:=ah) (l:=rU) rfl)<|bh (c8 (i:=114) (E1:=130) (n:=1) (e:=ah) (l:=jW) rfl)<|aj ?_
 obtain rfl:=O VA
 exact R2 rfl rfl
theorem pV{x0:List Nat}{x1:List Nat}{r:(List Nat)×(List Nat)}(h:dP x0 x1=some r):Pure Tryz.prog 193 [slc 1 (List.map ah x0),slc 1 (List.map ah x1)] (.vW [slc 1 (List.map ah r.1),slc 1 (List.map ah r.2)]):=by
 refine ay Tryz.func193 rfl (Nat.le_of_ble_eq_true rfl) (fun cG M vs hvs=>?_)
 unfold dP at h
 refine sr<|ag rfl<|aI rfl (imp_nil (n:=1) (e:=ah))<|dn<|bh (fW 4 304 130 1 rfl rfl T)<|qq<|ak<|sr<|mv rfl<|mv rfl<|bE h fun dB eI h=>cl (dr eI) ⟨rfl,rfl,trivial⟩<|lE h fun fB fT h=>ls _ rfl rfl fT<|ag rfl<|dn ?_
 cases fB
 refine cF<|sr<|mv rfl<|lE (F h) fun ek gV h=>ln rfl gV<|lE h fun kW kx h=>RT.leq .none _ rfl rfl T kx<|ag rfl<|dn ?_
 cases kW
 refine cF<|sr<|mv rfl<|lE (F h) fun oC pL h=>ln rfl pL<|lE h fun tf xU h=>eq _ rfl rfl (vh (p:=oC) (q:=1) xU)<|ag rfl<|dn ?_
 cases tf
 refine cF<|aE<|aG.n<|ae.n<|sr<|mv rfl<|mv rfl ?_
 obtain⟨⟨UT,UU⟩,zg,h⟩:=bS (F h)
 refine cl (zj zg) ⟨rfl,rfl,trivial⟩<|ex rfl rfl<|ex rfl rfl<|ag rfl<|ag rfl<|dn<|aj ?_
 obtain rfl:=O h
 exact R2 rfl rfl
 refine cT<|sr<|mv rfl<|bE (V h) fun tg BX h=>cN (mQ BX) ⟨rfl,trivial⟩<|an (s:=.row _) rfl<|dn<|sr<|mo (s:=.row _) rfl<|mv rfl<|bE h fun rB ze h=>ix rfl rfl ze<|lr rfl rfl<|lE h fun vJ zh h=>cv _ rfl (UK.nat zh) ?_
 obtain⟨⟨Di,l5⟩,I1,h⟩:=bS h
 refine bE h fun _ he5 h=>cR (l:=tg) (l':=l5) (e:=ah) (pS I1) (iC he5) 39 rfl (.cons rfl (.cons rfl (.nil)))<|ag rfl<|dn<|sr<|mo (s:=.row _) rfl<|mv rfl<|lE h fun sO h48 h=>cv _ rfl (UK.nat h48)<|bl (l:=[sO]) (e:=ah) (.one rfl (.nil)) rfl rfl rfl rfl rfl rfl<|an (s:=.row _) rfl<|ag rfl<|dn<|bh (c8 (i:=39) (E1:=130) (n:=1) (e:=ah) (l:=l5) rfl)<|aj ?_
 refine aG.r<|ae.r ?_
 obtain rfl:=O h
 exact R2 rfl rfl
 refine cT<|sr<|mv rfl<|bE (V h) fun iv nS h=>cl (dg nS) ⟨rfl,trivial⟩<|mv rfl<|bE h fun kA qL h=>cl (dg qL) ⟨rfl,trivial⟩<|ag rfl<|ag rfl<|dn<|qq<|ai mixed<|mv rfl<|mv rfl<|bE h fun lI nT h=>RT.quo .none _ rfl rfl T (nzU nT) (UK.quo nT) ?_
 obtain⟨⟨sP,qK⟩,m7,h⟩:=bS h
 refine cl (jE m7) ⟨rfl,rfl,trivial⟩<|fl rfl rfl<|mv rfl<|mv rfl<|bE h fun td xS h=>RT.rem .none _ rfl rfl T (XY xS) (KY xS) ?_
 obtain⟨⟨kX,kC⟩,kz,h⟩:=bS h
 refine cl (jE kz) ⟨rfl,rfl,trivial⟩<|fl rfl rfl<|ag rfl<|ag rfl ?_
 refine RT.done ⟨by kernel_rfl,?_⟩
 refine ae.n<|aj<|aG.r<|ae.r ?_
 obtain rfl:=O h
 exact R2 rfl rfl
 refine cT<|sr<|mv rfl<|bE (V h) fun dA fE h=>cl (nR fE) ⟨rfl,trivial⟩<|ag rfl<|ag rfl<|dn<|bh (fW 4 310 130 1 rfl rfl T)<|bh (c8 (i:=310) (E1:=130) (n:=1) (e:=ah) (l:=[]) rfl)<|aj<|aG.r<|ae.r ?_
 obtain rfl:=O h
 exact R2 rfl rfl
end Go.Proofs.YtningmnklfpfjaaGreat
namespace Go.Proofs.YtningmnklfpfjaaGreat
open Go.Fw Go.Fw.Z Go.RowKit
theorem dJ{x0:Int}{r:Zr}(h:bw x0=some r):Pure Tryz.prog 90 [.v (.int .i64 x0)] (.agg (eZ r)):=by
 refine ay Tryz.func90 rfl (Nat.le_of_ble_eq_true rfl) (fun cG M vs hvs=>?_)
 unfold bw at h
 refine sr<|al (cs:=[.v (.bool false),slc 1 (List.map ah [])]) (by exact⟨SV.aa _,imp_nil,trivial⟩) rfl<|dn<|sr<|mv rfl<|lE h fun x5 h5 h=>cv _ rfl (UK.conv h5)<|ag rfl<|dn<|qq<|sr<|mv rfl<|lE h fun x7 h7 h=>ls _ rfl rfl h7<|dn ?_
 refine aF h (fun j2=>AS.bG 14 [(0,.sv (.v (.int .i64 x0))),(2,.ptr 2 0),(3,.sv (.v (.int .u64 ((j2:Nat):Int))))] [(2,⟨41,[.sv (.v (.bool false)),.sv (slc 1 (List.map ah []))]⟩)] []) (fun h=>?_) (fun UW h=>?_)
 cases x7
 exact fs<|⟨x5,(F h),wR []⟩
 exact cT<|af<|mv rfl<|lE (V h) fun x9 h9 h=>RT.neg .none _ rfl T (UK.neg h9)<|ag rfl<|dn<|⟨x9,h,wR []⟩
 try dsimp only
 refine ae.n<|sr<|mv rfl<|lE h fun gU mB h=>ls _ rfl rfl mB<|mv rfl ?_
 obtain⟨⟨Ec,Ed⟩,fT,h⟩:=bS h
 refine cl (jE fT) ⟨rfl,rfl,trivial⟩<|so rfl rfl rfl<|dn<|aj ?_
 obtain rfl:=O h
 exact RZ (.agg rfl rfl (.cons rfl (.cons rfl (.nil))) rfl (.nil))
theorem cP{x0:Zr}{r:Int×Bool}(h:c7 x0=some r):Pure Tryz.prog 166 [.agg (eZ x0)] (.vW [.v (.int .i64 r.1),.v (.bool r.2)]):=by
 obtain⟨aB,aC⟩:=x0
 refine ay Tryz.func166 rfl (Nat.le_of_ble_eq_true rfl) (fun cG M vs hvs=>?_)
 unfold c7 at h
 refine sr<|bx rfl<|ag rfl<|ag rfl<|dn<|sr<|fa rfl rfl<|lV rfl rfl rfl<|bE h fun x8 h8 h=>cl (aS h8) ⟨rfl,trivial⟩<|ag rfl<|dn<|qq<|sr<|mv rfl<|lE h fun dm fD h=>ln rfl fD<|lE h fun gU mB h=>gt _ rfl rfl mB<|dn ?_
 cases gU
 refine fs<|sr<|mv rfl<|bE (F h) fun fB fT h=>cl (dg fT) ⟨rfl,trivial⟩<|ag rfl<|dn<|qq<|sr<|fa rfl rfl<|lV rfl rfl rfl<|dn ?_
 cases aB
 refine fs<|qq<|sr<|mv rfl<|lE (F h) fun iP mD h=>ge _ rfl rfl (leN (p:=9223372036854775808) (q:=fB) mD)<|dn ?_
 cases iP
 refine fs<|sr<|mv rfl<|lE (F h) fun fR kD h=>cv _ rfl kD<|ag rfl<|ag rfl<|dn<|aj ?_
 obtain rfl:=O h
 exact R2 rfl rfl
 refine cT<|sr<|ag rfl<|ag rfl<|dn<|aj<|ae.r ?_
 obtain rfl:=O (V h)
 exact R2 rfl rfl
 refine cT<|qq<|sr<|mv rfl<|lE (V h) fun eT jD h=>gt _ rfl rfl (YN (p:=9223372036854775808) (q:=fB) jD)<|dn ?_
 cases eT
 refine fs<|sr<|mv rfl<|lE (F h) fun kW kx h=>RT.neg .none _ rfl T (UK.neg kx)<|lE h fun gB lM h=>cv _ rfl lM<|ag rfl<|ag rfl<|dn<|aj<|ae.r ?_
 obtain rfl:=O h
 exact R2 rfl rfl
 refine cT<|sr<|ag rfl<|ag rfl<|dn<|aj<|ae.r<|ae.r ?_
 obtain rfl:=O (V h)
 exact R2 rfl rfl
 refine cT<|sr<|ag rfl<|ag rfl<|dn<|aj<|ae.r ?_
 obtain rfl:=O (V h)
 exact R2 rfl rfl
theorem oN{x0:Bool}{x1:List Nat}{x2:Bool}{x3:List Nat}{r:Zr}(h:cf x0 x1 x2 x3=some r):Pure Tryz.prog 203 [.v (.bool x0),slc 1 (List.map ah x1),.v (.bool x2),slc 1 (List.map ah x3)] (.agg (eZ r)):=by
 refine ay Tryz.func203 rfl (Nat.le_of_ble_eq_true rfl) (fun cG M vs hvs=>?_)
 unfold cf at h
 refine sr<|al (cs:=[.v (.bool false),slc 1 (List.map ah [])]) (by exact⟨SV.aa _,imp_nil,trivial⟩) rfl<|dn<|qq<|sr<|mv rfl<|mv rfl<|lE h fun gU mB h=>RT.Yp .none _ rfl rfl T mB<|dn ?_
 cases gU
 refine fs<|qq<|sr<|mv rfl<|mv rfl<|bE (F h) fun kW kx h=>cl (dr kx) ⟨rfl,rfl,trivial⟩<|lE h fun gB lM h=>ls _ rfl rfl lM<|dn ?_
 cases gB
 refine fs<|sr<|mv rfl<|mv rfl<|mv rfl<|bE (F h) fun gH iT h=>cl (lN iT) ⟨rfl,rfl,trivial⟩ ?_
 obtain⟨⟨oK,oL⟩,wV,h⟩:=bS h
 refine cl (eW wV) ⟨rfl,rfl,trivial⟩<|so rfl rfl rfl<|dn<|aj ?_
 obtain rfl:=O h
 exact RZ (.agg rfl rfl (.cons rfl (.cons rfl (.nil))) rfl (.nil))
 refine cT<|sr<|mv rfl<|mv rfl<|mv rfl<|bE (V h) fun fR kD h=>cl (lN kD) ⟨rfl,rfl,trivial⟩ ?_
 obtain⟨⟨ik,hG⟩,qM,h⟩:=bS h
 refine cl (eW qM) ⟨rfl,rfl,trivial⟩<|so rfl rfl rfl<|dn<|aj<|ae.r ?_
 obtain rfl:=O h
 exact RZ (.agg rfl rfl (.cons rfl (.cons rfl (.nil))) rfl (.nil))
 refine cT<|sr<|mv rfl<|mv rfl<|mv rfl<|bE (V h) fun dA fE h=>cl (pR fE) ⟨rfl,rfl,trivial⟩ ?_
 obtain⟨⟨jz,jA⟩,iQ,h⟩:=bS h
 refine cl (eW iQ) ⟨rfl,rfl,trivial⟩<|so rfl rfl rfl<|dn<|aj<|ae.r ?_
 obtain rfl:=O h
 exact RZ (.agg rfl rfl (.cons rfl (.cons rfl (.nil))) rfl (.nil))
theorem Fj{x0:Zr}{x1:Zr}{r:Zr}(h:jB x0 x1=some r):Pure Tryz.prog 188 [.agg (eZ x0),.agg (eZ x1)] (.agg (eZ r)):=by
 obtain⟨aB,aC⟩:=x0
 obtain⟨bF,bC⟩:=x1
 refine ay Tryz.func188 rfl (Nat.le_of_ble_eq_true rfl) (fun cG M vs hvs=>?_)
 unfold jB at h
 refine sr<|bx rfl<|bx rfl<|al (cs:=[.v (.bool false),slc 1 (List.map ah [])]) (by exact⟨SV.aa _,imp_nil,trivial⟩) rfl<|dn<|sr<|ld rfl rfl (.cons rfl (.cons rfl (.nil))) ?_
 obtain⟨⟨xQ,BK⟩,eI,h⟩:=bS h
 refine cl (cP eI) ⟨rfl,trivial⟩<|mv rfl<|ex rfl rfl<|ex rfl rfl<|ag rfl<|ag rfl<|dn<|sr<|ld rfl rfl (.cons rfl (.cons rfl (.nil))) ?_
 obtain⟨⟨yY,BL⟩,jD,h⟩:=bS h
 refine cl (cP jD) ⟨rfl,trivial⟩<|mv rfl<|ex rfl rfl<|ex rfl rfl<|ag rfl<|ag rfl<|dn<|qq<|qq ?_
 refine aF h (fun j3=>AS.bG 48 [(2,.ptr 2 0),(3,.ptr 3 0),(4,.ptr 4 0),(5,.sv (.v (.int .i64 xQ))),(7,.sv (.v (.int .i64 yY))),(23,.sv (.v (.bool j3)))] [(4,⟨41,[.sv (.v (.bool false)),.sv (slc 1 (List.map ah []))]⟩),(3,⟨41,[.sv (.v (.bool bF)),.sv (slc 1 (List.map ah bC))]⟩),(2,⟨41,[.sv (.v (.bool aB)),.sv (slc 1 (List.map ah aC))]⟩)] []) (fun h=>?_) (fun tW h=>?_)
 refine af<|mv rfl<|mv rfl<|bE h fun BM wm h=>?_
 cases BK
 obtain rfl:=O (F wm)
 exact ww<|pF rfl<|dn<|⟨false,h,wR []⟩
 refine gm rfl ?_
 obtain rfl:=O (V wm)
 exact pT rfl<|dn<|⟨BL,h,wR []⟩
 try dsimp only
 refine ae.n ?_
 refine aF h (fun j5=>AS.bG 48 [(2,.ptr 2 0),(3,.ptr 3 0),(4,.ptr 4 0)] [(4,⟨41,[.sv (.v (.bool false)),.sv (slc 1 (List.map ah []))]⟩),(3,⟨41,[.sv (.v (.bool bF)),.sv (slc 1 (List.map ah bC))]⟩),(2,⟨41,[.sv (.v (.bool aB)),.sv (slc 1 (List.map ah aC))]⟩)] []) (fun h=>?_) (fun j5 h=>?_)
 cases tW
 exact fs<|⟨(),(F h),wR []⟩
 refine cT<|sr<|mv rfl<|mv rfl<|lE (V h) fun lI nT h=>ad _ rfl rfl nT<|ag rfl<|dn<|sr<|mv rfl<|mv rfl<|lE h fun gH iT h=>RT.xor .none _ rfl rfl T iT<|mv rfl<|mv rfl<|lE h fun iD kz h=>RT.xor .none _ rfl rfl T kz<|lE h fun rS rZ h=>RT.and .none _ rfl rfl T rZ<|lE h fun pH ql h=>ge _ rfl rfl ql<|dn ?_
 cases pH
 exact fs<|⟨(),(F h),wR []⟩
 refine cT<|sr<|mv rfl ?_
 obtain⟨⟨tX,tY⟩,pL,h⟩:=bS (V h)
 refine cl (dJ pL) ⟨rfl,trivial⟩<|so rfl rfl rfl<|dn<|aj<|ae.r<|ae.r ?_
 obtain rfl:=O h
 exact RZ (.agg rfl rfl (.cons rfl (.cons rfl (.nil))) rfl (.nil))
 try dsimp only
 refine ae.n<|qq<|ai mixed<|fa rfl rfl<|lV rfl rfl rfl<|fa rfl rfl<|lV rfl rfl rfl<|bE h fun rP zb h=>cl (aS zb) ⟨rfl,trivial⟩<|fa rfl rfl<|lV rfl rfl rfl<|fa rfl rfl<|lV rfl rfl rfl<|bE h fun vp h46 h=>cl (aS h46) ⟨rfl,trivial⟩ ?_
 obtain⟨⟨Ee,Ef⟩,wW,h⟩:=bS h
 refine cl (oN wW) ⟨rfl,rfl,rfl,rfl,trivial⟩<|so rfl rfl rfl ?_
 refine RT.done ⟨by kernel_rfl,?_⟩
 refine ae.n<|aj ?_
 obtain rfl:=O h
 exact RZ (.agg rfl rfl (.cons rfl (.cons rfl (.nil))) rfl (.nil))
theorem Fk{x0:Zr}{x1:Zr}{r:Zr}(h:jC x0 x1=some r):Pure Tryz.prog 190 [.agg (eZ x0),.agg (eZ x1)] (.agg (eZ r)):=by
 obtain⟨aB,aC⟩:=x0
 obtain⟨bF,bC⟩:=x1
 refine ay Tryz.func190 rfl (Nat.le_of_ble_eq_true rfl) (fun cG M vs hvs=>?_)
 unfold jC at h
 refine sr<|bx rfl<|bx rfl<|al (cs:=[.v (.bool false),slc 1 (List.map ah [])]) (by exact⟨SV.aa _,imp_nil,trivial⟩) rfl<|dn<|sr<|ld rfl rfl (.cons rfl (.cons rfl (.nil))) ?_
 obtain⟨⟨xQ,BK⟩,eI,h⟩:=bS h
 refine cl (cP eI) ⟨rfl,trivial⟩<|mv rfl<|ex rfl rfl<|ex rfl rfl<|ag rfl<|ag rfl<|dn<|sr<|ld rfl rfl (.cons rfl (.cons rfl (.nil))) ?_
 obtain⟨⟨yY,BL⟩,jD,h⟩:=bS h
 refine cl (cP jD) ⟨rfl,trivial⟩<|mv rfl<|ex rfl rfl<|ex rfl rfl<|ag rfl<|ag rfl<|dn<|qq<|qq ?_
 refine aF h (fun j3=>AS.bG 49 [(2,.ptr 2 0),(3,.ptr 3 0),(4,.ptr 4 0),(5,.sv (.v (.int .i64 xQ))),(7,.sv (.v (.int .i64 yY))),(23,.sv (.v (.bool j3)))] [(4,⟨41,[.sv (.v (.bool false)),.sv (slc 1 (List.map ah []))]⟩),(3,⟨41,[.sv (.v (.bool bF)),.sv (slc 1 (List.map ah bC))]⟩),(2,⟨41,[.sv (.v (.bool aB)),.sv (slc 1 (List.map ah aC))]⟩)] []) (fun h=>?_) (fun tW h=>?_)
 refine af<|mv rfl<|mv rfl<|bE h fun BM wm h=>?_
 cases BK
 obtain rfl:=O (F wm)
 exact ww<|pF rfl<|dn<|⟨false,h,wR []⟩
 refine gm rfl ?_
 obtain rfl:=O (V wm)
 exact pT rfl<|dn<|⟨BL,h,wR []⟩
 try dsimp only
 refine ae.n ?_
 refine aF h (fun j5=>AS.bG 49 [(2,.ptr 2 0),(3,.ptr 3 0),(4,.ptr 4 0)] [(4,⟨41,[.sv (.v (.bool false)),.sv (slc 1 (List.map ah []))]⟩),(3,⟨41,[.sv (.v (.bool bF)),.sv (slc 1 (List.map ah bC))]⟩),(2,⟨41,[.sv (.v (.bool aB)),.sv (slc 1 (List.map ah aC))]⟩)] []) (fun h=>?_) (fun j5 h=>?_)
 cases tW
 exact fs<|⟨(),(F h),wR []⟩
 refine cT<|sr<|mv rfl<|mv rfl<|lE (V h) fun lI nT h=>sb _ rfl rfl nT<|ag rfl<|dn<|sr<|mv rfl<|mv rfl<|lE h fun gH iT h=>RT.xor .none _ rfl rfl T iT<|mv rfl<|mv rfl<|lE h fun iD kz h=>RT.xor .none _ rfl rfl T kz<|lE h fun rS rZ h=>RT.and .none _ rfl rfl T rZ<|lE h fun pH ql h=>ge _ rfl rfl ql<|dn ?_
 cases pH
 exact fs<|⟨(),(F h),wR []⟩
 refine cT<|sr<|mv rfl ?_
 obtain⟨⟨tX,tY⟩,pL,h⟩:=bS (V h)
 refine cl (dJ pL) ⟨rfl,trivial⟩<|so rfl rfl rfl<|dn<|aj<|ae.r<|ae.r ?_
 obtain rfl:=O h
 exact RZ (.agg rfl rfl (.cons rfl (.cons rfl (.nil))) rfl (.nil))
 try dsimp only
 refine ae.n<|qq<|ai mixed<|fa rfl rfl<|lV rfl rfl rfl<|fa rfl rfl<|lV rfl rfl rfl<|bE h fun rP zb h=>cl (aS zb) ⟨rfl,trivial⟩<|fa rfl rfl<|lV rfl rfl rfl<|lE h fun vJ zh h=>nt rfl _ zh<|fa rfl rfl<|lV rfl rfl rfl<|bE h fun tQ wW h=>cl (aS wW) ⟨rfl,trivial⟩ ?_
 obtain⟨⟨Nh,Ni⟩,h48,h⟩:=bS h
 refine cl (oN h48) ⟨rfl,rfl,rfl,rfl,trivial⟩<|so rfl rfl rfl ?_
 refine RT.done ⟨by kernel_rfl,?_⟩
 refine ae.n<|aj ?_
 obtain rfl:=O h
 exact RZ (.agg rfl rfl (.cons rfl (.cons rfl (.nil))) rfl (.nil))
theorem dD{x0:Zr}{x1:Zr}{r:Zr}(h:cu x0 x1=some r):Pure Tryz.prog 130 [.agg (eZ x0),.agg (eZ x1)] (.agg (eZ r)):=by
 obtain⟨aB,aC⟩:=x0
 obtain⟨bF,bC⟩:=x1
 refine ay Tryz.func130 rfl (Nat.le_of_ble_eq_true rfl) (fun cG M vs hvs=>?_)
 unfold cu at h
 refine sr<|bx rfl<|bx rfl<|al (cs:=[.v (.bool false),slc 1 (List.map ah [])]) (by exact⟨SV.aa _,imp_nil,trivial⟩) rfl<|dn<|qq<|ai mixed<|fa rfl rfl<|lV rfl rfl rfl<|bE h fun x9 h9 h=>cl (aS h9) ⟨rfl,trivial⟩<|fa rfl rfl<|lV rfl rfl rfl<|bE h fun dB eI h=>cl (aS eI) ⟨rfl,trivial⟩<|ag rfl<|ag rfl ?_
 refine RT.done ⟨by kernel_rfl,?_⟩
 refine ae.n<|qq<|qq ?_
 refine aF h (fun j3=>AS.bG 41 [(2,.ptr 2 0),(3,.ptr 3 0),(4,.ptr 4 0),(5,.sv (slc 1 (List.map ah x9))),(6,.sv (slc 1 (List.map ah dB))),(20,.sv (.v (.bool j3)))] [(4,⟨41,[.sv (.v (.bool false)),.sv (slc 1 (List.map ah []))]⟩),(3,⟨41,[.sv (.v (.bool bF)),.sv (slc 1 (List.map ah bC))]⟩),(2,⟨41,[.sv (.v (.bool aB)),.sv (slc 1 (List.map ah aC))]⟩)] []) (fun h=>?_) (fun GP h=>?_)
 refine af<|mv rfl<|lE h fun eU jg h=>ln rfl jg<|lE h fun dA fE h=>RT.leq .none _ rfl rfl T fE<|mv rfl<|bE h fun Nl m8 h=>?_
 cases dA
 obtain rfl:=O (F m8)
 exact ww<|ww<|ww<|pF rfl<|dn<|⟨false,h,wR []⟩
 refine gm rfl<|lE (V m8) fun ek gV m8=>gn rfl gV<|lE m8 fun kW kx m8=>RT.leq (.some rfl rfl) _ rfl rfl T kx ?_
 obtain rfl:=O m8
 exact pT rfl<|dn<|⟨kW,h,wR []⟩
 try dsimp only
 refine ae.n ?_
 cases GP
 refine fs<|qq<|ai mixed<|fa rfl rfl<|lV rfl rfl rfl<|fa rfl rfl<|lV rfl rfl rfl<|lE (F h) fun oC pL h=>RT.KQ .none _ rfl rfl T pL<|mv rfl<|mv rfl<|bE h fun tg BX h=>cl (xT BX) ⟨rfl,rfl,trivial⟩ ?_
 obtain⟨⟨tZ,ua⟩,nO,h⟩:=bS h
 refine cl (eW nO) ⟨rfl,rfl,trivial⟩<|so rfl rfl rfl ?_
 refine RT.done ⟨by kernel_rfl,?_⟩
 refine ae.n<|aj ?_
 obtain rfl:=O h
 exact RZ (.agg rfl rfl (.cons rfl (.cons rfl (.nil))) rfl (.nil))
 refine cT<|qq<|ai mixed<|fa rfl rfl<|lV rfl rfl rfl<|fa rfl rfl<|lV rfl rfl rfl<|lE (V h) fun yH qM h=>RT.KQ .none _ rfl rfl T qM<|mv rfl<|bE h fun kq m7 h=>cl (dg m7) ⟨rfl,trivial⟩<|mv rfl<|bE h fun gH iT h=>cl (dg iT) ⟨rfl,trivial⟩<|lE h fun yW wV h=>RT.mul .none _ rfl rfl T (UK.mul (a:=kq) (b:=gH) wV) ?_
 obtain⟨⟨Nj,Nk⟩,xS,h⟩:=bS h
 refine cl (jE xS) ⟨rfl,rfl,trivial⟩<|so rfl rfl rfl ?_
 refine RT.done ⟨by kernel_rfl,?_⟩
 refine ae.n<|aj<|ae.r ?_
 obtain rfl:=O h
 exact RZ (.agg rfl rfl (.cons rfl (.cons rfl (.nil))) rfl (.nil))
theorem lO{x0:Zr}{r:Zr}(h:eV x0=some r):Pure Tryz.prog 145 [.agg (eZ x0)] (.agg (eZ r)):=by
 obtain⟨aB,aC⟩:=x0
 refine ay Tryz.func145 rfl (Nat.le_of_ble_eq_true rfl) (fun cG M vs hvs=>?_)
 unfold eV at h
 refine sr<|bx rfl<|al (cs:=[.v (.bool false),slc 1 (List.map ah [])]) (by exact⟨SV.aa _,imp_nil,trivial⟩) rfl<|dn<|qq<|ai mixed<|fa rfl rfl<|lV rfl rfl rfl<|lE h fun x5 h5 h=>nt rfl _ h5<|fa rfl rfl<|lV rfl rfl rfl<|bE h fun x8 h8 h=>cl (aS h8) ⟨rfl,trivial⟩<|bE h fun x9 h9 h=>cl (nR h9) ⟨rfl,trivial⟩ ?_
 obtain⟨⟨BN,BO⟩,fD,h⟩:=bS h
 refine cl (eW fD) ⟨rfl,rfl,trivial⟩<|so rfl rfl rfl ?_
 refine RT.done ⟨by kernel_rfl,?_⟩
 refine ae.n<|aj ?_
 obtain rfl:=O h
 exact RZ (.agg rfl rfl (.cons rfl (.cons rfl (.nil))) rfl (.nil))
theorem dV{x0:Zr}{r:Int}(h:cK x0=some r):Pure Tryz.prog 104 [.agg (eZ x0)] (.v (.int .i64 r)):=by
 obtain⟨aB,aC⟩:=x0
 refine ay Tryz.func104 rfl (Nat.le_of_ble_eq_true rfl) (fun cG M vs hvs=>?_)
 unfold cK at h
 refine sr<|bx rfl<|ag rfl<|dn<|qq<|ak<|sr<|fa rfl rfl<|lV rfl rfl rfl<|bE h fun x6 h6 h=>cl (aS h6) ⟨rfl,trivial⟩<|lE h fun x7 h7 h=>ln rfl h7<|lE h fun x8 h8 h=>eq _ rfl rfl (vh (p:=x7) (q:=0) h8)<|ag rfl<|dn ?_
 cases x8
 refine cF<|sr<|fa rfl rfl<|lV rfl rfl rfl<|ag rfl<|dn ?_
 replace h:=F h
 cases aB
 refine cF<|aE<|aG.n<|ae.n<|sr<|ag rfl<|dn<|aj ?_
 obtain rfl:=O (F h)
 exact R1 rfl
 refine cT<|sr<|ag rfl<|dn<|aj<|aG.r<|ae.r ?_
 obtain rfl:=O (V h)
 exact R1 rfl
 refine cT<|sr<|ag rfl<|dn<|aj<|aG.r<|ae.r ?_
 obtain rfl:=O (V h)
 exact R1 rfl
theorem Fl{x0:Zr}{x1:Zr}{r:Int}(h:nq x0 x1=some r):Pure Tryz.prog 129 [.agg (eZ x0),.agg (eZ x1)] (.v (.int .i64 r)):=by
 obtain⟨aB,aC⟩:=x0
 obtain⟨bF,bC⟩:=x1
 refine ay Tryz.func129 rfl (Nat.le_of_ble_eq_true rfl) (fun cG M vs hvs=>?_)
 unfold nq at h
 refine sr<|bx rfl<|bx rfl<|ag rfl<|dn<|qq<|ai mixed<|ld rfl rfl (.cons rfl (.cons rfl (.nil)))<|bE h fun x8 h8 h=>cl (dV h8) ⟨rfl,trivial⟩<|ld rfl rfl (.cons rfl (.cons rfl (.nil)))<|bE h fun dm fD h=>cl (dV fD) ⟨rfl,trivial⟩<|ag rfl<|ag rfl ?_
 refine RT.done ⟨by kernel_rfl,?_⟩
 refine ae.n<|qq<|ak<|sr<|mv rfl<|mv rfl<|lE h fun eU jg h=>ls _ rfl rfl jg<|ag rfl<|dn ?_
 cases eU
 refine cF<|sr<|mv rfl<|mv rfl<|lE (F h) fun ek gV h=>gt _ rfl rfl gV<|ag rfl<|dn ?_
 cases ek
 refine cF<|sr<|mv rfl<|lE (F h) fun iv nS h=>ls _ rfl rfl nS<|ag rfl<|dn ?_
 cases iv
 refine cF<|aE<|aG.n<|ae.n<|qq<|ai mixed<|fa rfl rfl<|lV rfl rfl rfl<|bE (F h) fun td xS h=>cl (aS xS) ⟨rfl,trivial⟩<|fa rfl rfl<|lV rfl rfl rfl<|bE h fun pH ql h=>cl (aS ql) ⟨rfl,trivial⟩<|bE h fun rO za h=>cl (dr za) ⟨rfl,rfl,trivial⟩<|ag rfl ?_
 refine RT.done ⟨by kernel_rfl,?_⟩
 refine ae.n<|aj ?_
 obtain rfl:=O h
 exact R1 rfl
 refine cT<|qq<|ai mixed<|fa rfl rfl<|lV rfl rfl rfl<|bE (V h) fun fR kD h=>cl (aS kD) ⟨rfl,trivial⟩<|fa rfl rfl<|lV rfl rfl rfl<|bE h fun kq m7 h=>cl (aS m7) ⟨rfl,trivial⟩<|bE h fun mN rY h=>cl (dr rY) ⟨rfl,rfl,trivial⟩<|ag rfl ?_
 refine RT.done ⟨by kernel_rfl,?_⟩
 refine ae.n<|aj<|aG.r<|ae.r ?_
 obtain rfl:=O h
 exact R1 rfl
 refine cT<|sr<|ag rfl<|dn<|aj<|aG.r<|ae.r ?_
 obtain rfl:=O (V h)
 exact R1 rfl
 refine cT<|sr<|ag rfl<|dn<|aj<|aG.r<|ae.r ?_
 obtain rfl:=O (V h)
 exact R1 rfl
theorem sQ{x0:Zr}{x1:Zr}{r:Zr×Zr×Int}(h:dx x0 x1=some r):Pure Tryz.prog 169 [.agg (eZ x0),.agg (eZ x1)] (.vW [.agg (eZ r.1),.agg (eZ r.2.1),.v (.int .i64 r.2.2)]):=by
 obtain⟨aB,aC⟩:=x0
 obtain⟨bF,bC⟩:=x1
 refine ay Tryz.func169 rfl (Nat.le_of_ble_eq_true rfl) (fun cG M vs hvs=>?_)
 unfold dx at h
 refine sr<|bx rfl<|bx rfl<|al (cs:=[.v (.bool false),slc 1 (List.map ah [])]) (by exact⟨SV.aa _,imp_nil,trivial⟩) rfl<|al (cs:=[.v (.bool false),slc 1 (List.map ah [])]) (by exact⟨SV.aa _,imp_nil,trivial⟩) rfl<|ag rfl<|dn<|qq<|ai mixed<|fa rfl rfl<|lV rfl rfl rfl<|bE h fun fB fT h=>cl (aS fT) ⟨rfl,trivial⟩<|fa rfl rfl<|lV rfl rfl rfl ?_
 refine bE h fun gu iQ h=>cl (aS iQ) ⟨rfl,trivial⟩<|ag rfl<|ag rfl ?_
 refine RT.done ⟨by kernel_rfl,?_⟩
 refine ae.n<|qq<|sr<|mv rfl<|lE h fun ek gV h=>ln rfl gV<|lE h fun kW kx h=>eq _ rfl rfl (vh (p:=ek) (q:=0) kx)<|dn ?_
 cases kW
 refine fs<|sr<|mv rfl<|mv rfl ?_
 obtain⟨⟨GQ,UX⟩,qM,h⟩:=bS (F h)
 refine cl (pV qM) ⟨rfl,rfl,trivial⟩<|mv rfl<|ex rfl rfl<|ex rfl rfl<|ag rfl<|ag rfl<|dn<|sr<|mv rfl<|bE h fun gH iT h=>cl (aS iT) ⟨rfl,trivial⟩<|ag rfl<|dn<|qq<|qq ?_
 refine aF h (fun j3=>AS.bG 52 [(2,.ptr 2 0),(3,.ptr 3 0),(4,.ptr 4 0),(5,.ptr 5 0),(8,.sv (slc 1 (List.map ah gu))),(9,.sv (slc 1 (List.map ah GQ))),(10,.sv (slc 1 (List.map ah gH))),(36,.sv (.v (.bool j3.1)))] [(5,⟨41,[.sv (.v (.bool false)),.sv (slc 1 (List.map ah []))]⟩),(4,⟨41,[.sv (.v (.bool false)),.sv (slc 1 (List.map ah []))]⟩),(3,⟨41,[.sv (.v (.bool bF)),.sv (slc 1 (List.map ah bC))]⟩),(2,⟨41,[.sv (.v (.bool j3.2)),.sv (slc 1 (List.map ah aC))]⟩)] []) (fun h=>?_) (fun j3 h=>?_)
 refine af<|fa rfl rfl<|lV rfl rfl rfl<|mv rfl<|bE h fun Np wm h=>?_
 cases aB
 obtain rfl:=O (F wm)
 exact ww<|ww<|ww<|pF rfl<|dn<|⟨(false,false),h,wR []⟩
 refine gm rfl<|lE (V wm) fun pH ql wm=>gn rfl ql<|lE wm fun rO za wm=>gg _ rfl rfl za ?_
 obtain rfl:=O wm
 exact pT rfl<|dn<|⟨(rO,true),h,wR []⟩
 obtain⟨GR,BP⟩:=j3
 try dsimp only
 refine ae.n ?_
 refine aF h (fun j5=>AS.bG 52 [(2,.ptr 2 0),(3,.ptr 3 0),(4,.ptr 4 0),(5,.ptr 5 0),(9,.sv (slc 1 (List.map ah j5.1))),(10,.sv (slc 1 (List.map ah j5.2)))] [(5,⟨41,[.sv (.v (.bool false)),.sv (slc 1 (List.map ah []))]⟩),(4,⟨41,[.sv (.v (.bool false)),.sv (slc 1 (List.map ah []))]⟩),(3,⟨41,[.sv (.v (.bool bF)),.sv (slc 1 (List.map ah bC))]⟩),(2,⟨41,[.sv (.v (.bool BP)),.sv (slc 1 (List.map ah aC))]⟩)] []) (fun h=>?_) (fun j5 h=>?_)
 cases GR
 exact fs<|⟨(GQ,gH),(F h),wR []⟩
 exact cT<|sr<|mv rfl<|bl (l:=[1]) (e:=ah) (.one rfl (.nil)) rfl rfl rfl rfl rfl rfl<|bE (V h) fun tg BX h=>cl (pR BX) ⟨rfl,rfl,trivial⟩<|ag rfl<|dn<|af<|mv rfl<|mv rfl<|bE h fun rB ze h=>cl (lN ze) ⟨rfl,rfl,trivial⟩<|ag rfl<|dn<|⟨(tg,rB),h,wR []⟩
 obtain⟨UY,Nm⟩:=j5
 try dsimp only
 refine ae.n<|sr<|fa rfl rfl<|lV rfl rfl rfl<|fa rfl rfl<|lV rfl rfl rfl<|lE h fun tQ wW h=>RT.KQ .none _ rfl rfl T wW<|mv rfl ?_
 obtain⟨⟨Nn,No⟩,Ny,h⟩:=bS h
 refine cl (eW Ny) ⟨rfl,rfl,trivial⟩<|mv rfl ?_
 obtain⟨⟨BQ,BR⟩,DE,h⟩:=bS h
 refine cl (eW DE) ⟨rfl,rfl,trivial⟩<|so rfl rfl rfl<|so rfl rfl rfl<|ag rfl<|dn<|aj ?_
 obtain rfl:=O h
 exact RZ (.agg rfl rfl (.cons rfl (.cons rfl (.nil))) rfl (.agg rfl rfl (.cons rfl (.cons rfl (.nil))) rfl (.tmp rfl (.nil))))
 refine cT<|sr<|bI (cs:=[_,_]) (cs':=[.v (.bool false),slc 1 (List.map ah [])]) (.nil) ⟨SV.aa _,imp_nil,trivial⟩<|bI (cs:=[_,_]) (cs':=[.v (.bool false),slc 1 (List.map ah [])]) (.nil) ⟨SV.aa _,imp_nil,trivial⟩<|so rfl rfl rfl<|so rfl rfl rfl<|ag rfl<|dn<|aj<|ae.r ?_
 obtain rfl:=O (V h)
 exact RZ (.agg rfl rfl (.cons rfl (.cons rfl (.nil))) rfl (.agg rfl rfl (.cons rfl (.cons rfl (.nil))) rfl (.tmp rfl (.nil))))
theorem Fm{x0:Zr}{x1:Zr}{r:Zr}(h:iz x0 x1=some r):Pure Tryz.prog 168 [.agg (eZ x0),.agg (eZ x1)] (.agg (eZ r)):=by
 obtain⟨aB,aC⟩:=x0
 obtain⟨bF,bC⟩:=x1
 refine ay Tryz.func168 rfl (Nat.le_of_ble_eq_true rfl) (fun cG M vs hvs=>?_)
 unfold iz at h
 refine sr<|bx rfl<|bx rfl<|al (cs:=[.v (.bool false),slc 1 (List.map ah [])]) (by exact⟨SV.aa _,imp_nil,trivial⟩) rfl<|dn<|qq<|ai mixed<|fa rfl rfl<|lV rfl rfl rfl<|bE h fun fB fT h=>cl (aS fT) ⟨rfl,trivial⟩<|fa rfl rfl<|lV rfl rfl rfl<|bE h fun gu iQ h=>cl (aS iQ) ⟨rfl,trivial⟩<|ag rfl<|ag rfl ?_
 refine RT.done ⟨by kernel_rfl,?_⟩
 refine ae.n<|qq<|bE h fun M3 Fi jh=>?_
 refine aV (fun(qN:(List Nat)×(List Nat))=>AS.bG 57 [(4,.ptr 4 0),(5,.sv (slc 1 (List.map ah qN.1))),(6,.sv (slc 1 (List.map ah qN.2)))] [(4,⟨41,[.sv (.v (.bool false)),.sv (slc 1 (List.map ah []))]⟩)] []) (fun qN=>qN=M3) ?_ (fun qN I4=>?_)
 refine ak ?_
 refine aW Fi (fun xN=>AS.bG 57 [(4,.ptr 4 0),(5,.sv (slc 1 (List.map ah xN.1))),(6,.sv (slc 1 (List.map ah xN.2)))] [(4,⟨41,[.sv (.v (.bool false)),.sv (slc 1 (List.map ah []))]⟩)] []) (wR []) (fun xN y12 G12 h I5 I6=>?_)
 obtain⟨vK,yZ⟩:=xN
 try dsimp only
 refine qq<|qq ?_
 refine aF h (fun Zt=>AS.bG 57 [(4,.ptr 4 0),(5,.sv (slc 1 (List.map ah vK))),(6,.sv (slc 1 (List.map ah yZ))),(29,.sv (.v (.bool Zt)))] [(4,⟨41,[.sv (.v (.bool false)),.sv (slc 1 (List.map ah []))]⟩)] []) (fun h=>?_) (fun BS h=>?_)
 refine af<|mv rfl<|lE h fun ek gV h=>ln rfl gV<|lE h fun kW kx h=>gt _ rfl rfl kx<|mv rfl<|bE h fun I0 ju h=>?_
 cases kW
 obtain rfl:=O (F ju)
 exact ww<|ww<|ww<|ww<|wu<|wu<|wu<|ww<|pF rfl<|dn<|⟨false,h,wR []⟩
 refine gm rfl<|lE (V ju) fun iP mD ju=>gn rfl mD<|lE ju fun kA qL ju=>gg _ rfl rfl qL<|gm rfl<|bE ju fun IZ kF ju=>?_
 cases kA
 refine gm rfl<|lE (F kF) fun lI nT kF=>gn rfl nT<|lE kF fun kq m7 kF=>gg _ rfl rfl m7 ?_
 obtain rfl:=O kF
 refine gF rfl ?_
 obtain rfl:=O ju
 exact pT rfl<|dn<|⟨kq,h,wR []⟩
 obtain rfl:=O (V kF)
 refine ww<|ww<|ww<|gT rfl ?_
 obtain rfl:=O ju
 exact pT rfl<|dn<|⟨true,h,wR []⟩
 try dsimp only
 refine ae.n ?_
 cases BS
 refine cF<|aZ<|ae.x<|ae.x<|aG.x<|ae.n ?_
 obtain rfl:=O (F h)
 exact⟨(vK,yZ),I6 _ rfl,wR []⟩
 refine cT<|aE<|ae.n<|ak<|sr<|mv rfl<|mv rfl ?_
 obtain⟨⟨Zf,UZ⟩,rZ,h⟩:=bS (V h)
 refine cl (pV rZ) ⟨rfl,rfl,trivial⟩<|mv rfl<|ex rfl rfl<|ex rfl rfl<|ag rfl<|ag rfl<|dn<|af<|mv rfl<|mv rfl<|bE h fun Al GS h=>cl (aS GS) ⟨rfl,trivial⟩<|ag rfl<|ag rfl<|RT.done<|aG.n ?_
 obtain rfl:=O h
 exact ae.n ⟨(yZ,Al),I5 _ rfl,wR []⟩
 subst I4
 obtain⟨JY,JZ⟩:=qN
 try dsimp only
 refine ae.n<|qq<|sr<|mv rfl<|lE jh fun lu nO jh=>ln rfl nO<|lE jh fun rP zb jh=>eq _ rfl rfl (vh (p:=lu) (q:=0) zb)<|dn ?_
 cases rP
 refine fs<|sr<|mv rfl<|bE (F jh) fun vp h46 jh=>cl (dg h46) ⟨rfl,trivial⟩<|mv rfl<|bE jh fun sO h48 jh=>cl (dg h48) ⟨rfl,trivial⟩<|ag rfl<|ag rfl<|dn<|qq<|bE jh fun e24 VR I8=>?_
 refine aV (fun(uc:Nat)=>AS.bG 57 [(4,.ptr 4 0),(9,.sv (.v (.int .u64 ((uc:Nat):Int))))] [(4,⟨41,[.sv (.v (.bool false)),.sv (slc 1 (List.map ah []))]⟩)] []) (fun uc=>uc=e24) ?_ (fun uc VS=>?_)
 refine ak ?_
 refine aW VR (fun Nq=>AS.bG 57 [(4,.ptr 4 0),(9,.sv (.v (.int .u64 ((Nq.1:Nat):Int)))),(10,.sv (.v (.int .u64 ((Nq.2:Nat):Int))))] [(4,⟨41,[.sv (.v (.bool false)),.sv (slc 1 (List.map ah []))]⟩)] []) (wR []) (fun Nq y24 G24 h VT VU=>?_)
 obtain⟨Ei,rX⟩:=Nq
 try dsimp only
 refine qq<|sr<|mv rfl<|lE h fun vo DD h=>gt _ rfl rfl (YN (p:=0) (q:=rX) DD)<|dn ?_
 cases vo
 refine cF<|aZ<|ae.x<|ae.x<|aG.x<|ae.n ?_
 obtain rfl:=O (F h)
 exact⟨Ei,VU _ rfl,wR []⟩
 refine cT<|aE<|ae.n<|ak<|ai mixed<|mv rfl<|mv rfl<|mv rfl<|bE (V h) fun Dx GX h=>RT.rem .none _ rfl rfl T (XY GX) (KY GX)<|ag rfl<|ag rfl ?_
 refine RT.done ⟨by kernel_rfl,?_⟩
 refine aG.n ?_
 obtain rfl:=O h
 exact ae.n ⟨(rX,Dx),VT _ rfl,wR []⟩
 subst VS
 try dsimp only
 refine ae.n<|sr<|mv rfl ?_
 obtain⟨⟨Nr,Ns⟩,I2,I8⟩:=bS I8
 refine cl (jE I2) ⟨rfl,rfl,trivial⟩<|so rfl rfl rfl<|dn<|aj ?_
 obtain rfl:=O I8
 exact RZ (.agg rfl rfl (.cons rfl (.cons rfl (.nil))) rfl (.nil))
 refine cT<|sr<|mv rfl<|bE (V jh) fun vn Dj jh=>cl (nR Dj) ⟨rfl,trivial⟩ ?_
 obtain⟨⟨Eg,Eh⟩,zh,jh⟩:=bS jh
 refine cl (eW zh) ⟨rfl,rfl,trivial⟩<|so rfl rfl rfl<|dn<|aj<|ae.r ?_
 obtain rfl:=O jh
 exact RZ (.agg rfl rfl (.cons rfl (.cons rfl (.nil))) rfl (.nil))
end Go.Proofs.YtningmnklfpfjaaGreat
namespace Go.Proofs.YtningmnklfpfjaaGreat
open Go.Fw
noncomputable def ec(x0:Zr)(x1:Zr)(x2:Zr)(x3:Zr):Option (Zr×Zr):=match x0 with|⟨aB,aC⟩=>match x1 with|⟨bF,bC⟩=>match x2 with|⟨lP,lQ⟩=>match x3 with|⟨vL,vM⟩=>(cu ⟨aB,aC⟩ ⟨vL,vM⟩).bind fun⟨fY,fO⟩=>(cu ⟨lP,lQ⟩ ⟨bF,bC⟩).bind fun⟨jG,jH⟩=>(jB ⟨fY,fO⟩ ⟨jG,jH⟩).bind fun⟨jz,jA⟩=>(cu ⟨bF,bC⟩ ⟨vL,vM⟩).bind fun⟨mE,mF⟩=>some (⟨jz,jA⟩,⟨mE,mF⟩)
noncomputable def ee(x0:Zr)(x1:Zr)(x2:Zr)(x3:Zr):Option (Zr×Zr):=match x0 with|⟨aB,aC⟩=>match x1 with|⟨bF,bC⟩=>match x2 with|⟨lP,lQ⟩=>match x3 with|⟨vL,vM⟩=>(cu ⟨aB,aC⟩ ⟨vL,vM⟩).bind fun⟨fY,fO⟩=>(cu ⟨lP,lQ⟩ ⟨bF,bC⟩).bind fun⟨jG,jH⟩=>(jC ⟨fY,fO⟩ ⟨jG,jH⟩).bind fun⟨jz,jA⟩=>(cu ⟨bF,bC⟩ ⟨vL,vM⟩).bind fun⟨mE,mF⟩=>some (⟨jz,jA⟩,⟨mE,mF⟩)
noncomputable def ef(x0:Zr)(x1:Zr)(x2:Zr)(x3:Zr):Option (Zr×Zr):=match x0 with|⟨aB,aC⟩=>match x1 with|⟨bF,bC⟩=>match x2 with|⟨lP,lQ⟩=>match x3 with|⟨vL,vM⟩=>(cu ⟨aB,aC⟩ ⟨lP,lQ⟩).bind fun⟨fY,fO⟩=>(cu ⟨bF,bC⟩ ⟨vL,vM⟩).bind fun⟨jG,jH⟩=>some (⟨fY,fO⟩,⟨jG,jH⟩)
noncomputable def hH(x0:Zr)(x1:Zr)(x2:Zr)(x3:Zr):Option (Zr×Zr):=match x0 with|⟨aB,aC⟩=>match x1 with|⟨bF,bC⟩=>match x2 with|⟨lP,lQ⟩=>match x3 with|⟨vL,vM⟩=>(cu ⟨aB,aC⟩ ⟨vL,vM⟩).bind fun⟨fY,fO⟩=>(cu ⟨bF,bC⟩ ⟨lP,lQ⟩).bind fun⟨jG,jH⟩=>some (⟨fY,fO⟩,⟨jG,jH⟩)
noncomputable def cL(x0:Qr):Option (Zr×Zr):=match x0 with|⟨⟨aB,aC⟩,⟨aJ,aL⟩⟩=>(cK ⟨aJ,aL⟩).bind fun x6=>(some (decide ((x6:Int)=0))).bind fun x8=>(bif x8 then(bw 1).bind fun⟨SF,SG⟩=>some (⟨aB,aC⟩,⟨SF,SG⟩)else(some (decide ((x6:Int)=(-1)))).bind fun fB=>(bif fB then(eV ⟨aB,aC⟩).bind fun⟨jz,jA⟩=>(eV ⟨aJ,aL⟩).bind fun⟨mE,mF⟩=>some (⟨jz,jA⟩,⟨mE,mF⟩)else some (⟨aB,aC⟩,⟨aJ,aL⟩)))
noncomputable def dy(x0:Zr)(x1:Zr):Option (Qr):=match x0 with|⟨aB,aC⟩=>match x1 with|⟨bF,bC⟩=>(cK ⟨bF,bC⟩).bind fun x9=>(some (decide ((x9:Int)<0))).bind fun dm=>cm (fun(j2:Bool×(List Nat)×Bool×(List Nat))=>match j2 with|⟨Fo,Fp,Fq,Fs⟩=>(iz ⟨Fq,Fs⟩ ⟨Fo,Fp⟩).bind fun⟨kY,kZ⟩=>(dx ⟨Fq,Fs⟩ ⟨kY,kZ⟩).bind fun⟨⟨r5,si⟩,⟨NH,NI⟩,Zu⟩=>(dx ⟨Fo,Fp⟩ ⟨kY,kZ⟩).bind fun⟨⟨sj,sn⟩,⟨NJ,NK⟩,Zv⟩=>(c7 ⟨sj,sn⟩).bind fun⟨NL,NM⟩=>cm (fun(GY:Bool)=>cm (fun(j7:Bool×(List Nat))=>match j7 with|⟨BY,BZ⟩=>some ⟨⟨r5,si⟩,⟨BY,BZ⟩⟩) fun K7=>(bif GY then K7 (false,[])else K7 (sj,sn))) fun K5=>(bif NM then(some (decide ((NL:Int)=1))).bind fun lu=>some lu else some false).bind fun NN=>K5 NN) fun K2=>(bif dm then(eV ⟨aB,aC⟩).bind fun⟨fY,fO⟩=>(eV ⟨bF,bC⟩).bind fun⟨GZ,G0⟩=>K2 (GZ,G0,fY,fO)else K2 (bF,bC,aB,aC))
noncomputable def dh(x0:Qr):Option (Int×Int×Bool):=match x0 with|⟨⟨aB,aC⟩,⟨aJ,aL⟩⟩=>(c7 ⟨aB,aC⟩).bind fun⟨Ft,Zw⟩=>(c7 ⟨aJ,aL⟩).bind fun⟨DF,Zx⟩=>cm (fun(I9:Bool)=>(bif I9 then some (0,0,false)else(some (decide ((DF:Int)=0))).bind fun vn=>cm (fun(SH:Int×Int)=>match SH with|⟨G1,SI⟩=>some (G1,SI,true)) fun K24=>(bif vn then K24 (Ft,1)else(some (decide ((DF:Int)<0))).bind fun vp=>cm (fun(SJ:Int×Int)=>match SJ with|⟨NO,NP⟩=>K24 (NO,NP)) fun K26=>(bif vp then(some (IntKind.i64.wrap (0-Ft))).bind fun sO=>(some (IntKind.i64.wrap (0-DF))).bind fun vo=>K26 (sO,vo)else K26 (Ft,DF))))) fun X3=>(some (!Zw)).bind fun gB=>(bif gB then some true else(some (!Zx)).bind fun kA=>some kA).bind fun NQ=>(bif NQ then some true else(some (decide ((Ft:Int)≤(-2147483648)))).bind fun kq=>some kq).bind fun VV=>(bif VV then some true else(some (decide ((2147483648:Int)≤Ft))).bind fun td=>some td).bind fun VW=>(bif VW then some true else(some (decide ((DF:Int)≤(-2147483648)))).bind fun rO=>some rO).bind fun VX=>(bif VX then some true else(some (decide ((2147483648:Int)≤DF))).bind fun tg=>some tg).bind fun VY=>X3 VY
noncomputable def dY(x0:Int)(x1:Int):Option (Qr):=(bU (fun(s6:Int×Int)=>match s6 with|⟨qF,Fu⟩=>(show Option ((Int×Int)⊕(Int))from(some (decide ((Fu:Int)≠0))).bind fun dm=>(bif dm then(KX qF Fu).bind fun eU=>some (.inl (Fu,eU))else some (.inr qF)))) (x0,x1)).bind fun wY=>(some (decide ((wY:Int)<0))).bind fun gu=>cm (fun(G2:Int)=>(some (decide ((G2:Int)=x1))).bind fun iv=>(bif iv then(xL x0 G2).bind fun fR=>(bw fR).bind fun⟨ik,hG⟩=>some ⟨⟨ik,hG⟩,⟨false,[]⟩⟩else(xL x0 G2).bind fun gH=>(bw gH).bind fun⟨oK,oL⟩=>(xL x1 G2).bind fun rS=>(bw rS).bind fun⟨G3,G4⟩=>some ⟨⟨oK,oL⟩,⟨G3,G4⟩⟩)) fun K8=>(bif gu then(some (IntKind.i64.wrap (0-wY))).bind fun ek=>K8 ek else K8 wY)
noncomputable def pW(x0:Int):Option (Int):=(some (decide ((x0:Int)<0))).bind fun x5=>(bif x5 then some (-1)else(some (decide ((0:Int)<x0))).bind fun x8=>(bif x8 then some 1 else some 0))
noncomputable def ga(x1:Qr)(x2:Qr):Option (Qr):=match x1 with|⟨⟨bF,bC⟩,⟨eX,eY⟩⟩=>match x2 with|⟨⟨lP,lQ⟩,⟨xV,xW⟩⟩=>(cL ⟨⟨bF,bC⟩,⟨eX,eY⟩⟩).bind fun⟨⟨iF,iG⟩,⟨ji,jk⟩⟩=>(cL ⟨⟨lP,lQ⟩,⟨xV,xW⟩⟩).bind fun⟨⟨iH,iI⟩,⟨jl,jm⟩⟩=>(ec ⟨iF,iG⟩ ⟨ji,jk⟩ ⟨iH,iI⟩ ⟨jl,jm⟩).bind fun⟨⟨jI,jJ⟩,⟨jK,jL⟩⟩=>(dy ⟨jI,jJ⟩ ⟨jK,jL⟩).bind fun⟨⟨kX,kC⟩,⟨nu,nv⟩⟩=>some ⟨⟨kX,kC⟩,⟨nu,nv⟩⟩
noncomputable def gb(x1:Qr)(x2:Qr):Option (Qr):=match x1 with|⟨⟨bF,bC⟩,⟨eX,eY⟩⟩=>match x2 with|⟨⟨lP,lQ⟩,⟨xV,xW⟩⟩=>(cL ⟨⟨bF,bC⟩,⟨eX,eY⟩⟩).bind fun⟨⟨iF,iG⟩,⟨ji,jk⟩⟩=>(cL ⟨⟨lP,lQ⟩,⟨xV,xW⟩⟩).bind fun⟨⟨iH,iI⟩,⟨jl,jm⟩⟩=>(ee ⟨iF,iG⟩ ⟨ji,jk⟩ ⟨iH,iI⟩ ⟨jl,jm⟩).bind fun⟨⟨jI,jJ⟩,⟨jK,jL⟩⟩=>(dy ⟨jI,jJ⟩ ⟨jK,jL⟩).bind fun⟨⟨kX,kC⟩,⟨nu,nv⟩⟩=>some ⟨⟨kX,kC⟩,⟨nu,nv⟩⟩
noncomputable def gh(x1:Qr)(x2:Qr):Option (Qr):=match x1 with|⟨⟨bF,bC⟩,⟨eX,eY⟩⟩=>match x2 with|⟨⟨lP,lQ⟩,⟨xV,xW⟩⟩=>(cL ⟨⟨bF,bC⟩,⟨eX,eY⟩⟩).bind fun⟨⟨iF,iG⟩,⟨ji,jk⟩⟩=>(cL ⟨⟨lP,lQ⟩,⟨xV,xW⟩⟩).bind fun⟨⟨iH,iI⟩,⟨jl,jm⟩⟩=>(ef ⟨iF,iG⟩ ⟨ji,jk⟩ ⟨iH,iI⟩ ⟨jl,jm⟩).bind fun⟨⟨jI,jJ⟩,⟨jK,jL⟩⟩=>(dy ⟨jI,jJ⟩ ⟨jK,jL⟩).bind fun⟨⟨kX,kC⟩,⟨nu,nv⟩⟩=>some ⟨⟨kX,kC⟩,⟨nu,nv⟩⟩
noncomputable def jM(x1:Qr)(x2:Qr):Option (Qr):=match x1 with|⟨⟨bF,bC⟩,⟨eX,eY⟩⟩=>match x2 with|⟨⟨lP,lQ⟩,⟨xV,xW⟩⟩=>(cL ⟨⟨bF,bC⟩,⟨eX,eY⟩⟩).bind fun⟨⟨iF,iG⟩,⟨ji,jk⟩⟩=>(cL ⟨⟨lP,lQ⟩,⟨xV,xW⟩⟩).bind fun⟨⟨iH,iI⟩,⟨jl,jm⟩⟩=>(hH ⟨iF,iG⟩ ⟨ji,jk⟩ ⟨iH,iI⟩ ⟨jl,jm⟩).bind fun⟨⟨jI,jJ⟩,⟨jK,jL⟩⟩=>(dy ⟨jI,jJ⟩ ⟨jK,jL⟩).bind fun⟨⟨kX,kC⟩,⟨nu,nv⟩⟩=>some ⟨⟨kX,kC⟩,⟨nu,nv⟩⟩
noncomputable def cA(x0:Int):Option (Qr):=(bw x0).bind fun⟨VZ,V0⟩=>some ⟨⟨VZ,V0⟩,⟨false,[]⟩⟩
noncomputable def bW(x0:Qr):Option (Qr):=match x0 with|⟨⟨aB,aC⟩,⟨aJ,aL⟩⟩=>(dh ⟨⟨aB,aC⟩,⟨aJ,aL⟩⟩).bind fun⟨x8a,x8b,Zy⟩=>(bif Zy then(dY x8a x8b).bind fun⟨⟨jG,jH⟩,⟨Ek,El⟩⟩=>some ⟨⟨jG,jH⟩,⟨Ek,El⟩⟩else(cL ⟨⟨aB,aC⟩,⟨aJ,aL⟩⟩).bind fun⟨⟨Ja,Jb⟩,⟨Jc,Jd⟩⟩=>(dy ⟨Ja,Jb⟩ ⟨Jc,Jd⟩).bind fun⟨⟨NR,NS⟩,⟨NT,NU⟩⟩=>some ⟨⟨NR,NS⟩,⟨NT,NU⟩⟩)
noncomputable def eu(x0:Qr):Option (Int):=match x0 with|⟨⟨aB,aC⟩,⟨aJ,aL⟩⟩=>(cK ⟨aJ,aL⟩).bind fun x5=>(some (decide ((x5:Int)<0))).bind fun x6=>(bif x6 then(cK ⟨aB,aC⟩).bind fun x9=>(some (IntKind.i64.wrap (0-x9))).bind fun dm=>some dm else(cK ⟨aB,aC⟩).bind fun fB=>some fB)
noncomputable def jN(x0:Qr)(x1:Qr):Option (Qr):=match x0 with|⟨⟨aB,aC⟩,⟨aJ,aL⟩⟩=>match x1 with|⟨⟨bF,bC⟩,⟨eX,eY⟩⟩=>(dh ⟨⟨aB,aC⟩,⟨aJ,aL⟩⟩).bind fun⟨ue,sq,uf⟩=>(dh ⟨⟨bF,bC⟩,⟨eX,eY⟩⟩).bind fun⟨ug,su,uh⟩=>cm (fun(nx:Bool)=>(bif nx then(some (IntKind.i64.wrap (ue*su))).bind fun gH=>(some (IntKind.i64.wrap (ug*sq))).bind fun iD=>(some (IntKind.i64.wrap (gH+iD))).bind fun rS=>(some (IntKind.i64.wrap (sq*su))).bind fun oC=>(dY rS oC).bind fun⟨⟨B0,B3⟩,⟨B4,B5⟩⟩=>some ⟨⟨B0,B3⟩,⟨B4,B5⟩⟩else(ga ⟨⟨aB,aC⟩,⟨aJ,aL⟩⟩ ⟨⟨bF,bC⟩,⟨eX,eY⟩⟩).bind fun⟨⟨tZ,ua⟩,⟨B6,B7⟩⟩=>some ⟨⟨tZ,ua⟩,⟨B6,B7⟩⟩)) fun K3=>(bif uf then some uh else some false).bind fun uj=>K3 uj
noncomputable def jO(x0:Qr)(x1:Qr):Option (Qr):=match x0 with|⟨⟨aB,aC⟩,⟨aJ,aL⟩⟩=>match x1 with|⟨⟨bF,bC⟩,⟨eX,eY⟩⟩=>(dh ⟨⟨aB,aC⟩,⟨aJ,aL⟩⟩).bind fun⟨ue,sq,uf⟩=>(dh ⟨⟨bF,bC⟩,⟨eX,eY⟩⟩).bind fun⟨ug,su,uh⟩=>cm (fun(nx:Bool)=>(bif nx then(some (IntKind.i64.wrap (ue*su))).bind fun gH=>(some (IntKind.i64.wrap (ug*sq))).bind fun iD=>(some (IntKind.i64.wrap (gH-iD))).bind fun rS=>(some (IntKind.i64.wrap (sq*su))).bind fun oC=>(dY rS oC).bind fun⟨⟨B0,B3⟩,⟨B4,B5⟩⟩=>some ⟨⟨B0,B3⟩,⟨B4,B5⟩⟩else(gb ⟨⟨aB,aC⟩,⟨aJ,aL⟩⟩ ⟨⟨bF,bC⟩,⟨eX,eY⟩⟩).bind fun⟨⟨tZ,ua⟩,⟨B6,B7⟩⟩=>some ⟨⟨tZ,ua⟩,⟨B6,B7⟩⟩)) fun K3=>(bif uf then some uh else some false).bind fun uj=>K3 uj
noncomputable def iJ(x0:Qr)(x1:Qr):Option (Qr):=match x0 with|⟨⟨aB,aC⟩,⟨aJ,aL⟩⟩=>match x1 with|⟨⟨bF,bC⟩,⟨eX,eY⟩⟩=>(dh ⟨⟨aB,aC⟩,⟨aJ,aL⟩⟩).bind fun⟨ue,sq,uf⟩=>(dh ⟨⟨bF,bC⟩,⟨eX,eY⟩⟩).bind fun⟨ug,su,uh⟩=>cm (fun(nx:Bool)=>(bif nx then(some (IntKind.i64.wrap (ue*ug))).bind fun gH=>(some (IntKind.i64.wrap (sq*su))).bind fun iD=>(dY gH iD).bind fun⟨⟨NV,NW⟩,⟨NX,NY⟩⟩=>some ⟨⟨NV,NW⟩,⟨NX,NY⟩⟩else(gh ⟨⟨aB,aC⟩,⟨aJ,aL⟩⟩ ⟨⟨bF,bC⟩,⟨eX,eY⟩⟩).bind fun⟨⟨tX,tY⟩,⟨NZ,N0⟩⟩=>some ⟨⟨tX,tY⟩,⟨NZ,N0⟩⟩)) fun K3=>(bif uf then some uh else some false).bind fun uj=>K3 uj
noncomputable def oO(x0:Qr)(x1:Qr):Option (Qr×Int):=match x0 with|⟨⟨aB,aC⟩,⟨aJ,aL⟩⟩=>match x1 with|⟨⟨bF,bC⟩,⟨eX,eY⟩⟩=>(eu ⟨⟨bF,bC⟩,⟨eX,eY⟩⟩).bind fun fB=>(some (decide ((fB:Int)=0))).bind fun eU=>(bif eU then some (⟨⟨false,[]⟩,⟨false,[]⟩⟩,7)else(dh ⟨⟨aB,aC⟩,⟨aJ,aL⟩⟩).bind fun⟨N3,Q1,V1⟩=>(dh ⟨⟨bF,bC⟩,⟨eX,eY⟩⟩).bind fun⟨Li,Lj,V3⟩=>cm (fun(B8:Bool)=>(bif B8 then(some (decide ((Li:Int)<0))).bind fun rS=>cm (fun(j6:Int×Int)=>match j6 with|⟨Zz,ZA⟩=>(some (IntKind.i64.wrap (Zz*Lj))).bind fun lu=>(some (IntKind.i64.wrap (Q1*ZA))).bind fun vn=>(dY lu vn).bind fun⟨⟨Eg,Eh⟩,⟨SK,SL⟩⟩=>some (⟨⟨Eg,Eh⟩,⟨SK,SL⟩⟩,0)) fun K6=>(bif rS then(some (IntKind.i64.wrap (0-N3))).bind fun rO=>(some (IntKind.i64.wrap (0-Li))).bind fun tf=>K6 (rO,tf)else K6 (N3,Li))else(jM ⟨⟨aB,aC⟩,⟨aJ,aL⟩⟩ ⟨⟨bF,bC⟩,⟨eX,eY⟩⟩).bind fun⟨⟨Ee,Ef⟩,⟨SM,SN⟩⟩=>some (⟨⟨Ee,Ef⟩,⟨SM,SN⟩⟩,0))) fun K3=>(bif V1 then some V3 else some false).bind fun SO=>K3 SO)
noncomputable def oP(x0:Qr):Option (Qr):=match x0 with|⟨⟨aB,aC⟩,⟨aJ,aL⟩⟩=>(bW ⟨⟨aB,aC⟩,⟨aJ,aL⟩⟩).bind fun⟨⟨DG,G5⟩,⟨DH,Fv⟩⟩=>(eV ⟨DG,G5⟩).bind fun⟨vN,vO⟩=>some ⟨⟨vN,vO⟩,⟨DH,Fv⟩⟩
noncomputable def oQ(x0:Qr)(x1:Qr):Option (Int):=match x0 with|⟨⟨aB,aC⟩,⟨aJ,aL⟩⟩=>match x1 with|⟨⟨bF,bC⟩,⟨eX,eY⟩⟩=>(cL ⟨⟨aB,aC⟩,⟨aJ,aL⟩⟩).bind fun⟨⟨iF,iG⟩,⟨ji,jk⟩⟩=>(cL ⟨⟨bF,bC⟩,⟨eX,eY⟩⟩).bind fun⟨⟨iH,iI⟩,⟨jl,jm⟩⟩=>(cK ⟨iF,iG⟩).bind fun iP=>(cK ⟨iH,iI⟩).bind fun fR=>cm (fun(B8:Bool)=>(bif B8 then(some (IntKind.i64.wrap (iP-fR))).bind fun pH=>(pW pH).bind fun rO=>some rO else(cu ⟨iF,iG⟩ ⟨jl,jm⟩).bind fun⟨SP,SQ⟩=>(cu ⟨iH,iI⟩ ⟨ji,jk⟩).bind fun⟨SR,SS⟩=>(nq ⟨SP,SQ⟩ ⟨SR,SS⟩).bind fun rB=>some rB)) fun K3=>(some (decide ((iP:Int)≠fR))).bind fun kq=>(bif kq then some true else(some (decide ((iP:Int)=0))).bind fun yW=>some yW).bind fun SU=>K3 SU
end Go.Proofs.YtningmnklfpfjaaGreat
namespace Go.Proofs.YtningmnklfpfjaaGreat
open Go.Fw Go.Fw.Z Go.RowKit
abbrev N4:List (Value×Value):=[(.int .u8 43,.agg #[.func (.func 187) #[] #[]]),(.int .u8 45,.agg #[.func (.func 189) #[] #[]]),(.int .u8 42,.agg #[.func (.func 191) #[] #[]]),(.int .u8 47,.agg #[.func (.func 192) #[] #[]])]
theorem dK:Pure Tryz.prog 167 [] (MM N4):=by
 refine ay Tryz.func167 rfl (Nat.le_of_ble_eq_true rfl) (fun cG M vs hvs=>?_)
 refine aO<|af<|RT.Br .none rfl T<|RT.done<|ae.n<|aO<|QH (Nat.le_of_ble_eq_true rfl) rfl rfl rfl (fun S' h0=>?_)
 exact aj (R1 h0)
theorem um{x0:Zr}{x1:Zr}{x2:Zr}{x3:Zr}{r:Zr×Zr}(h:ec x0 x1 x2 x3=some r):Pure Tryz.prog 187 [.agg (eZ x0),.agg (eZ x1),.agg (eZ x2),.agg (eZ x3)] (.vW [.agg (eZ r.1),.agg (eZ r.2)]):=by
 obtain⟨aB,aC⟩:=x0
 obtain⟨bF,bC⟩:=x1
 obtain⟨lP,lQ⟩:=x2
 obtain⟨vL,vM⟩:=x3
 refine ay Tryz.func187 rfl (Nat.le_of_ble_eq_true rfl) (fun cG M vs hvs=>?_)
 unfold ec at h
 refine sr<|bx rfl<|bx rfl<|bx rfl<|bx rfl<|al (cs:=[.v (.bool false),slc 1 (List.map ah [])]) (by exact⟨SV.aa _,imp_nil,trivial⟩) rfl<|al (cs:=[.v (.bool false),slc 1 (List.map ah [])]) (by exact⟨SV.aa _,imp_nil,trivial⟩) rfl<|dn<|qq<|ai mixed<|ld rfl rfl (.cons rfl (.cons rfl (.nil)))<|ld rfl rfl (.cons rfl (.cons rfl (.nil))) ?_
 obtain⟨⟨fY,fO⟩,eI,h⟩:=bS h
 refine cl (dD eI) ⟨rfl,rfl,trivial⟩<|ld rfl rfl (.cons rfl (.cons rfl (.nil)))<|ld rfl rfl (.cons rfl (.cons rfl (.nil))) ?_
 obtain⟨⟨jG,jH⟩,fE,h⟩:=bS h
 refine cl (dD fE) ⟨rfl,rfl,trivial⟩ ?_
 obtain⟨⟨jz,jA⟩,iQ,h⟩:=bS h
 refine cl (Fj iQ) ⟨rfl,rfl,trivial⟩<|ld rfl rfl (.cons rfl (.cons rfl (.nil)))<|ld rfl rfl (.cons rfl (.cons rfl (.nil))) ?_
 obtain⟨⟨mE,mF⟩,kx,h⟩:=bS h
 refine cl (dD kx) ⟨rfl,rfl,trivial⟩<|so rfl rfl rfl<|so rfl rfl rfl ?_
 refine RT.done ⟨by kernel_rfl,?_⟩
 refine ae.n<|aj ?_
 obtain rfl:=O h
 exact RZ (.agg rfl rfl (.cons rfl (.cons rfl (.nil))) rfl (.agg rfl rfl (.cons rfl (.cons rfl (.nil))) rfl (.nil)))
theorem uo{x0:Zr}{x1:Zr}{x2:Zr}{x3:Zr}{r:Zr×Zr}(h:ee x0 x1 x2 x3=some r):Pure Tryz.prog 189 [.agg (eZ x0),.agg (eZ x1),.agg (eZ x2),.agg (eZ x3)] (.vW [.agg (eZ r.1),.agg (eZ r.2)]):=by
 obtain⟨aB,aC⟩:=x0
 obtain⟨bF,bC⟩:=x1
 obtain⟨lP,lQ⟩:=x2
 obtain⟨vL,vM⟩:=x3
 refine ay Tryz.func189 rfl (Nat.le_of_ble_eq_true rfl) (fun cG M vs hvs=>?_)
 unfold ee at h
 refine sr<|bx rfl<|bx rfl<|bx rfl<|bx rfl<|al (cs:=[.v (.bool false),slc 1 (List.map ah [])]) (by exact⟨SV.aa _,imp_nil,trivial⟩) rfl<|al (cs:=[.v (.bool false),slc 1 (List.map ah [])]) (by exact⟨SV.aa _,imp_nil,trivial⟩) rfl<|dn<|qq<|ai mixed<|ld rfl rfl (.cons rfl (.cons rfl (.nil)))<|ld rfl rfl (.cons rfl (.cons rfl (.nil))) ?_
 obtain⟨⟨fY,fO⟩,eI,h⟩:=bS h
 refine cl (dD eI) ⟨rfl,rfl,trivial⟩<|ld rfl rfl (.cons rfl (.cons rfl (.nil)))<|ld rfl rfl (.cons rfl (.cons rfl (.nil))) ?_
 obtain⟨⟨jG,jH⟩,fE,h⟩:=bS h
 refine cl (dD fE) ⟨rfl,rfl,trivial⟩ ?_
 obtain⟨⟨jz,jA⟩,iQ,h⟩:=bS h
 refine cl (Fk iQ) ⟨rfl,rfl,trivial⟩<|ld rfl rfl (.cons rfl (.cons rfl (.nil)))<|ld rfl rfl (.cons rfl (.cons rfl (.nil))) ?_
 obtain⟨⟨mE,mF⟩,kx,h⟩:=bS h
 refine cl (dD kx) ⟨rfl,rfl,trivial⟩<|so rfl rfl rfl<|so rfl rfl rfl ?_
 refine RT.done ⟨by kernel_rfl,?_⟩
 refine ae.n<|aj ?_
 obtain rfl:=O h
 exact RZ (.agg rfl rfl (.cons rfl (.cons rfl (.nil))) rfl (.agg rfl rfl (.cons rfl (.cons rfl (.nil))) rfl (.nil)))
theorem ur{x0:Zr}{x1:Zr}{x2:Zr}{x3:Zr}{r:Zr×Zr}(h:ef x0 x1 x2 x3=some r):Pure Tryz.prog 191 [.agg (eZ x0),.agg (eZ x1),.agg (eZ x2),.agg (eZ x3)] (.vW [.agg (eZ r.1),.agg (eZ r.2)]):=by
 obtain⟨aB,aC⟩:=x0
 obtain⟨bF,bC⟩:=x1
 obtain⟨lP,lQ⟩:=x2
 obtain⟨vL,vM⟩:=x3
 refine ay Tryz.func191 rfl (Nat.le_of_ble_eq_true rfl) (fun cG M vs hvs=>?_)
 unfold ef at h
 refine sr<|bx rfl<|bx rfl<|bx rfl<|bx rfl<|al (cs:=[.v (.bool false),slc 1 (List.map ah [])]) (by exact⟨SV.aa _,imp_nil,trivial⟩) rfl<|al (cs:=[.v (.bool false),slc 1 (List.map ah [])]) (by exact⟨SV.aa _,imp_nil,trivial⟩) rfl<|dn<|qq<|ai mixed<|ld rfl rfl (.cons rfl (.cons rfl (.nil)))<|ld rfl rfl (.cons rfl (.cons rfl (.nil))) ?_
 obtain⟨⟨fY,fO⟩,eI,h⟩:=bS h
 refine cl (dD eI) ⟨rfl,rfl,trivial⟩<|ld rfl rfl (.cons rfl (.cons rfl (.nil)))<|ld rfl rfl (.cons rfl (.cons rfl (.nil))) ?_
 obtain⟨⟨jG,jH⟩,fE,h⟩:=bS h
 refine cl (dD fE) ⟨rfl,rfl,trivial⟩<|so rfl rfl rfl<|so rfl rfl rfl ?_
 refine RT.done ⟨by kernel_rfl,?_⟩
 refine ae.n<|aj ?_
 obtain rfl:=O h
 exact RZ (.agg rfl rfl (.cons rfl (.cons rfl (.nil))) rfl (.agg rfl rfl (.cons rfl (.cons rfl (.nil))) rfl (.nil)))
theorem uu{x0:Zr}{x1:Zr}{x2:Zr}{x3:Zr}{r:Zr×Zr}(h:hH x0 x1 x2 x3=some r):Pure Tryz.prog 192 [.agg (eZ x0),.agg (eZ x1),.agg (eZ x2),.agg (eZ x3)] (.vW [.agg (eZ r.1),.agg (eZ r.2)]):=by
 obtain⟨aB,aC⟩:=x0
 obtain⟨bF,bC⟩:=x1
 obtain⟨lP,lQ⟩:=x2
 obtain⟨vL,vM⟩:=x3
 refine ay Tryz.func192 rfl (Nat.le_of_ble_eq_true rfl) (fun cG M vs hvs=>?_)
 unfold hH at h
 refine sr<|bx rfl<|bx rfl<|bx rfl<|bx rfl<|al (cs:=[.v (.bool false),slc 1 (List.map ah [])]) (by exact⟨SV.aa _,imp_nil,trivial⟩) rfl<|al (cs:=[.v (.bool false),slc 1 (List.map ah [])]) (by exact⟨SV.aa _,imp_nil,trivial⟩) rfl<|dn<|qq<|ai mixed<|ld rfl rfl (.cons rfl (.cons rfl (.nil)))<|ld rfl rfl (.cons rfl (.cons rfl (.nil))) ?_
 obtain⟨⟨fY,fO⟩,eI,h⟩:=bS h
 refine cl (dD eI) ⟨rfl,rfl,trivial⟩<|ld rfl rfl (.cons rfl (.cons rfl (.nil)))<|ld rfl rfl (.cons rfl (.cons rfl (.nil))) ?_
 obtain⟨⟨jG,jH⟩,fE,h⟩:=bS h
 refine cl (dD fE) ⟨rfl,rfl,trivial⟩<|so rfl rfl rfl<|so rfl rfl rfl ?_
 refine RT.done ⟨by kernel_rfl,?_⟩
 refine ae.n<|aj ?_
 obtain rfl:=O h
 exact RZ (.agg rfl rfl (.cons rfl (.cons rfl (.nil))) rfl (.agg rfl rfl (.cons rfl (.cons rfl (.nil))) rfl (.nil)))
theorem bM{x0:Qr}{r:Zr×Zr}(h:cL x0=some r):Pure Tryz.prog 127 [.agg (eQ x0)] (.vW [.agg (eZ r.1),.agg (eZ r.2)]):=by
 obtain⟨⟨aB,aC⟩,⟨aJ,aL⟩⟩:=x0
 refine ay Tryz.func127 rfl (Nat.le_of_ble_eq_true rfl) (fun cG M vs hvs=>?_)
 unfold cL at h
 refine sr<|bx rfl<|al (cs:=[.v (.bool false),slc 1 (List.map ah [])]) (by exact⟨SV.aa _,imp_nil,trivial⟩) rfl<|al (cs:=[.v (.bool false),slc 1 (List.map ah [])]) (by exact⟨SV.aa _,imp_nil,trivial⟩) rfl<|dn<|qq<|sr<|fa rfl rfl<|ld rfl rfl (.cons rfl (.cons rfl (.nil)))<|bE h fun x6 h6 h=>cl (dV h6) ⟨rfl,trivial⟩<|dn<|ak<|sr<|lE h fun x8 h8 h=>eq _ rfl rfl (vh (p:=x6) (q:=0) h8) ?_
 refine ag rfl<|dn ?_
 cases x8
 refine cF<|sr<|lE (F h) fun fB fT h=>eq _ rfl rfl (vh (p:=x6) (q:=(-1)) fT)<|ag rfl<|dn ?_
 cases fB
 refine cF<|aE<|aG.n<|ae.n<|qq<|ai mixed<|fa rfl rfl<|ld rfl rfl (.cons rfl (.cons rfl (.nil)))<|fa rfl rfl<|ld rfl rfl (.cons rfl (.cons rfl (.nil)))<|so rfl rfl rfl<|so rfl rfl rfl ?_
 refine RT.done ⟨by kernel_rfl,?_⟩
 refine ae.n<|aj ?_
 obtain rfl:=O (F h)
 exact RZ (.agg rfl rfl (.cons rfl (.cons rfl (.nil))) rfl (.agg rfl rfl (.cons rfl (.cons rfl (.nil))) rfl (.nil)))
 refine cT<|qq<|ai mixed<|fa rfl rfl<|ld rfl rfl (.cons rfl (.cons rfl (.nil))) ?_
 obtain⟨⟨jz,jA⟩,iQ,h⟩:=bS (V h)
 refine cl (lO iQ) ⟨rfl,trivial⟩<|fa rfl rfl<|ld rfl rfl (.cons rfl (.cons rfl (.nil))) ?_
 obtain⟨⟨mE,mF⟩,kx,h⟩:=bS h
 refine cl (lO kx) ⟨rfl,trivial⟩<|so rfl rfl rfl<|so rfl rfl rfl ?_
 refine RT.done ⟨by kernel_rfl,?_⟩
 refine ae.n<|aj<|aG.r<|ae.r ?_
 obtain rfl:=O h
 exact RZ (.agg rfl rfl (.cons rfl (.cons rfl (.nil))) rfl (.agg rfl rfl (.cons rfl (.cons rfl (.nil))) rfl (.nil)))
 refine cT<|qq<|ai mixed<|fa rfl rfl<|ld rfl rfl (.cons rfl (.cons rfl (.nil))) ?_
 obtain⟨⟨SF,SG⟩,mB,h⟩:=bS (V h)
 refine cl (dJ mB) ⟨rfl,trivial⟩<|so rfl rfl rfl<|so rfl rfl rfl ?_
 refine RT.done ⟨by kernel_rfl,?_⟩
 refine ae.n<|aj<|aG.r<|ae.r ?_
 obtain rfl:=O h
 exact RZ (.agg rfl rfl (.cons rfl (.cons rfl (.nil))) rfl (.agg rfl rfl (.cons rfl (.cons rfl (.nil))) rfl (.nil)))
theorem jP{x0:Zr}{x1:Zr}{r:Qr}(h:dy x0 x1=some r):Pure Tryz.prog 140 [.agg (eZ x0),.agg (eZ x1)] (.agg (eQ r)):=by
 obtain⟨aB,aC⟩:=x0
 obtain⟨bF,bC⟩:=x1
 refine ay Tryz.func140 rfl (Nat.le_of_ble_eq_true rfl) (fun cG M vs hvs=>?_)
 unfold dy at h
 refine sr<|bx rfl<|bx rfl<|al (cs:=[.v (.bool false),slc 1 (List.map ah []),.v (.bool false),slc 1 (List.map ah [])]) (by exact⟨SV.aa _,imp_nil,SV.aa _,imp_nil,trivial⟩) rfl<|dn<|qq<|sr<|ld rfl rfl (.cons rfl (.cons rfl (.nil)))<|bE h fun x9 h9 h=>cl (dV h9) ⟨rfl,trivial⟩<|lE h fun dm fD h=>ls _ rfl rfl fD<|dn ?_
 refine aF h (fun j2=>AS.bG 46 [(2,.ptr 2 0),(3,.ptr 3 0),(4,.ptr 4 0)] [(4,⟨43,[.sv (.v (.bool false)),.sv (slc 1 (List.map ah [])),.sv (.v (.bool false)),.sv (slc 1 (List.map ah []))]⟩),(3,⟨41,[.sv (.v (.bool j2.1)),.sv (slc 1 (List.map ah j2.2.1))]⟩),(2,⟨41,[.sv (.v (.bool j2.2.2.1)),.sv (slc 1 (List.map ah j2.2.2.2))]⟩)] []) (fun h=>?_) (fun j2 h=>?_)
 cases dm
 exact fs<|⟨(bF,bC,aB,aC),(F h),wR []⟩
 refine cT<|ai mixed<|ld rfl rfl (.cons rfl (.cons rfl (.nil))) ?_
 obtain⟨⟨fY,fO⟩,eI,h⟩:=bS (V h)
 refine cl (lO eI) ⟨rfl,trivial⟩<|ld rfl rfl (.cons rfl (.cons rfl (.nil))) ?_
 obtain⟨⟨GZ,G0⟩,jg,h⟩:=bS h
 refine cl (lO jg) ⟨rfl,trivial⟩<|so rfl rfl rfl<|so rfl rfl rfl ?_
 refine RT.done ⟨by kernel_rfl,?_⟩
 exact ae.n<|⟨(GZ,G0,fY,fO),h,wR []⟩
 obtain⟨Fo,Fp,Fq,Fs⟩:=j2
 try dsimp only
 refine ae.n<|sr<|ld rfl rfl (.cons rfl (.cons rfl (.nil)))<|ld rfl rfl (.cons rfl (.cons rfl (.nil))) ?_
 obtain⟨⟨kY,kZ⟩,jD,h⟩:=bS h
 refine cl (Fm jD) ⟨rfl,rfl,trivial⟩<|al (cs:=[.v (.bool false),slc 1 (List.map ah [])]) (by exact⟨SV.aa _,imp_nil,trivial⟩) rfl<|so rfl rfl rfl<|dn<|sr<|ld rfl rfl (.cons rfl (.cons rfl (.nil)))<|ld rfl rfl (.cons rfl (.cons rfl (.nil))) ?_
 obtain⟨⟨⟨r5,si⟩,⟨NH,NI⟩,Zu⟩,nS,h⟩:=bS h
 refine cl (sQ nS) ⟨rfl,rfl,trivial⟩<|mv rfl<|ex rfl rfl<|ex rfl rfl<|ex rfl rfl<|so rfl rfl rfl<|dn<|sr<|ld rfl rfl (.cons rfl (.cons rfl (.nil)))<|ld rfl rfl (.cons rfl (.cons rfl (.nil))) ?_
 obtain⟨⟨⟨sj,sn⟩,⟨NJ,NK⟩,Zv⟩,rY,h⟩:=bS h
 refine cl (sQ rY) ⟨rfl,rfl,trivial⟩<|mv rfl<|ex rfl rfl<|ex rfl rfl<|ex rfl rfl<|so rfl rfl rfl<|dn<|qq<|sr<|ld rfl rfl (.cons rfl (.cons rfl (.nil))) ?_
 obtain⟨⟨NL,NM⟩,ql,h⟩:=bS h
 refine cl (cP ql) ⟨rfl,trivial⟩<|mv rfl<|ex rfl rfl<|ex rfl rfl<|ag rfl<|ag rfl<|dn<|qq ?_
 refine aF h (fun j5=>AS.bG 46 [(2,.ptr 2 0),(3,.ptr 3 0),(4,.ptr 4 0),(41,.sv (.v (.bool j5)))] [(4,⟨43,[.sv (.v (.bool false)),.sv (slc 1 (List.map ah [])),.sv (.v (.bool false)),.sv (slc 1 (List.map ah []))]⟩),(3,⟨41,[.sv (.v (.bool sj)),.sv (slc 1 (List.map ah sn))]⟩),(2,⟨41,[.sv (.v (.bool r5)),.sv (slc 1 (List.map ah si))]⟩)] []) (fun h=>?_) (fun GY h=>?_)
 refine af<|mv rfl<|mv rfl<|bE h fun NN B9 h=>?_
 cases NM
 obtain rfl:=O (F B9)
 exact ww<|ww<|pF rfl<|dn<|⟨false,h,wR []⟩
 refine gm rfl<|lE (V B9) fun lu nO B9=>YW _ rfl rfl (vh (p:=NL) (q:=1) nO) ?_
 obtain rfl:=O B9
 exact pT rfl<|dn<|⟨lu,h,wR []⟩
 try dsimp only
 refine ae.n ?_
 refine aF h (fun j7=>AS.bG 46 [(2,.ptr 2 0),(3,.ptr 3 0),(4,.ptr 4 0)] [(4,⟨43,[.sv (.v (.bool false)),.sv (slc 1 (List.map ah [])),.sv (.v (.bool false)),.sv (slc 1 (List.map ah []))]⟩),(3,⟨41,[.sv (.v (.bool j7.1)),.sv (slc 1 (List.map ah j7.2))]⟩),(2,⟨41,[.sv (.v (.bool r5)),.sv (slc 1 (List.map ah si))]⟩)] []) (fun h=>?_) (fun j7 h=>?_)
 cases GY
 exact fs<|⟨(sj,sn),(F h),wR []⟩
 exact cT<|af<|bI (cs:=[_,_]) (cs':=[.v (.bool false),slc 1 (List.map ah [])]) (.nil) ⟨SV.aa _,imp_nil,trivial⟩<|so rfl rfl rfl<|dn<|⟨(false,[]),(V h),wR []⟩
 obtain⟨BY,BZ⟩:=j7
 try dsimp only
 refine ae.n<|sr<|ld rfl rfl (.cons rfl (.cons rfl (.nil)))<|ld rfl rfl (.cons rfl (.cons rfl (.nil)))<|bI (cs:=[_,_,_,_]) (cs':=[.v (.bool r5),slc 1 (List.map ah si),.v (.bool BY),slc 1 (List.map ah BZ)]) (.agg rfl (.agg rfl (.nil))) ⟨SV.aa _,SV.aa _,SV.aa _,SV.aa _,trivial⟩<|so rfl rfl rfl<|dn<|aj ?_
 obtain rfl:=O h
 exact RZ (.agg rfl rfl (.cons rfl (.cons rfl (.cons rfl (.cons rfl (.nil))))) rfl (.nil))
theorem bY{x0:Qr}{r:Int×Int×Bool}(h:dh x0=some r):Pure Tryz.prog 134 [.agg (eQ x0)] (.vW [.v (.int .i64 r.1),.v (.int .i64 r.2.1),.v (.bool r.2.2)]):=by
 obtain⟨⟨aB,aC⟩,⟨aJ,aL⟩⟩:=x0
 refine ay Tryz.func134 rfl (Nat.le_of_ble_eq_true rfl) (fun cG M vs hvs=>?_)
 unfold dh at h
 refine sr<|bx rfl<|ag rfl<|ag rfl<|ag rfl<|dn<|sr<|fa rfl rfl<|ld rfl rfl (.cons rfl (.cons rfl (.nil))) ?_
 obtain⟨⟨Ft,Zw⟩,fD,h⟩:=bS h
 refine cl (cP fD) ⟨rfl,trivial⟩<|mv rfl<|ex rfl rfl<|ex rfl rfl<|ag rfl<|ag rfl<|dn<|sr<|fa rfl rfl<|ld rfl rfl (.cons rfl (.cons rfl (.nil))) ?_
 obtain⟨⟨DF,Zx⟩,iQ,h⟩:=bS h
 refine cl (cP iQ) ⟨rfl,trivial⟩<|mv rfl<|ex rfl rfl<|ex rfl rfl<|ag rfl<|ag rfl<|dn<|qq<|qq ?_
 refine aF h (fun V4=>AS.bG 53 [(2,.sv (.v (.int .i64 Ft))),(3,.sv (.v (.int .i64 DF))),(40,.sv (.v (.bool V4)))] [] []) (fun h=>?_) (fun I9 h=>?_)
 refine af<|mv rfl<|lE h fun gB lM h=>nt rfl _ lM<|mv rfl<|bE h fun NQ th h=>?_
 cases gB
 refine gm rfl<|lE (F th) fun kA qL th=>QM rfl _ qL ?_
 obtain rfl:=O th
 refine pF rfl<|mv rfl<|bE h fun adh zo h=>?_
 cases kA
 refine gm rfl<|lE (F zo) fun kq m7 zo=>RT.leq (.some rfl rfl) _ rfl rfl T m7 ?_
 obtain rfl:=O zo
 refine pF rfl<|mv rfl<|bE h fun adi zu h=>?_
 cases kq
 refine gm rfl<|lE (F zu) fun td xS zu=>RT.geq (.some rfl rfl) _ rfl rfl T xS ?_
 obtain rfl:=O zu
 refine pF rfl<|mv rfl<|bE h fun adj wZ h=>?_
 cases td
 refine gm rfl<|lE (F wZ) fun rO za wZ=>RT.leq (.some rfl rfl) _ rfl rfl T za ?_
 obtain rfl:=O wZ
 refine pF rfl<|mv rfl<|bE h fun adk Lk h=>?_
 cases rO
 refine gm rfl<|lE (F Lk) fun tg BX Lk=>RT.geq (.some rfl rfl) _ rfl rfl T BX ?_
 obtain rfl:=O Lk
 exact pF rfl<|dn<|⟨tg,h,wR []⟩
 obtain rfl:=O (V Lk)
 exact ww<|ww<|pT rfl<|dn<|⟨true,h,wR []⟩
 obtain rfl:=O (V wZ)
 refine ww<|ww<|pT rfl<|mv rfl<|bE h fun adl V5 h=>?_
 obtain rfl:=O (V V5)
 exact ww<|ww<|pT rfl<|dn<|⟨true,h,wR []⟩
 obtain rfl:=O (V zu)
 refine ww<|ww<|pT rfl<|mv rfl<|bE h fun adm V6 h=>?_
 obtain rfl:=O (V V6)
 refine ww<|ww<|pT rfl<|mv rfl<|bE h fun adn V7 h=>?_
 obtain rfl:=O (V V7)
 exact ww<|ww<|pT rfl<|dn<|⟨true,h,wR []⟩
 obtain rfl:=O (V zo)
 refine ww<|ww<|pT rfl<|mv rfl<|bE h fun ado V8 h=>?_
 obtain rfl:=O (V V8)
 refine ww<|ww<|pT rfl<|mv rfl<|bE h fun adp V9 h=>?_
 obtain rfl:=O (V V9)
 refine ww<|ww<|pT rfl<|mv rfl<|bE h fun adq Wa h=>?_
 obtain rfl:=O (V Wa)
 exact ww<|ww<|pT rfl<|dn<|⟨true,h,wR []⟩
 obtain rfl:=O (V th)
 refine ww<|ww<|pT rfl<|mv rfl<|bE h fun adr Wb h=>?_
 obtain rfl:=O (V Wb)
 refine ww<|ww<|pT rfl<|mv rfl<|bE h fun ads Wc h=>?_
 obtain rfl:=O (V Wc)
 refine ww<|ww<|pT rfl<|mv rfl<|bE h fun adt Wd h=>?_
 obtain rfl:=O (V Wd)
 refine ww<|ww<|pT rfl<|mv rfl<|bE h fun adu adv h=>?_
 obtain rfl:=O (V adv)
 exact ww<|ww<|pT rfl<|dn<|⟨true,h,wR []⟩
 try dsimp only
 refine ae.n ?_
 cases I9
 refine fs<|qq<|ak<|sr<|mv rfl<|lE (F h) fun vn Dj h=>eq _ rfl rfl (vh (p:=DF) (q:=0) Dj)<|ag rfl<|dn ?_
 refine aF h (fun SH=>AS.bG 53 [(2,.sv (.v (.int .i64 SH.1))),(3,.sv (.v (.int .i64 SH.2)))] [] []) (fun h=>?_) (fun SH h=>?_)
 cases vn
 refine cF<|sr<|mv rfl<|lE (F h) fun vp h46 h=>ls _ rfl rfl h46<|ag rfl<|dn ?_
 refine aF h (fun SJ=>AS.bG 53 [(2,.sv (.v (.int .i64 SJ.1))),(3,.sv (.v (.int .i64 SJ.2)))] [] []) (fun h=>?_) (fun SJ h=>?_)
 cases vp
 exact fs<|⟨(Ft,DF),(F h),wR []⟩
 exact cT<|af<|mv rfl<|lE (V h) fun sO h48 h=>RT.neg .none _ rfl T h48<|mv rfl<|lE h fun vo DD h=>RT.neg .none _ rfl T DD<|ag rfl<|ag rfl<|dn<|⟨(sO,vo),h,wR []⟩
 obtain⟨NO,NP⟩:=SJ
 try dsimp only
 exact ae.n<|⟨(NO,NP),h,wR []⟩
 exact cT<|af<|ag rfl<|dn<|⟨(Ft,1),(V h),wR []⟩
 obtain⟨G1,SI⟩:=SH
 try dsimp only
 refine aG.n<|ae.n<|sr<|mv rfl<|mv rfl<|ag rfl<|ag rfl<|ag rfl<|dn<|aj ?_
 obtain rfl:=O h
 exact RZ (.tmp rfl (.tmp rfl (.tmp rfl (.nil))))
 refine cT<|sr<|ag rfl<|ag rfl<|ag rfl<|dn<|aj<|ae.r ?_
 obtain rfl:=O (V h)
 exact RZ (.tmp rfl (.tmp rfl (.tmp rfl (.nil))))
theorem kG{x0:Int}{x1:Int}{r:Qr}(h:dY x0 x1=some r):Pure Tryz.prog 135 [.v (.int .i64 x0),.v (.int .i64 x1)] (.agg (eQ r)):=by
 refine ay Tryz.func135 rfl (Nat.le_of_ble_eq_true rfl) (fun cG M vs hvs=>?_)
 unfold dY at h
 refine sr<|al (cs:=[.v (.bool false),slc 1 (List.map ah []),.v (.bool false),slc 1 (List.map ah [])]) (by exact⟨SV.aa _,imp_nil,SV.aa _,imp_nil,trivial⟩) rfl<|dn<|sr<|mv rfl<|mv rfl<|ag rfl<|ag rfl<|dn<|qq<|bE h fun e6 Dy iS=>?_
 refine aV (fun(wY:Int)=>AS.bG 36 [(0,.sv (.v (.int .i64 x0))),(1,.sv (.v (.int .i64 x1))),(4,.ptr 4 0),(5,.sv (.v (.int .i64 wY)))] [(4,⟨43,[.sv (.v (.bool false)),.sv (slc 1 (List.map ah [])),.sv (.v (.bool false)),.sv (slc 1 (List.map ah []))]⟩)] []) (fun wY=>wY=e6) ?_ (fun wY Dz=>?_)
 refine ak ?_
 refine aW Dy (fun s6=>AS.bG 36 [(0,.sv (.v (.int .i64 x0))),(1,.sv (.v (.int .i64 x1))),(4,.ptr 4 0),(5,.sv (.v (.int .i64 s6.1))),(6,.sv (.v (.int .i64 s6.2)))] [(4,⟨43,[.sv (.v (.bool false)),.sv (slc 1 (List.map ah [])),.sv (.v (.bool false)),.sv (slc 1 (List.map ah []))]⟩)] []) (wR []) (fun s6 y6 G6 h DA y7=>?_)
 obtain⟨qF,Fu⟩:=s6
 try dsimp only
 refine qq<|sr<|mv rfl<|lE h fun dm fD h=>ne _ rfl rfl (Gk (p:=Fu) (q:=0) fD)<|dn ?_
 cases dm
 refine cF<|aZ<|ae.x<|ae.x<|aG.x<|ae.n ?_
 obtain rfl:=O (F h)
 exact⟨qF,y7 _ rfl,wR []⟩
 refine cT<|aE<|ae.n<|ak<|ai mixed<|mv rfl<|mv rfl<|mv rfl<|bE (V h) fun eU jg h=>RT.rem .none _ rfl rfl T (YO jg) (YP jg)<|ag rfl<|ag rfl ?_
 refine RT.done ⟨by kernel_rfl,?_⟩
 refine aG.n ?_
 obtain rfl:=O h
 exact ae.n ⟨(Fu,eU),DA _ rfl,wR []⟩
 subst Dz
 try dsimp only
 refine ae.n<|qq<|sr<|mv rfl<|lE iS fun gu iQ iS=>ls _ rfl rfl iQ<|dn ?_
 refine aF iS (fun j8=>AS.bG 36 [(0,.sv (.v (.int .i64 x0))),(1,.sv (.v (.int .i64 x1))),(4,.ptr 4 0),(5,.sv (.v (.int .i64 j8)))] [(4,⟨43,[.sv (.v (.bool false)),.sv (slc 1 (List.map ah [])),.sv (.v (.bool false)),.sv (slc 1 (List.map ah []))]⟩)] []) (fun iS=>?_) (fun G2 iS=>?_)
 cases gu
 exact fs<|⟨wY,(F iS),wR []⟩
 exact cT<|af<|mv rfl<|lE (V iS) fun ek gV iS=>RT.neg .none _ rfl T gV<|ag rfl<|dn<|⟨ek,iS,wR []⟩
 try dsimp only
 refine ae.n<|qq<|sr<|mv rfl<|mv rfl<|lE iS fun iv nS iS=>eq _ rfl rfl (vh (p:=G2) (q:=x1) nS)<|dn ?_
 cases iv
 refine fs<|qq<|ai mixed<|mv rfl<|mv rfl<|bE (F iS) fun gH iT iS=>RT.quo .none _ rfl rfl T (XZ iT) (KZ iT) ?_
 obtain⟨⟨oK,oL⟩,wV,iS⟩:=bS iS
 refine cl (dJ wV) ⟨rfl,trivial⟩<|mv rfl<|mv rfl<|bE iS fun rS rZ iS=>RT.quo .none _ rfl rfl T (XZ rZ) (KZ rZ) ?_
 obtain⟨⟨G3,G4⟩,ql,iS⟩:=bS iS
 refine cl (dJ ql) ⟨rfl,trivial⟩<|bI (cs:=[_,_,_,_]) (cs':=[.v (.bool oK),slc 1 (List.map ah oL),.v (.bool G3),slc 1 (List.map ah G4)]) (.agg rfl (.agg rfl (.nil))) ⟨SV.aa _,SV.aa _,SV.aa _,SV.aa _,trivial⟩<|so rfl rfl rfl ?_
 refine RT.done ⟨by kernel_rfl,?_⟩
 refine ae.n<|aj ?_
 obtain rfl:=O iS
 exact RZ (.agg rfl rfl (.cons rfl (.cons rfl (.cons rfl (.cons rfl (.nil))))) rfl (.nil))
 refine cT<|sr<|mv rfl<|mv rfl<|bE (V iS) fun fR kD iS=>RT.quo .none _ rfl rfl T (XZ kD) (KZ kD) ?_
 obtain⟨⟨ik,hG⟩,qM,iS⟩:=bS iS
 refine cl (dJ qM) ⟨rfl,trivial⟩<|bI (cs:=[_,_,_,_]) (cs':=[.v (.bool ik),slc 1 (List.map ah hG),.v (.bool false),slc 1 (List.map ah [])]) (.agg rfl (.nil)) ⟨SV.aa _,SV.aa _,SV.aa _,imp_nil,trivial⟩<|so rfl rfl rfl<|dn<|aj<|ae.r ?_
 obtain rfl:=O iS
 exact RZ (.agg rfl rfl (.cons rfl (.cons rfl (.cons rfl (.cons rfl (.nil))))) rfl (.nil))
theorem Fx{x0:Int}{r:Int}(h:pW x0=some r):Pure Tryz.prog 128 [.v (.int .i64 x0)] (.v (.int .i64 r)):=by
 refine ay Tryz.func128 rfl (Nat.le_of_ble_eq_true rfl) (fun cG M vs hvs=>?_)
 unfold pW at h
 refine sr<|ag rfl<|dn<|qq<|ak<|sr<|mv rfl<|lE h fun x5 h5 h=>ls _ rfl rfl h5<|ag rfl<|dn ?_
 cases x5
 refine cF<|sr<|mv rfl<|lE (F h) fun x8 h8 h=>gt _ rfl rfl h8<|ag rfl<|dn ?_
 cases x8
 refine cF<|aE<|aG.n<|ae.n<|sr<|ag rfl<|dn<|aj ?_
 obtain rfl:=O (F h)
 exact R1 rfl
 refine cT<|sr<|ag rfl<|dn<|aj<|aG.r<|ae.r ?_
 obtain rfl:=O (V h)
 exact R1 rfl
 refine cT<|sr<|ag rfl<|dn<|aj<|aG.r<|ae.r ?_
 obtain rfl:=O (V h)
 exact R1 rfl
theorem Aq{x1:Qr}{x2:Qr}{r:Qr}(h:ga x1 x2=some r):Pure Tryz.prog 136 [.v (.int .u8 ((43:Nat):Int)),.agg (eQ x1),.agg (eQ x2)] (.agg (eQ r)):=by
 obtain⟨⟨bF,bC⟩,⟨eX,eY⟩⟩:=x1
 obtain⟨⟨lP,lQ⟩,⟨xV,xW⟩⟩:=x2
 refine ay Tryz.func136 rfl (Nat.le_of_ble_eq_true rfl) (fun cG M vs hvs=>?_)
 unfold ga at h
 refine sr<|bx rfl<|bx rfl<|al (cs:=[.v (.bool false),slc 1 (List.map ah []),.v (.bool false),slc 1 (List.map ah [])]) (by exact⟨SV.aa _,imp_nil,SV.aa _,imp_nil,trivial⟩) rfl<|dn<|sr<|ld rfl rfl (.cons rfl (.cons rfl (.cons rfl (.cons rfl (.nil))))) ?_
 obtain⟨⟨⟨iF,iG⟩,⟨ji,jk⟩⟩,fT,h⟩:=bS h
 refine cl (bM fT) ⟨rfl,trivial⟩<|mv rfl<|ex rfl rfl<|ex rfl rfl<|al (cs:=[.v (.bool false),slc 1 (List.map ah [])]) (by exact⟨SV.aa _,imp_nil,trivial⟩) rfl<|al (cs:=[.v (.bool false),slc 1 (List.map ah [])]) (by exact⟨SV.aa _,imp_nil,trivial⟩) rfl<|so rfl rfl rfl<|so rfl rfl rfl<|dn<|sr<|ld rfl rfl (.cons rfl (.cons rfl (.cons rfl (.cons rfl (.nil))))) ?_
 obtain⟨⟨⟨iH,iI⟩,⟨jl,jm⟩⟩,gV,h⟩:=bS h
 refine cl (bM gV) ⟨rfl,trivial⟩<|mv rfl<|ex rfl rfl<|ex rfl rfl<|al (cs:=[.v (.bool false),slc 1 (List.map ah [])]) (by exact⟨SV.aa _,imp_nil,trivial⟩) rfl<|al (cs:=[.v (.bool false),slc 1 (List.map ah [])]) (by exact⟨SV.aa _,imp_nil,trivial⟩) rfl<|so rfl rfl rfl<|so rfl rfl rfl<|dn<|qq<|ai mixed<|cl dK trivial<|mv rfl ?_
 refine RT.look .none [.func (.func 187) #[] #[]] rfl rfl rfl T<|fl rfl rfl<|ld rfl rfl (.cons rfl (.cons rfl (.nil)))<|ld rfl rfl (.cons rfl (.cons rfl (.nil)))<|ld rfl rfl (.cons rfl (.cons rfl (.nil)))<|ld rfl rfl (.cons rfl (.cons rfl (.nil))) ?_
 obtain⟨⟨⟨jI,jJ⟩,⟨jK,jL⟩⟩,iT,h⟩:=bS h
 refine cl (um iT) ⟨rfl,rfl,rfl,rfl,trivial⟩<|ex rfl rfl<|ex rfl rfl ?_
 obtain⟨⟨⟨kX,kC⟩,⟨nu,nv⟩⟩,kz,h⟩:=bS h
 refine cl (jP kz) ⟨rfl,rfl,trivial⟩<|so rfl rfl rfl ?_
 refine RT.done ⟨by kernel_rfl,?_⟩
 refine ae.n<|aj ?_
 obtain rfl:=O h
 exact RZ (.agg rfl rfl (.cons rfl (.cons rfl (.cons rfl (.cons rfl (.nil))))) rfl (.nil))
theorem Ar{x1:Qr}{x2:Qr}{r:Qr}(h:gb x1 x2=some r):Pure Tryz.prog 136 [.v (.int .u8 ((45:Nat):Int)),.agg (eQ x1),.agg (eQ x2)] (.agg (eQ r)):=by
 obtain⟨⟨bF,bC⟩,⟨eX,eY⟩⟩:=x1
 obtain⟨⟨lP,lQ⟩,⟨xV,xW⟩⟩:=x2
 refine ay Tryz.func136 rfl (Nat.le_of_ble_eq_true rfl) (fun cG M vs hvs=>?_)
 unfold gb at h
 refine sr<|bx rfl<|bx rfl<|al (cs:=[.v (.bool false),slc 1 (List.map ah []),.v (.bool false),slc 1 (List.map ah [])]) (by exact⟨SV.aa _,imp_nil,SV.aa _,imp_nil,trivial⟩) rfl<|dn<|sr<|ld rfl rfl (.cons rfl (.cons rfl (.cons rfl (.cons rfl (.nil))))) ?_
 obtain⟨⟨⟨iF,iG⟩,⟨ji,jk⟩⟩,fT,h⟩:=bS h
 refine cl (bM fT) ⟨rfl,trivial⟩<|mv rfl<|ex rfl rfl<|ex rfl rfl<|al (cs:=[.v (.bool false),slc 1 (List.map ah [])]) (by exact⟨SV.aa _,imp_nil,trivial⟩) rfl<|al (cs:=[.v (.bool false),slc 1 (List.map ah [])]) (by exact⟨SV.aa _,imp_nil,trivial⟩) rfl<|so rfl rfl rfl<|so rfl rfl rfl<|dn<|sr<|ld rfl rfl (.cons rfl (.cons rfl (.cons rfl (.cons rfl (.nil))))) ?_
 obtain⟨⟨⟨iH,iI⟩,⟨jl,jm⟩⟩,gV,h⟩:=bS h
 refine cl (bM gV) ⟨rfl,trivial⟩<|mv rfl<|ex rfl rfl<|ex rfl rfl<|al (cs:=[.v (.bool false),slc 1 (List.map ah [])]) (by exact⟨SV.aa _,imp_nil,trivial⟩) rfl<|al (cs:=[.v (.bool false),slc 1 (List.map ah [])]) (by exact⟨SV.aa _,imp_nil,trivial⟩) rfl<|so rfl rfl rfl<|so rfl rfl rfl<|dn<|qq<|ai mixed<|cl dK trivial<|mv rfl ?_
 refine RT.look .none [.func (.func 189) #[] #[]] rfl rfl rfl T<|fl rfl rfl<|ld rfl rfl (.cons rfl (.cons rfl (.nil)))<|ld rfl rfl (.cons rfl (.cons rfl (.nil)))<|ld rfl rfl (.cons rfl (.cons rfl (.nil)))<|ld rfl rfl (.cons rfl (.cons rfl (.nil))) ?_
 obtain⟨⟨⟨jI,jJ⟩,⟨jK,jL⟩⟩,iT,h⟩:=bS h
 refine cl (uo iT) ⟨rfl,rfl,rfl,rfl,trivial⟩<|ex rfl rfl<|ex rfl rfl ?_
 obtain⟨⟨⟨kX,kC⟩,⟨nu,nv⟩⟩,kz,h⟩:=bS h
 refine cl (jP kz) ⟨rfl,rfl,trivial⟩<|so rfl rfl rfl ?_
 refine RT.done ⟨by kernel_rfl,?_⟩
 refine ae.n<|aj ?_
 obtain rfl:=O h
 exact RZ (.agg rfl rfl (.cons rfl (.cons rfl (.cons rfl (.cons rfl (.nil))))) rfl (.nil))
theorem As{x1:Qr}{x2:Qr}{r:Qr}(h:gh x1 x2=some r):Pure Tryz.prog 136 [.v (.int .u8 ((42:Nat):Int)),.agg (eQ x1),.agg (eQ x2)] (.agg (eQ r)):=by
 obtain⟨⟨bF,bC⟩,⟨eX,eY⟩⟩:=x1
 obtain⟨⟨lP,lQ⟩,⟨xV,xW⟩⟩:=x2
 refine ay Tryz.func136 rfl (Nat.le_of_ble_eq_true rfl) (fun cG M vs hvs=>?_)
 unfold gh at h
 refine sr<|bx rfl<|bx rfl<|al (cs:=[.v (.bool false),slc 1 (List.map ah []),.v (.bool false),slc 1 (List.map ah [])]) (by exact⟨SV.aa _,imp_nil,SV.aa _,imp_nil,trivial⟩) rfl<|dn<|sr<|ld rfl rfl (.cons rfl (.cons rfl (.cons rfl (.cons rfl (.nil))))) ?_
 obtain⟨⟨⟨iF,iG⟩,⟨ji,jk⟩⟩,fT,h⟩:=bS h
 refine cl (bM fT) ⟨rfl,trivial⟩<|mv rfl<|ex rfl rfl<|ex rfl rfl<|al (cs:=[.v (.bool false),slc 1 (List.map ah [])]) (by exact⟨SV.aa _,imp_nil,trivial⟩) rfl<|al (cs:=[.v (.bool false),slc 1 (List.map ah [])]) (by exact⟨SV.aa _,imp_nil,trivial⟩) rfl<|so rfl rfl rfl<|so rfl rfl rfl<|dn<|sr<|ld rfl rfl (.cons rfl (.cons rfl (.cons rfl (.cons rfl (.nil))))) ?_
 obtain⟨⟨⟨iH,iI⟩,⟨jl,jm⟩⟩,gV,h⟩:=bS h
 refine cl (bM gV) ⟨rfl,trivial⟩<|mv rfl<|ex rfl rfl<|ex rfl rfl<|al (cs:=[.v (.bool false),slc 1 (List.map ah [])]) (by exact⟨SV.aa _,imp_nil,trivial⟩) rfl<|al (cs:=[.v (.bool false),slc 1 (List.map ah [])]) (by exact⟨SV.aa _,imp_nil,trivial⟩) rfl<|so rfl rfl rfl<|so rfl rfl rfl<|dn<|qq<|ai mixed<|cl dK trivial<|mv rfl ?_
 refine RT.look .none [.func (.func 191) #[] #[]] rfl rfl rfl T<|fl rfl rfl<|ld rfl rfl (.cons rfl (.cons rfl (.nil)))<|ld rfl rfl (.cons rfl (.cons rfl (.nil)))<|ld rfl rfl (.cons rfl (.cons rfl (.nil)))<|ld rfl rfl (.cons rfl (.cons rfl (.nil))) ?_
 obtain⟨⟨⟨jI,jJ⟩,⟨jK,jL⟩⟩,iT,h⟩:=bS h
 refine cl (ur iT) ⟨rfl,rfl,rfl,rfl,trivial⟩<|ex rfl rfl<|ex rfl rfl ?_
 obtain⟨⟨⟨kX,kC⟩,⟨nu,nv⟩⟩,kz,h⟩:=bS h
 refine cl (jP kz) ⟨rfl,rfl,trivial⟩<|so rfl rfl rfl ?_
 refine RT.done ⟨by kernel_rfl,?_⟩
 refine ae.n<|aj ?_
 obtain rfl:=O h
 exact RZ (.agg rfl rfl (.cons rfl (.cons rfl (.cons rfl (.cons rfl (.nil))))) rfl (.nil))
theorem At{x1:Qr}{x2:Qr}{r:Qr}(h:jM x1 x2=some r):Pure Tryz.prog 136 [.v (.int .u8 ((47:Nat):Int)),.agg (eQ x1),.agg (eQ x2)] (.agg (eQ r)):=by
 obtain⟨⟨bF,bC⟩,⟨eX,eY⟩⟩:=x1
 obtain⟨⟨lP,lQ⟩,⟨xV,xW⟩⟩:=x2
 refine ay Tryz.func136 rfl (Nat.le_of_ble_eq_true rfl) (fun cG M vs hvs=>?_)
 unfold jM at h
 refine sr<|bx rfl<|bx rfl<|al (cs:=[.v (.bool false),slc 1 (List.map ah []),.v (.bool false),slc 1 (List.map ah [])]) (by exact⟨SV.aa _,imp_nil,SV.aa _,imp_nil,trivial⟩) rfl<|dn<|sr<|ld rfl rfl (.cons rfl (.cons rfl (.cons rfl (.cons rfl (.nil))))) ?_
 obtain⟨⟨⟨iF,iG⟩,⟨ji,jk⟩⟩,fT,h⟩:=bS h
 refine cl (bM fT) ⟨rfl,trivial⟩<|mv rfl<|ex rfl rfl<|ex rfl rfl<|al (cs:=[.v (.bool false),slc 1 (List.map ah [])]) (by exact⟨SV.aa _,imp_nil,trivial⟩) rfl<|al (cs:=[.v (.bool false),slc 1 (List.map ah [])]) (by exact⟨SV.aa _,imp_nil,trivial⟩) rfl<|so rfl rfl rfl<|so rfl rfl rfl<|dn<|sr<|ld rfl rfl (.cons rfl (.cons rfl (.cons rfl (.cons rfl (.nil))))) ?_
 obtain⟨⟨⟨iH,iI⟩,⟨jl,jm⟩⟩,gV,h⟩:=bS h
 refine cl (bM gV) ⟨rfl,trivial⟩<|mv rfl<|ex rfl rfl<|ex rfl rfl<|al (cs:=[.v (.bool false),slc 1 (List.map ah [])]) (by exact⟨SV.aa _,imp_nil,trivial⟩) rfl<|al (cs:=[.v (.bool false),slc 1 (List.map ah [])]) (by exact⟨SV.aa _,imp_nil,trivial⟩) rfl<|so rfl rfl rfl<|so rfl rfl rfl<|dn<|qq<|ai mixed<|cl dK trivial<|mv rfl ?_
 refine RT.look .none [.func (.func 192) #[] #[]] rfl rfl rfl T<|fl rfl rfl<|ld rfl rfl (.cons rfl (.cons rfl (.nil)))<|ld rfl rfl (.cons rfl (.cons rfl (.nil)))<|ld rfl rfl (.cons rfl (.cons rfl (.nil)))<|ld rfl rfl (.cons rfl (.cons rfl (.nil))) ?_
 obtain⟨⟨⟨jI,jJ⟩,⟨jK,jL⟩⟩,iT,h⟩:=bS h
 refine cl (uu iT) ⟨rfl,rfl,rfl,rfl,trivial⟩<|ex rfl rfl<|ex rfl rfl ?_
 obtain⟨⟨⟨kX,kC⟩,⟨nu,nv⟩⟩,kz,h⟩:=bS h
 refine cl (jP kz) ⟨rfl,rfl,trivial⟩<|so rfl rfl rfl ?_
 refine RT.done ⟨by kernel_rfl,?_⟩
 refine ae.n<|aj ?_
 obtain rfl:=O h
 exact RZ (.agg rfl rfl (.cons rfl (.cons rfl (.cons rfl (.cons rfl (.nil))))) rfl (.nil))
end Go.Proofs.YtningmnklfpfjaaGreat
namespace Go.Proofs.YtningmnklfpfjaaGreat
open Go.Fw Go.Fw.Z Go.RowKit
theorem gJ{x0:Int}{r:Qr}(h:cA x0=some r):Pure Tryz.prog 41 [.v (.int .i64 x0)] (.agg (eQ r)):=by
 refine ay Tryz.func41 rfl (Nat.le_of_ble_eq_true rfl) (fun cG M vs hvs=>?_)
 unfold cA at h
 refine sr<|al (cs:=[.v (.bool false),slc 1 (List.map ah []),.v (.bool false),slc 1 (List.map ah [])]) (by exact⟨SV.aa _,imp_nil,SV.aa _,imp_nil,trivial⟩) rfl<|dn<|sr<|mv rfl ?_
 obtain⟨⟨VZ,V0⟩,h4,h⟩:=bS h
 refine cl (dJ h4) ⟨rfl,trivial⟩<|bI (cs:=[_,_,_,_]) (cs':=[.v (.bool VZ),slc 1 (List.map ah V0),.v (.bool false),slc 1 (List.map ah [])]) (.agg rfl (.nil)) ⟨SV.aa _,SV.aa _,SV.aa _,imp_nil,trivial⟩<|so rfl rfl rfl<|dn<|aj ?_
 obtain rfl:=O h
 exact RZ (.agg rfl rfl (.cons rfl (.cons rfl (.cons rfl (.cons rfl (.nil))))) rfl (.nil))
theorem fm{x0:Qr}{r:Qr}(h:bW x0=some r):Pure Tryz.prog 93 [.agg (eQ x0)] (.agg (eQ r)):=by
 obtain⟨⟨aB,aC⟩,⟨aJ,aL⟩⟩:=x0
 refine ay Tryz.func93 rfl (Nat.le_of_ble_eq_true rfl) (fun cG M vs hvs=>?_)
 unfold bW at h
 refine sr<|bx rfl<|al (cs:=[.v (.bool false),slc 1 (List.map ah []),.v (.bool false),slc 1 (List.map ah [])]) (by exact⟨SV.aa _,imp_nil,SV.aa _,imp_nil,trivial⟩) rfl<|dn<|qq<|sr<|ld rfl rfl (.cons rfl (.cons rfl (.cons rfl (.cons rfl (.nil))))) ?_
 obtain⟨⟨x8a,x8b,Zy⟩,h8,h⟩:=bS h
 refine cl (bY h8) ⟨rfl,trivial⟩<|mv rfl<|ex rfl rfl<|ex rfl rfl<|ex rfl rfl<|ag rfl<|ag rfl<|ag rfl<|dn<|sr<|mv rfl<|dn ?_
 cases Zy
 refine fs<|sr<|ld rfl rfl (.cons rfl (.cons rfl (.cons rfl (.cons rfl (.nil))))) ?_
 obtain⟨⟨⟨Ja,Jb⟩,⟨Jc,Jd⟩⟩,jD,h⟩:=bS (F h)
 refine cl (bM jD) ⟨rfl,trivial⟩<|ex rfl rfl<|ex rfl rfl ?_
 obtain⟨⟨⟨NR,NS⟩,⟨NT,NU⟩⟩,lM,h⟩:=bS h
 refine cl (jP lM) ⟨rfl,rfl,trivial⟩<|so rfl rfl rfl<|dn<|aj ?_
 obtain rfl:=O h
 exact RZ (.agg rfl rfl (.cons rfl (.cons rfl (.cons rfl (.cons rfl (.nil))))) rfl (.nil))
 refine cT<|sr<|mv rfl<|mv rfl ?_
 obtain⟨⟨⟨jG,jH⟩,⟨Ek,El⟩⟩,fE,h⟩:=bS (V h)
 refine cl (kG fE) ⟨rfl,rfl,trivial⟩<|so rfl rfl rfl<|dn<|aj<|ae.r ?_
 obtain rfl:=O h
 exact RZ (.agg rfl rfl (.cons rfl (.cons rfl (.cons rfl (.cons rfl (.nil))))) rfl (.nil))
theorem fI{x0:Qr}{r:Int}(h:eu x0=some r):Pure Tryz.prog 59 [.agg (eQ x0)] (.v (.int .i64 r)):=by
 obtain⟨⟨aB,aC⟩,⟨aJ,aL⟩⟩:=x0
 refine ay Tryz.func59 rfl (Nat.le_of_ble_eq_true rfl) (fun cG M vs hvs=>?_)
 unfold eu at h
 refine sr<|bx rfl<|ag rfl<|dn<|qq<|sr<|fa rfl rfl<|ld rfl rfl (.cons rfl (.cons rfl (.nil)))<|bE h fun x5 h5 h=>cl (dV h5) ⟨rfl,trivial⟩<|lE h fun x6 h6 h=>ls _ rfl rfl h6<|dn ?_
 cases x6
 refine fs<|sr<|fa rfl rfl<|ld rfl rfl (.cons rfl (.cons rfl (.nil)))<|bE (F h) fun fB fT h=>cl (dV fT) ⟨rfl,trivial⟩<|ag rfl<|dn<|aj ?_
 obtain rfl:=O h
 exact R1 rfl
 refine cT<|sr<|fa rfl rfl<|ld rfl rfl (.cons rfl (.cons rfl (.nil)))<|bE (V h) fun x9 h9 h=>cl (dV h9) ⟨rfl,trivial⟩<|lE h fun dm fD h=>RT.neg .none _ rfl T fD<|ag rfl<|dn<|aj<|ae.r ?_
 obtain rfl:=O h
 exact R1 rfl
theorem z4{x0:Qr}{x1:Qr}{r:Qr}(h:jN x0 x1=some r):Pure Tryz.prog 132 [.agg (eQ x0),.agg (eQ x1)] (.agg (eQ r)):=by
 obtain⟨⟨aB,aC⟩,⟨aJ,aL⟩⟩:=x0
 obtain⟨⟨bF,bC⟩,⟨eX,eY⟩⟩:=x1
 refine ay Tryz.func132 rfl (Nat.le_of_ble_eq_true rfl) (fun cG M vs hvs=>?_)
 unfold jN at h
 refine sr<|bx rfl<|bx rfl<|al (cs:=[.v (.bool false),slc 1 (List.map ah []),.v (.bool false),slc 1 (List.map ah [])]) (by exact⟨SV.aa _,imp_nil,SV.aa _,imp_nil,trivial⟩) rfl<|dn<|sr<|ld rfl rfl (.cons rfl (.cons rfl (.cons rfl (.cons rfl (.nil))))) ?_
 obtain⟨⟨ue,sq,uf⟩,fT,h⟩:=bS h
 refine cl (bY fT) ⟨rfl,trivial⟩<|mv rfl<|ex rfl rfl<|ex rfl rfl<|ex rfl rfl<|ag rfl<|ag rfl<|ag rfl<|dn<|sr<|ld rfl rfl (.cons rfl (.cons rfl (.cons rfl (.cons rfl (.nil))))) ?_
 obtain⟨⟨ug,su,uh⟩,kx,h⟩:=bS h
 refine cl (bY kx) ⟨rfl,trivial⟩<|mv rfl<|ex rfl rfl<|ex rfl rfl<|ex rfl rfl<|ag rfl<|ag rfl<|ag rfl<|dn<|qq<|qq ?_
 refine aF h (fun j3=>AS.bG 41 [(2,.ptr 2 0),(3,.ptr 3 0),(4,.ptr 4 0),(5,.sv (.v (.int .i64 ue))),(6,.sv (.v (.int .i64 sq))),(8,.sv (.v (.int .i64 ug))),(9,.sv (.v (.int .i64 su))),(26,.sv (.v (.bool j3)))] [(4,⟨43,[.sv (.v (.bool false)),.sv (slc 1 (List.map ah [])),.sv (.v (.bool false)),.sv (slc 1 (List.map ah []))]⟩),(3,⟨43,[.sv (.v (.bool bF)),.sv (slc 1 (List.map ah bC)),.sv (.v (.bool eX)),.sv (slc 1 (List.map ah eY))]⟩),(2,⟨43,[.sv (.v (.bool aB)),.sv (slc 1 (List.map ah aC)),.sv (.v (.bool aJ)),.sv (slc 1 (List.map ah aL))]⟩)] []) (fun h=>?_) (fun nx h=>?_)
 refine af<|mv rfl<|mv rfl<|bE h fun uj m8 h=>?_
 cases uf
 obtain rfl:=O (F m8)
 exact ww<|pF rfl<|dn<|⟨false,h,wR []⟩
 refine gm rfl ?_
 obtain rfl:=O (V m8)
 exact pT rfl<|dn<|⟨uh,h,wR []⟩
 try dsimp only
 refine ae.n ?_
 cases nx
 refine fs<|sr<|ld rfl rfl (.cons rfl (.cons rfl (.cons rfl (.cons rfl (.nil)))))<|ld rfl rfl (.cons rfl (.cons rfl (.cons rfl (.cons rfl (.nil))))) ?_
 obtain⟨⟨⟨tZ,ua⟩,⟨B6,B7⟩⟩,nO,h⟩:=bS (F h)
 refine cl (Aq nO) ⟨rfl,rfl,rfl,trivial⟩<|so rfl rfl rfl<|dn<|aj ?_
 obtain rfl:=O h
 exact RZ (.agg rfl rfl (.cons rfl (.cons rfl (.cons rfl (.cons rfl (.nil))))) rfl (.nil))
 refine cT<|sr<|mv rfl<|mv rfl<|lE (V h) fun gH iT h=>RT.mul .none _ rfl rfl T iT<|mv rfl<|mv rfl<|lE h fun iD kz h=>RT.mul .none _ rfl rfl T kz<|lE h fun rS rZ h=>ad _ rfl rfl rZ<|mv rfl<|mv rfl<|lE h fun oC pL h=>RT.mul .none _ rfl rfl T pL ?_
 obtain⟨⟨⟨B0,B3⟩,⟨B4,B5⟩⟩,xU,h⟩:=bS h
 refine cl (kG xU) ⟨rfl,rfl,trivial⟩<|so rfl rfl rfl<|dn<|aj<|ae.r ?_
 obtain rfl:=O h
 exact RZ (.agg rfl rfl (.cons rfl (.cons rfl (.cons rfl (.cons rfl (.nil))))) rfl (.nil))
theorem z5{x0:Qr}{x1:Qr}{r:Qr}(h:jO x0 x1=some r):Pure Tryz.prog 94 [.agg (eQ x0),.agg (eQ x1)] (.agg (eQ r)):=by
 obtain⟨⟨aB,aC⟩,⟨aJ,aL⟩⟩:=x0
 obtain⟨⟨bF,bC⟩,⟨eX,eY⟩⟩:=x1
 refine ay Tryz.func94 rfl (Nat.le_of_ble_eq_true rfl) (fun cG M vs hvs=>?_)
 unfold jO at h
 refine sr<|bx rfl<|bx rfl<|al (cs:=[.v (.bool false),slc 1 (List.map ah []),.v (.bool false),slc 1 (List.map ah [])]) (by exact⟨SV.aa _,imp_nil,SV.aa _,imp_nil,trivial⟩) rfl<|dn<|sr<|ld rfl rfl (.cons rfl (.cons rfl (.cons rfl (.cons rfl (.nil))))) ?_
 obtain⟨⟨ue,sq,uf⟩,fT,h⟩:=bS h
 refine cl (bY fT) ⟨rfl,trivial⟩<|mv rfl<|ex rfl rfl<|ex rfl rfl<|ex rfl rfl<|ag rfl<|ag rfl<|ag rfl<|dn<|sr<|ld rfl rfl (.cons rfl (.cons rfl (.cons rfl (.cons rfl (.nil))))) ?_
 obtain⟨⟨ug,su,uh⟩,kx,h⟩:=bS h
 refine cl (bY kx) ⟨rfl,trivial⟩<|mv rfl<|ex rfl rfl<|ex rfl rfl<|ex rfl rfl<|ag rfl<|ag rfl<|ag rfl<|dn<|qq<|qq ?_
 refine aF h (fun j3=>AS.bG 41 [(2,.ptr 2 0),(3,.ptr 3 0),(4,.ptr 4 0),(5,.sv (.v (.int .i64 ue))),(6,.sv (.v (.int .i64 sq))),(8,.sv (.v (.int .i64 ug))),(9,.sv (.v (.int .i64 su))),(26,.sv (.v (.bool j3)))] [(4,⟨43,[.sv (.v (.bool false)),.sv (slc 1 (List.map ah [])),.sv (.v (.bool false)),.sv (slc 1 (List.map ah []))]⟩),(3,⟨43,[.sv (.v (.bool bF)),.sv (slc 1 (List.map ah bC)),.sv (.v (.bool eX)),.sv (slc 1 (List.map ah eY))]⟩),(2,⟨43,[.sv (.v (.bool aB)),.sv (slc 1 (List.map ah aC)),.sv (.v (.bool aJ)),.sv (slc 1 (List.map ah aL))]⟩)] []) (fun h=>?_) (fun nx h=>?_)
 refine af<|mv rfl<|mv rfl<|bE h fun uj m8 h=>?_
 cases uf
 obtain rfl:=O (F m8)
 exact ww<|pF rfl<|dn<|⟨false,h,wR []⟩
 refine gm rfl ?_
 obtain rfl:=O (V m8)
 exact pT rfl<|dn<|⟨uh,h,wR []⟩
 try dsimp only
 refine ae.n ?_
 cases nx
 refine fs<|sr<|ld rfl rfl (.cons rfl (.cons rfl (.cons rfl (.cons rfl (.nil)))))<|ld rfl rfl (.cons rfl (.cons rfl (.cons rfl (.cons rfl (.nil))))) ?_
 obtain⟨⟨⟨tZ,ua⟩,⟨B6,B7⟩⟩,nO,h⟩:=bS (F h)
 refine cl (Ar nO) ⟨rfl,rfl,rfl,trivial⟩<|so rfl rfl rfl<|dn<|aj ?_
 obtain rfl:=O h
 exact RZ (.agg rfl rfl (.cons rfl (.cons rfl (.cons rfl (.cons rfl (.nil))))) rfl (.nil))
 refine cT<|sr<|mv rfl<|mv rfl<|lE (V h) fun gH iT h=>RT.mul .none _ rfl rfl T iT<|mv rfl<|mv rfl<|lE h fun iD kz h=>RT.mul .none _ rfl rfl T kz<|lE h fun rS rZ h=>sb _ rfl rfl rZ<|mv rfl<|mv rfl<|lE h fun oC pL h=>RT.mul .none _ rfl rfl T pL ?_
 obtain⟨⟨⟨B0,B3⟩,⟨B4,B5⟩⟩,xU,h⟩:=bS h
 refine cl (kG xU) ⟨rfl,rfl,trivial⟩<|so rfl rfl rfl<|dn<|aj<|ae.r ?_
 obtain rfl:=O h
 exact RZ (.agg rfl rfl (.cons rfl (.cons rfl (.cons rfl (.cons rfl (.nil))))) rfl (.nil))
theorem uw{x0:Qr}{x1:Qr}{r:Qr}(h:iJ x0 x1=some r):Pure Tryz.prog 89 [.agg (eQ x0),.agg (eQ x1)] (.agg (eQ r)):=by
 obtain⟨⟨aB,aC⟩,⟨aJ,aL⟩⟩:=x0
 obtain⟨⟨bF,bC⟩,⟨eX,eY⟩⟩:=x1
 refine ay Tryz.func89 rfl (Nat.le_of_ble_eq_true rfl) (fun cG M vs hvs=>?_)
 unfold iJ at h
 refine sr<|bx rfl<|bx rfl<|al (cs:=[.v (.bool false),slc 1 (List.map ah []),.v (.bool false),slc 1 (List.map ah [])]) (by exact⟨SV.aa _,imp_nil,SV.aa _,imp_nil,trivial⟩) rfl<|dn<|sr<|ld rfl rfl (.cons rfl (.cons rfl (.cons rfl (.cons rfl (.nil))))) ?_
 obtain⟨⟨ue,sq,uf⟩,fT,h⟩:=bS h
 refine cl (bY fT) ⟨rfl,trivial⟩<|mv rfl<|ex rfl rfl<|ex rfl rfl<|ex rfl rfl<|ag rfl<|ag rfl<|ag rfl<|dn<|sr<|ld rfl rfl (.cons rfl (.cons rfl (.cons rfl (.cons rfl (.nil))))) ?_
 obtain⟨⟨ug,su,uh⟩,kx,h⟩:=bS h
 refine cl (bY kx) ⟨rfl,trivial⟩<|mv rfl<|ex rfl rfl<|ex rfl rfl<|ex rfl rfl<|ag rfl<|ag rfl<|ag rfl<|dn<|qq<|qq ?_
 refine aF h (fun j3=>AS.bG 37 [(2,.ptr 2 0),(3,.ptr 3 0),(4,.ptr 4 0),(5,.sv (.v (.int .i64 ue))),(6,.sv (.v (.int .i64 sq))),(8,.sv (.v (.int .i64 ug))),(9,.sv (.v (.int .i64 su))),(26,.sv (.v (.bool j3)))] [(4,⟨43,[.sv (.v (.bool false)),.sv (slc 1 (List.map ah [])),.sv (.v (.bool false)),.sv (slc 1 (List.map ah []))]⟩),(3,⟨43,[.sv (.v (.bool bF)),.sv (slc 1 (List.map ah bC)),.sv (.v (.bool eX)),.sv (slc 1 (List.map ah eY))]⟩),(2,⟨43,[.sv (.v (.bool aB)),.sv (slc 1 (List.map ah aC)),.sv (.v (.bool aJ)),.sv (slc 1 (List.map ah aL))]⟩)] []) (fun h=>?_) (fun nx h=>?_)
 refine af<|mv rfl<|mv rfl<|bE h fun uj m8 h=>?_
 cases uf
 obtain rfl:=O (F m8)
 exact ww<|pF rfl<|dn<|⟨false,h,wR []⟩
 refine gm rfl ?_
 obtain rfl:=O (V m8)
 exact pT rfl<|dn<|⟨uh,h,wR []⟩
 try dsimp only
 refine ae.n ?_
 cases nx
 refine fs<|sr<|ld rfl rfl (.cons rfl (.cons rfl (.cons rfl (.cons rfl (.nil)))))<|ld rfl rfl (.cons rfl (.cons rfl (.cons rfl (.cons rfl (.nil))))) ?_
 obtain⟨⟨⟨tX,tY⟩,⟨NZ,N0⟩⟩,pL,h⟩:=bS (F h)
 refine cl (As pL) ⟨rfl,rfl,rfl,trivial⟩<|so rfl rfl rfl<|dn<|aj ?_
 obtain rfl:=O h
 exact RZ (.agg rfl rfl (.cons rfl (.cons rfl (.cons rfl (.cons rfl (.nil))))) rfl (.nil))
 refine cT<|sr<|mv rfl<|mv rfl<|lE (V h) fun gH iT h=>RT.mul .none _ rfl rfl T iT<|mv rfl<|mv rfl<|lE h fun iD kz h=>RT.mul .none _ rfl rfl T kz ?_
 obtain⟨⟨⟨NV,NW⟩,⟨NX,NY⟩⟩,rZ,h⟩:=bS h
 refine cl (kG rZ) ⟨rfl,rfl,trivial⟩<|so rfl rfl rfl<|dn<|aj<|ae.r ?_
 obtain rfl:=O h
 exact RZ (.agg rfl rfl (.cons rfl (.cons rfl (.cons rfl (.cons rfl (.nil))))) rfl (.nil))
theorem G7{x0:Qr}{x1:Qr}{r:Qr×Int}(h:oO x0 x1=some r):Pure Tryz.prog 105 [.agg (eQ x0),.agg (eQ x1)] (.vW [.agg (eQ r.1),.v (.int .i64 r.2)]):=by
 obtain⟨⟨aB,aC⟩,⟨aJ,aL⟩⟩:=x0
 obtain⟨⟨bF,bC⟩,⟨eX,eY⟩⟩:=x1
 refine ay Tryz.func105 rfl (Nat.le_of_ble_eq_true rfl) (fun cG M vs hvs=>?_)
 unfold oO at h
 refine sr<|bx rfl<|bx rfl<|al (cs:=[.v (.bool false),slc 1 (List.map ah []),.v (.bool false),slc 1 (List.map ah [])]) (by exact⟨SV.aa _,imp_nil,SV.aa _,imp_nil,trivial⟩) rfl<|ag rfl<|dn<|qq<|sr<|ld rfl rfl (.cons rfl (.cons rfl (.cons rfl (.cons rfl (.nil)))))<|bE h fun fB fT h=>cl (fI fT) ⟨rfl,trivial⟩<|lE h fun eU jg h=>eq _ rfl rfl (vh (p:=fB) (q:=0) jg)<|RT.done ?_
 refine ae.n ?_
 cases eU
 refine fs<|sr<|ld rfl rfl (.cons rfl (.cons rfl (.cons rfl (.cons rfl (.nil))))) ?_
 obtain⟨⟨N3,Q1,V1⟩,gV,h⟩:=bS (F h)
 refine cl (bY gV) ⟨rfl,trivial⟩<|mv rfl<|ex rfl rfl<|ex rfl rfl<|ex rfl rfl<|ag rfl<|ag rfl<|ag rfl<|dn<|sr<|ld rfl rfl (.cons rfl (.cons rfl (.cons rfl (.cons rfl (.nil))))) ?_
 obtain⟨⟨Li,Lj,V3⟩,kD,h⟩:=bS h
 refine cl (bY kD) ⟨rfl,trivial⟩<|mv rfl<|ex rfl rfl<|ex rfl rfl<|ex rfl rfl<|ag rfl<|ag rfl<|ag rfl<|dn<|qq<|qq ?_
 refine aF h (fun j3=>AS.bG 48 [(2,.ptr 2 0),(3,.ptr 3 0),(4,.ptr 4 0),(6,.sv (.v (.int .i64 N3))),(7,.sv (.v (.int .i64 Q1))),(9,.sv (.v (.int .i64 Li))),(10,.sv (.v (.int .i64 Lj))),(31,.sv (.v (.bool j3)))] [(4,⟨43,[.sv (.v (.bool false)),.sv (slc 1 (List.map ah [])),.sv (.v (.bool false)),.sv (slc 1 (List.map ah []))]⟩),(3,⟨43,[.sv (.v (.bool bF)),.sv (slc 1 (List.map ah bC)),.sv (.v (.bool eX)),.sv (slc 1 (List.map ah eY))]⟩),(2,⟨43,[.sv (.v (.bool aB)),.sv (slc 1 (List.map ah aC)),.sv (.v (.bool aJ)),.sv (slc 1 (List.map ah aL))]⟩)] []) (fun h=>?_) (fun B8 h=>?_)
 refine af<|mv rfl<|mv rfl<|bE h fun SO L5 h=>?_
 cases V1
 obtain rfl:=O (F L5)
 exact ww<|pF rfl<|dn<|⟨false,h,wR []⟩
 refine gm rfl ?_
 obtain rfl:=O (V L5)
 exact pT rfl<|dn<|⟨V3,h,wR []⟩
 try dsimp only
 refine ae.n ?_
 cases B8
 refine fs<|sr<|ld rfl rfl (.cons rfl (.cons rfl (.cons rfl (.cons rfl (.nil)))))<|ld rfl rfl (.cons rfl (.cons rfl (.cons rfl (.cons rfl (.nil))))) ?_
 obtain⟨⟨⟨Ee,Ef⟩,⟨SM,SN⟩⟩,wW,h⟩:=bS (F h)
 refine cl (At wW) ⟨rfl,rfl,rfl,trivial⟩<|so rfl rfl rfl<|ag rfl<|dn<|aj ?_
 obtain rfl:=O h
 exact RZ (.agg rfl rfl (.cons rfl (.cons rfl (.cons rfl (.cons rfl (.nil))))) rfl (.tmp rfl (.nil)))
 refine cT<|qq<|sr<|mv rfl<|lE (V h) fun rS rZ h=>ls _ rfl rfl rZ<|dn ?_
 refine aF h (fun j6=>AS.bG 48 [(4,.ptr 4 0),(6,.sv (.v (.int .i64 j6.1))),(7,.sv (.v (.int .i64 Q1))),(9,.sv (.v (.int .i64 j6.2))),(10,.sv (.v (.int .i64 Lj)))] [(4,⟨43,[.sv (.v (.bool false)),.sv (slc 1 (List.map ah [])),.sv (.v (.bool false)),.sv (slc 1 (List.map ah []))]⟩)] []) (fun h=>?_) (fun j6 h=>?_)
 cases rS
 exact fs<|⟨(N3,Li),(F h),wR []⟩
 exact cT<|af<|mv rfl<|lE (V h) fun rO za h=>RT.neg .none _ rfl T za<|mv rfl<|lE h fun tf xU h=>RT.neg .none _ rfl T xU<|ag rfl<|ag rfl<|dn<|⟨(rO,tf),h,wR []⟩
 obtain⟨Zz,ZA⟩:=j6
 try dsimp only
 refine ae.n<|sr<|mv rfl<|mv rfl<|lE h fun lu nO h=>RT.mul .none _ rfl rfl T nO<|mv rfl<|mv rfl<|lE h fun vn Dj h=>RT.mul .none _ rfl rfl T Dj ?_
 obtain⟨⟨⟨Eg,Eh⟩,⟨SK,SL⟩⟩,zh,h⟩:=bS h
 refine cl (kG zh) ⟨rfl,rfl,trivial⟩<|so rfl rfl rfl<|ag rfl<|dn<|aj<|ae.r ?_
 obtain rfl:=O h
 exact RZ (.agg rfl rfl (.cons rfl (.cons rfl (.cons rfl (.cons rfl (.nil))))) rfl (.tmp rfl (.nil)))
 refine cT<|sr<|bI (cs:=[_,_,_,_]) (cs':=[.v (.bool false),slc 1 (List.map ah []),.v (.bool false),slc 1 (List.map ah [])]) (.nil) ⟨SV.aa _,imp_nil,SV.aa _,imp_nil,trivial⟩<|so rfl rfl rfl<|ag rfl<|dn<|aj<|ae.r ?_
 obtain rfl:=O (V h)
 exact RZ (.agg rfl rfl (.cons rfl (.cons rfl (.cons rfl (.cons rfl (.nil))))) rfl (.tmp rfl (.nil)))
theorem G9{x0:Qr}{r:Qr}(h:oP x0=some r):Pure Tryz.prog 108 [.agg (eQ x0)] (.agg (eQ r)):=by
 obtain⟨⟨aB,aC⟩,⟨aJ,aL⟩⟩:=x0
 refine ay Tryz.func108 rfl (Nat.le_of_ble_eq_true rfl) (fun cG M vs hvs=>?_)
 unfold oP at h
 refine sr<|bx rfl<|al (cs:=[.v (.bool false),slc 1 (List.map ah []),.v (.bool false),slc 1 (List.map ah [])]) (by exact⟨SV.aa _,imp_nil,SV.aa _,imp_nil,trivial⟩) rfl<|dn<|sr<|ld rfl rfl (.cons rfl (.cons rfl (.cons rfl (.cons rfl (.nil))))) ?_
 obtain⟨⟨⟨DG,G5⟩,⟨DH,Fv⟩⟩,h5,h⟩:=bS h
 refine cl (fm h5) ⟨rfl,trivial⟩<|al (cs:=[.v (.bool false),slc 1 (List.map ah []),.v (.bool false),slc 1 (List.map ah [])]) (by exact⟨SV.aa _,imp_nil,SV.aa _,imp_nil,trivial⟩) rfl<|so rfl rfl rfl<|dn<|qq<|ai mixed<|fa rfl rfl<|ld rfl rfl (.cons rfl (.cons rfl (.nil))) ?_
 obtain⟨⟨vN,vO⟩,h8,h⟩:=bS h
 refine cl (lO h8) ⟨rfl,trivial⟩<|fa rfl rfl<|ld rfl rfl (.cons rfl (.cons rfl (.nil)))<|bI (cs:=[_,_,_,_]) (cs':=[.v (.bool vN),slc 1 (List.map ah vO),.v (.bool DH),slc 1 (List.map ah Fv)]) (.agg rfl (.agg rfl (.nil))) ⟨SV.aa _,SV.aa _,SV.aa _,SV.aa _,trivial⟩<|so rfl rfl rfl ?_
 refine RT.done ⟨by kernel_rfl,?_⟩
 refine ae.n<|aj ?_
 obtain rfl:=O h
 exact RZ (.agg rfl rfl (.cons rfl (.cons rfl (.cons rfl (.cons rfl (.nil))))) rfl (.nil))
theorem He{x0:Qr}{x1:Qr}{r:Int}(h:oQ x0 x1=some r):Pure Tryz.prog 86 [.agg (eQ x0),.agg (eQ x1)] (.v (.int .i64 r)):=by
 obtain⟨⟨aB,aC⟩,⟨aJ,aL⟩⟩:=x0
 obtain⟨⟨bF,bC⟩,⟨eX,eY⟩⟩:=x1
 refine ay Tryz.func86 rfl (Nat.le_of_ble_eq_true rfl) (fun cG M vs hvs=>?_)
 unfold oQ at h
 refine sr<|bx rfl<|bx rfl<|ag rfl<|dn<|sr<|ld rfl rfl (.cons rfl (.cons rfl (.cons rfl (.cons rfl (.nil))))) ?_
 obtain⟨⟨⟨iF,iG⟩,⟨ji,jk⟩⟩,fT,h⟩:=bS h
 refine cl (bM fT) ⟨rfl,trivial⟩<|mv rfl<|ex rfl rfl<|ex rfl rfl<|al (cs:=[.v (.bool false),slc 1 (List.map ah [])]) (by exact⟨SV.aa _,imp_nil,trivial⟩) rfl<|al (cs:=[.v (.bool false),slc 1 (List.map ah [])]) (by exact⟨SV.aa _,imp_nil,trivial⟩) rfl<|so rfl rfl rfl<|so rfl rfl rfl<|dn<|sr<|ld rfl rfl (.cons rfl (.cons rfl (.cons rfl (.cons rfl (.nil))))) ?_
 obtain⟨⟨⟨iH,iI⟩,⟨jl,jm⟩⟩,gV,h⟩:=bS h
 refine cl (bM gV) ⟨rfl,trivial⟩<|mv rfl<|ex rfl rfl<|ex rfl rfl<|al (cs:=[.v (.bool false),slc 1 (List.map ah [])]) (by exact⟨SV.aa _,imp_nil,trivial⟩) rfl<|al (cs:=[.v (.bool false),slc 1 (List.map ah [])]) (by exact⟨SV.aa _,imp_nil,trivial⟩) rfl<|so rfl rfl rfl<|so rfl rfl rfl<|dn<|qq<|qq<|ai mixed<|ld rfl rfl (.cons rfl (.cons rfl (.nil)))<|bE h fun iP mD h=>?_
 refine cl (dV mD) ⟨rfl,trivial⟩<|ld rfl rfl (.cons rfl (.cons rfl (.nil)))<|bE h fun fR kD h=>cl (dV kD) ⟨rfl,trivial⟩<|ag rfl<|ag rfl ?_
 refine RT.done ⟨by kernel_rfl,?_⟩
 refine ae.n<|qq ?_
 refine aF h (fun j3=>AS.bG 43 [(5,.ptr 5 0),(6,.ptr 6 0),(7,.ptr 7 0),(8,.ptr 8 0),(9,.sv (.v (.int .i64 iP))),(10,.sv (.v (.int .i64 fR))),(31,.sv (.v (.bool j3)))] [(8,⟨41,[.sv (.v (.bool jl)),.sv (slc 1 (List.map ah jm))]⟩),(7,⟨41,[.sv (.v (.bool iH)),.sv (slc 1 (List.map ah iI))]⟩),(6,⟨41,[.sv (.v (.bool ji)),.sv (slc 1 (List.map ah jk))]⟩),(5,⟨41,[.sv (.v (.bool iF)),.sv (slc 1 (List.map ah iG))]⟩)] []) (fun h=>?_) (fun B8 h=>?_)
 refine af<|mv rfl<|mv rfl<|lE h fun kq m7 h=>ne _ rfl rfl (Gk (p:=iP) (q:=fR) m7)<|mv rfl<|bE h fun SU m8 h=>?_
 cases kq
 refine gm rfl<|lE (F m8) fun yW wV m8=>YW _ rfl rfl (vh (p:=iP) (q:=0) wV) ?_
 obtain rfl:=O m8
 exact pF rfl<|dn<|⟨yW,h,wR []⟩
 obtain rfl:=O (V m8)
 exact ww<|ww<|pT rfl<|dn<|⟨true,h,wR []⟩
 try dsimp only
 refine ae.n ?_
 cases B8
 refine fs<|qq<|ai mixed<|ld rfl rfl (.cons rfl (.cons rfl (.nil)))<|ld rfl rfl (.cons rfl (.cons rfl (.nil))) ?_
 obtain⟨⟨SP,SQ⟩,GS,h⟩:=bS (F h)
 refine cl (dD GS) ⟨rfl,rfl,trivial⟩<|ld rfl rfl (.cons rfl (.cons rfl (.nil)))<|ld rfl rfl (.cons rfl (.cons rfl (.nil))) ?_
 obtain⟨⟨SR,SS⟩,zb,h⟩:=bS h
 refine cl (dD zb) ⟨rfl,rfl,trivial⟩<|bE h fun rB ze h=>cl (Fl ze) ⟨rfl,rfl,trivial⟩<|ag rfl ?_
 refine RT.done ⟨by kernel_rfl,?_⟩
 refine ae.n<|aj ?_
 obtain rfl:=O h
 exact R1 rfl
 refine cT<|sr<|mv rfl<|mv rfl<|lE (V h) fun pH ql h=>sb _ rfl rfl ql<|bE h fun rO za h=>cl (Fx za) ⟨rfl,trivial⟩<|ag rfl<|dn<|aj<|ae.r ?_
 obtain rfl:=O h
 exact R1 rfl
end Go.Proofs.YtningmnklfpfjaaGreat
namespace Go.Proofs.YtningmnklfpfjaaGreat
open Go.Fw
noncomputable def iX(x0:List Qr)(x1:List Qr):Option (List Qr):=(some (x0.length:Int)).bind fun gU=>(some (x1.length:Int)).bind fun fB=>(some (max (gU:Int) fB)).bind fun eU=>(ME (α:=Qr) 64 eU).bind fun dA=>(lH (fun(k:Nat) (iK:(List Qr))=>(show Option ((List Qr))from(some (x0.getD k (⟨⟨false,[]⟩,⟨false,[]⟩⟩:Qr))).bind fun⟨⟨Ca,Cb⟩,⟨Cc,Cd⟩⟩=>(some (x1.getD k (⟨⟨false,[]⟩,⟨false,[]⟩⟩:Qr))).bind fun⟨⟨Ce,Cf⟩,⟨Cg,Ch⟩⟩=>(jO ⟨⟨Ca,Cb⟩,⟨Cc,Cd⟩⟩ ⟨⟨Ce,Cf⟩,⟨Cg,Ch⟩⟩).bind fun⟨⟨ik,hG⟩,⟨ny,nA⟩⟩=>(xy 64 iK [⟨⟨ik,hG⟩,⟨ny,nA⟩⟩]).bind fun kq=>some kq)) (max x0.length x1.length) dA).bind fun iK=>some iK
noncomputable def gK(x0:Qr)(x1:Qr)(DI:Qr):Option (Qr):=match x0 with|⟨⟨aB,aC⟩,⟨aJ,aL⟩⟩=>match x1 with|⟨⟨bF,bC⟩,⟨eX,eY⟩⟩=>match DI with|⟨⟨Em,Eo⟩,⟨Ep,Er⟩⟩=>(iJ ⟨⟨Em,Eo⟩,⟨Ep,Er⟩⟩ ⟨⟨aB,aC⟩,⟨aJ,aL⟩⟩).bind fun⟨⟨vN,vO⟩,⟨Au,Av⟩⟩=>(jN ⟨⟨vN,vO⟩,⟨Au,Av⟩⟩ ⟨⟨bF,bC⟩,⟨eX,eY⟩⟩).bind fun⟨⟨BN,BO⟩,⟨N5,N6⟩⟩=>some ⟨⟨BN,BO⟩,⟨N5,N6⟩⟩
noncomputable def fU(x0:List Qr)(x1:List Qr)(Fy:Qr):Option (List Qr):=match Fy with|⟨⟨Ci,Cj⟩,⟨Ck,Cm⟩⟩=>(some (x0.length:Int)).bind fun gU=>(some (x1.length:Int)).bind fun fB=>(some (max (gU:Int) fB)).bind fun eU=>(ME (α:=Qr) 64 eU).bind fun dA=>(lH (fun(k:Nat) (iK:(List Qr))=>(show Option ((List Qr))from(some (x0.getD k (⟨⟨false,[]⟩,⟨false,[]⟩⟩:Qr))).bind fun⟨⟨Ca,Cb⟩,⟨Cc,Cd⟩⟩=>(some (x1.getD k (⟨⟨false,[]⟩,⟨false,[]⟩⟩:Qr))).bind fun⟨⟨Ce,Cf⟩,⟨Cg,Ch⟩⟩=>(gK ⟨⟨Ca,Cb⟩,⟨Cc,Cd⟩⟩ ⟨⟨Ce,Cf⟩,⟨Cg,Ch⟩⟩ ⟨⟨Ci,Cj⟩,⟨Ck,Cm⟩⟩).bind fun⟨⟨ik,hG⟩,⟨ny,nA⟩⟩=>(xy 64 iK [⟨⟨ik,hG⟩,⟨ny,nA⟩⟩]).bind fun kq=>some kq)) (max x0.length x1.length) dA).bind fun iK=>some iK
noncomputable def nB(x0:Qr)(x1:Qr)(c0:Qr):Option (Qr):=match x0 with|⟨⟨aB,aC⟩,⟨aJ,aL⟩⟩=>match x1 with|⟨⟨bF,bC⟩,⟨eX,eY⟩⟩=>match c0 with|⟨⟨N7,N8⟩,⟨N9,Oa⟩⟩=>cm (fun(Co:Bool)=>cm (fun(j5:Bool×(List Nat)×Bool×(List Nat))=>match j5 with|⟨Es,Et,Eu,Ev⟩=>some ⟨⟨Es,Et⟩,⟨Eu,Ev⟩⟩) fun K5=>(bif Co then(iJ ⟨⟨aB,aC⟩,⟨aJ,aL⟩⟩ ⟨⟨bF,bC⟩,⟨eX,eY⟩⟩).bind fun⟨⟨jz,jA⟩,⟨z6,z7⟩⟩=>(jN ⟨⟨N7,N8⟩,⟨N9,Oa⟩⟩ ⟨⟨jz,jA⟩,⟨z6,z7⟩⟩).bind fun⟨⟨kY,kZ⟩,⟨oR,oS⟩⟩=>K5 (kY,kZ,oR,oS)else K5 (N7,N8,N9,Oa))) fun K3=>(eu ⟨⟨aB,aC⟩,⟨aJ,aL⟩⟩).bind fun x6=>(some (decide ((x6:Int)≠0))).bind fun x7=>(bif x7 then(eu ⟨⟨bF,bC⟩,⟨eX,eY⟩⟩).bind fun dm=>(some (decide ((dm:Int)≠0))).bind fun gU=>some gU else some false).bind fun SW=>K3 SW
noncomputable def k7(x0:List Qr)(x1:List Qr):Option (List Qr):=(iX x0 x1).bind fun x7=>some x7
noncomputable def k8(x0:Qr)(x1:List Qr):Option (List Qr):=match x0 with|⟨⟨aB,aC⟩,⟨aJ,aL⟩⟩=>(some (x1.length:Int)).bind fun x9=>(AT 64 x9 (⟨⟨false,[]⟩,⟨false,[]⟩⟩:Qr)).bind fun dm=>(some (x1.length:Int)).bind fun dB=>(bU (fun(s8:Int×(List Qr))=>match s8 with|⟨nC,nD⟩=>(show Option ((Int×(List Qr))⊕((List Qr)))from(some (decide ((nC:Int)<dB))).bind fun eU=>(bif eU then(cy x1 nC).bind fun⟨⟨jz,jA⟩,⟨z6,z7⟩⟩=>(iJ ⟨⟨aB,aC⟩,⟨aJ,aL⟩⟩ ⟨⟨jz,jA⟩,⟨z6,z7⟩⟩).bind fun⟨⟨nE,nF⟩,⟨nG,nH⟩⟩=>(pI nD nC).bind fun kA=>(stM nD kA ⟨⟨nE,nF⟩,⟨nG,nH⟩⟩).bind fun qH=>(some (IntKind.i64.wrap (nC+1))).bind fun fR=>some (.inl (fR,qH))else some (.inr nD)))) (0,dm)).bind fun kp=>some kp
noncomputable def dG(x0:Qr)(x1:List Qr)(x2:List Qr):Option (List Qr):=match x0 with|⟨⟨aB,aC⟩,⟨aJ,aL⟩⟩=>(fU x1 x2 ⟨⟨aB,aC⟩,⟨aJ,aL⟩⟩).bind fun dm=>some dm
noncomputable def jX(x0:List Qr)(x1:List Qr):Option (Qr):=(some (x0.length:Int)).bind fun dB=>(some (x1.length:Int)).bind fun eU=>(some (min (dB:Int) eU)).bind fun dA=>(xK x0 0 dA).bind fun ek=>(xK x1 0 dA).bind fun iv=>(lH (fun(k:Nat) (s7:Bool×(List Nat)×Bool×(List Nat))=>match s7 with|⟨Cp,Cq,Cr,Cs⟩=>(show Option (Bool×(List Nat)×Bool×(List Nat))from(some (ek.getD k (⟨⟨false,[]⟩,⟨false,[]⟩⟩:Qr))).bind fun⟨⟨SX,SY⟩,⟨SZ,S0⟩⟩=>(some (iv.getD k (⟨⟨false,[]⟩,⟨false,[]⟩⟩:Qr))).bind fun⟨⟨S3,S4⟩,⟨S5,S6⟩⟩=>(nB ⟨⟨SX,SY⟩,⟨SZ,S0⟩⟩ ⟨⟨S3,S4⟩,⟨S5,S6⟩⟩ ⟨⟨Cp,Cq⟩,⟨Cr,Cs⟩⟩).bind fun⟨⟨ZB,ZC⟩,⟨ZD,ZE⟩⟩=>some (ZB,ZC,ZD,ZE))) (max ek.length iv.length) (false,[],false,[])).bind fun e7=>match e7 with|⟨Cp,Cq,Cr,Cs⟩=>some ⟨⟨Cp,Cq⟩,⟨Cr,Cs⟩⟩
noncomputable def iY(x0:List Qr)(x1:List Qr):Option (Int):=(oJ (fun(k:Nat) (s3:Unit)=>(show Option ((Unit)⊕(Int))from(some (x0.getD k (⟨⟨false,[]⟩,⟨false,[]⟩⟩:Qr))).bind fun⟨⟨Hf,Hg⟩,⟨Hh,Hi⟩⟩=>(some (x1.getD k (⟨⟨false,[]⟩,⟨false,[]⟩⟩:Qr))).bind fun⟨⟨S7,S8⟩,⟨S9,Ta⟩⟩=>(oQ ⟨⟨Hf,Hg⟩,⟨Hh,Hi⟩⟩ ⟨⟨S7,S8⟩,⟨S9,Ta⟩⟩).bind fun dA=>(some (decide ((dA:Int)≠0))).bind fun eT=>(bif eT then some (.inr dA)else some (.inl ())))) (max x0.length x1.length) ()).bind fun e3=>match e3 with|.inr v3=>some v3|.inl _=>some 0
noncomputable def oT(x0:List Qr):Option (Int):=(iY x0 []).bind fun x4=>some x4
noncomputable def cU(x0:List Qr)(x1:List Qr):Option (Bool):=(iY x0 x1).bind fun x7=>(some (decide ((x7:Int)=0))).bind fun x8=>some x8
noncomputable def fJ(x0:List Qr)(x1:Int):Option (List Qr):=(some (decide ((x1:Int)<1))).bind fun x8=>(bif x8 then some []else(some (min (x1:Int) 65536)).bind fun dm=>(AT 64 dm (⟨⟨false,[]⟩,⟨false,[]⟩⟩:Qr)).bind fun gU=>(some (x0.length:Int)).bind fun fB=>(some (gU.length:Int)).bind fun dA=>(some (min (fB:Int) dA)).bind fun gu=>(bU (fun(s8:Int×(List Qr))=>match s8 with|⟨sS,qO⟩=>(show Option ((Int×(List Qr))⊕((List Qr)))from(some (decide ((sS:Int)<gu))).bind fun ek=>(bif ek then(cy x0 sS).bind fun⟨⟨oc,oe⟩,⟨og,oh⟩⟩=>(bW ⟨⟨oc,oe⟩,⟨og,oh⟩⟩).bind fun⟨⟨sV,sW⟩,⟨sX,sY⟩⟩=>(pI qO sS).bind fun kq=>(stM qO kq ⟨⟨sV,sW⟩,⟨sX,sY⟩⟩).bind fun qH=>(some (IntKind.i64.wrap (sS+1))).bind fun mN=>some (.inl (mN,qH))else some (.inr qO)))) (0,gU)).bind fun lf=>some lf)
noncomputable def m9(x0:List Qr)(x1:Int):Option (List Qr):=(some (decide ((x1:Int)<1))).bind fun x8=>(bif x8 then some []else(some (min (x1:Int) 65536)).bind fun dm=>(AT 64 dm (⟨⟨false,[]⟩,⟨false,[]⟩⟩:Qr)).bind fun gU=>(some (x0.length:Int)).bind fun fB=>(some (gU.length:Int)).bind fun dA=>(some (min (fB:Int) dA)).bind fun gu=>(bU (fun(s8:Int×(List Qr))=>match s8 with|⟨sS,qO⟩=>(show Option ((Int×(List Qr))⊕((List Qr)))from(some (decide ((sS:Int)<gu))).bind fun ek=>(bif ek then(cy x0 sS).bind fun⟨⟨oc,oe⟩,⟨og,oh⟩⟩=>(bW ⟨⟨oc,oe⟩,⟨og,oh⟩⟩).bind fun⟨⟨sV,sW⟩,⟨sX,sY⟩⟩=>(pI qO sS).bind fun kq=>(stM qO kq ⟨⟨sV,sW⟩,⟨sX,sY⟩⟩).bind fun qH=>(some (IntKind.i64.wrap (sS+1))).bind fun mN=>some (.inl (mN,qH))else some (.inr qO)))) (0,gU)).bind fun lf=>some lf)
noncomputable def cC(x0:List Int):Option (List Qr):=(some (x0.length:Int)).bind fun x7=>(AT 64 x7 (⟨⟨false,[]⟩,⟨false,[]⟩⟩:Qr)).bind fun x8=>(some (x0.length:Int)).bind fun dm=>(bU (fun(s8:Int×(List Qr))=>match s8 with|⟨ux,Ct⟩=>(show Option ((Int×(List Qr))⊕((List Qr)))from(some (decide ((ux:Int)<dm))).bind fun dB=>(bif dB then(cy x0 ux).bind fun eU=>(cA eU).bind fun⟨⟨mE,mF⟩,⟨Cu,Cv⟩⟩=>(pI Ct ux).bind fun gB=>(stM Ct gB ⟨⟨mE,mF⟩,⟨Cu,Cv⟩⟩).bind fun qH=>(some (IntKind.i64.wrap (ux+1))).bind fun iv=>some (.inl (iv,qH))else some (.inr Ct)))) (0,x8)).bind fun w5=>some w5
end Go.Proofs.YtningmnklfpfjaaGreat
namespace Go.Proofs.YtningmnklfpfjaaGreat
open Go.Fw Go.Fw.Z Go.RowKit
theorem jY(a b:List Qr):Pure Tryz.prog 133 [(slc 4 (List.map eQ a)),(slc 4 (List.map eQ b))] (gS 165 [ref [(slc 4 (List.map eQ a))],ref [(slc 4 (List.map eQ b))]]):=by
 refine ay Tryz.func133 rfl (Nat.le_of_ble_eq_true rfl) (fun cG M vs hvs=>?_)
 refine sr<|RT.vG .none (s:=.sv _) rfl T rfl rfl<|RT.vG .none (s:=.sv _) rfl T rfl rfl<|ag rfl<|dn<|sr<|RT.makeFunc .none (.box rfl (.box rfl (.nil))) T<|an (s:=.ey _ _) rfl<|dn<|bh (gz (i:=2) rfl [(slc 4 (List.map eQ a))] (.cons rfl .nil) .any 0 [(4,.ey 165 [.val (ref [(slc 4 (List.map eQ a))]),.box 3])] (fun _ _ _=>trivial) (qy.h (l:=[(slc 4 (List.map eQ a))])) ⟨@FT.ey _ _ _ _ _ 4 165 [.box 2,.box 3] rfl,trivial⟩) ?_
 exact bh (gz (i:=3) rfl [(slc 4 (List.map eQ b))] (.cons rfl .nil) .any 0 [(4,.ey 165 [.val (ref [(slc 4 (List.map eQ a))]),.val (ref [(slc 4 (List.map eQ b))])])] (fun _ _ _=>trivial) (qy.h (l:=[(slc 4 (List.map eQ b))])) ⟨@FT.ey _ _ _ _ _ 4 165 [.val (ref [(slc 4 (List.map eQ a))]),.box 3] rfl,trivial⟩)<|bh (E4 4 (gS 165 [ref [(slc 4 (List.map eQ a))],ref [(slc 4 (List.map eQ b))]]) (fun _ _ h=>E5 h))<|aj<|⟨.inr rfl,EZ (.tmp rfl (.nil)) rfl⟩
theorem jZ(a b:List Qr):Iter Tryz.prog 165 [ref [(slc 4 (List.map eQ a))],ref [(slc 4 (List.map eQ b))]] (max a.length b.length) (fun k=>[.agg (eQ (a.getD k (⟨⟨false,[]⟩,⟨false,[]⟩⟩:Qr))),.agg (eQ (b.getD k (⟨⟨false,[]⟩,⟨false,[]⟩⟩:Qr)))]):=by
 refine rI Tryz.func165 rfl rfl (Nat.le_of_ble_eq_true rfl) (fun cG M O l J hJ yT hr=>?_)
 obtain⟨oI,yT⟩:=yT
 have hla:a.length≤9223372036854775807:=by cases oI with|nil=>exact yT.elim|cons _ oI=>exact AU yT.1
 have hlb:b.length≤9223372036854775807:=by cases oI with|nil=>exact yT.elim|cons _ oI=>cases oI with|nil=>exact yT.2.elim|cons _ _=>exact AU yT.2.1
 refine aO ?_
 refine af ?_
 refine RT.cV .none rfl rfl (tl rfl) ?_
 refine RT.len .none rfl (tl rfl) ?_
 refine RT.cV .none rfl rfl (tl rfl) ?_
 refine RT.len .none rfl (tl rfl) ?_
 refine RT.max .none (((max a.length b.length:Nat):Int)) rfl rfl (tl rfl) (by simp only[List.length_map];split<;>omega) ?_
 refine RT.mv .none rfl (tl rfl) ?_
 refine RT.done ?_
 refine ae.n ?_
 refine ak ?_
 refine xE (I:=fun x:{i:Nat//i≤max a.length b.length}=>AS.bG 37 [(0,.sv (.v (.func (.yield l) #[] #[]))),(1,.sv (ref [(slc 4 (List.map eQ a))])),(2,.sv (ref [(slc 4 (List.map eQ b))])),(11,.sv (.v (.int .i64 ((max a.length b.length:Nat):Int)))),(12,.sv (.v (.int .i64 ((x.1:Nat):Int))))] [] [] (x.1)) (μ:=fun x=>max a.length b.length-x.1) ⟨0,by omega⟩ (by(try dsimp only);exact cH id rfl rfl rfl rfl rfl ⟨.sv (by first|exact SV.aa _|exact SV.aq (by omega)|exact SV.aq (by push_cast;omega)|exact SV.aq (by dsimp only;omega)|exact SV.imp_eq (by simp)),.sv (by first|exact SV.aa _|exact SV.aq (by omega)|exact SV.aq (by push_cast;omega)|exact SV.aq (by dsimp only;omega)|exact SV.imp_eq (by simp)),.sv (by first|exact SV.aa _|exact SV.aq (by omega)|exact SV.aq (by push_cast;omega)|exact SV.aq (by dsimp only;omega)|exact SV.imp_eq (by simp)),.sv (by first|exact SV.aa _|exact SV.aq (by omega)|exact SV.aq (by push_cast;omega)|exact SV.aq (by dsimp only;omega)|exact SV.imp_eq (by simp)),.sv (by first|exact SV.aa _|exact SV.aq (by omega)|exact SV.aq (by push_cast;omega)|exact SV.aq (by dsimp only;omega)|exact SV.imp_eq (by simp)),trivial⟩ trivial trivial (fun _ _=>rfl)) ?_
 rintro⟨i,U0⟩
 try dsimp only
 rcases BB a b i U0 with⟨hi,yM,Dg⟩|⟨hi,yM,Dg⟩|⟨hi,yM,Dg⟩|hi
 ·
  refine aO ?_
  refine af ?_
  refine RT.lss .none (true) rfl rfl (tl rfl) (by simp;omega) ?_
  refine RT.done ?_
  refine ae.n ?_
  refine aO ?_
  refine cj rfl ?_
  refine aE ?_
  refine ae.n ?_
  refine aO ?_
  refine ak ?_
  refine aO ?_
  refine af ?_
  refine RT.mv .none rfl (tl rfl) ?_
  refine RT.Br .none rfl (tl rfl) ?_
  refine RT.done ?_
  refine ae.n ?_
  refine aO ?_
  refine af ?_
  refine RT.rK .none (cs:=eQ ⟨⟨false,[]⟩,⟨false,[]⟩⟩) (by exact⟨SV.aa _,imp_nil,SV.aa _,imp_nil,trivial⟩) rfl (tl rfl) rfl rfl ?_
  refine RT.rK .none (cs:=eQ ⟨⟨false,[]⟩,⟨false,[]⟩⟩) (by exact⟨SV.aa _,imp_nil,SV.aa _,imp_nil,trivial⟩) rfl (tl rfl) rfl rfl ?_
  refine RT.done ?_
  refine ae.n ?_
  refine aO ?_
  refine aO ?_
  refine af ?_
  refine RT.mv .none rfl (tl rfl) ?_
  refine RT.cV .none rfl rfl (tl rfl) ?_
  refine RT.len .none rfl (tl rfl) ?_
  refine RT.lss .none (true) rfl rfl (tl rfl) (by simp only[List.length_map];simp;omega) ?_
  refine RT.done ?_
  refine ae.n ?_
  refine cj rfl ?_
  refine af ?_
  refine RT.cV .none rfl rfl (tl rfl) ?_
  refine RT.mv .none rfl (tl rfl) ?_
  refine RT.Ms .none [.v (.bool (a.getD i (⟨⟨false,[]⟩,⟨false,[]⟩⟩:Qr)).num.neg),slc 1 ((a.getD i (⟨⟨false,[]⟩,⟨false,[]⟩⟩:Qr)).num.w.map ah),.v (.bool (a.getD i (⟨⟨false,[]⟩,⟨false,[]⟩⟩:Qr)).den.neg),slc 1 ((a.getD i (⟨⟨false,[]⟩,⟨false,[]⟩⟩:Qr)).den.w.map ah)] (Int.natCast_nonneg i) (by rw[Int.toNat_natCast,List.getElem?_map,dZ yM];rfl) rfl rfl (tl rfl) ?_
  refine RT.gD .none rfl (tl rfl) (cs:=[.v (.bool (a.getD i (⟨⟨false,[]⟩,⟨false,[]⟩⟩:Qr)).num.neg),slc 1 ((a.getD i (⟨⟨false,[]⟩,⟨false,[]⟩⟩:Qr)).num.w.map ah),.v (.bool (a.getD i (⟨⟨false,[]⟩,⟨false,[]⟩⟩:Qr)).den.neg),slc 1 ((a.getD i (⟨⟨false,[]⟩,⟨false,[]⟩⟩:Qr)).den.w.map ah)]) rfl rfl ?_
  refine RT.store .none rfl rfl rfl rfl rfl ?_
  refine RT.done ?_
  refine ae.n ?_
  refine aO ?_
  refine aO ?_
  refine af ?_
  refine RT.mv .none rfl (tl rfl) ?_
  refine RT.cV .none rfl rfl (tl rfl) ?_
  refine RT.len .none rfl (tl rfl) ?_
  refine RT.lss .none (true) rfl rfl (tl rfl) (by simp only[List.length_map];simp;omega) ?_
  refine RT.done ?_
  refine ae.n ?_
  refine cj rfl ?_
  refine af ?_
  refine RT.cV .none rfl rfl (tl rfl) ?_
  refine RT.mv .none rfl (tl rfl) ?_
  refine RT.Ms .none [.v (.bool (b.getD i (⟨⟨false,[]⟩,⟨false,[]⟩⟩:Qr)).num.neg),slc 1 ((b.getD i (⟨⟨false,[]⟩,⟨false,[]⟩⟩:Qr)).num.w.map ah),.v (.bool (b.getD i (⟨⟨false,[]⟩,⟨false,[]⟩⟩:Qr)).den.neg),slc 1 ((b.getD i (⟨⟨false,[]⟩,⟨false,[]⟩⟩:Qr)).den.w.map ah)] (Int.natCast_nonneg i) (by rw[Int.toNat_natCast,List.getElem?_map,dZ Dg];rfl) rfl rfl (tl rfl) ?_
  refine RT.gD .none rfl (tl rfl) (cs:=[.v (.bool (b.getD i (⟨⟨false,[]⟩,⟨false,[]⟩⟩:Qr)).num.neg),slc 1 ((b.getD i (⟨⟨false,[]⟩,⟨false,[]⟩⟩:Qr)).num.w.map ah),.v (.bool (b.getD i (⟨⟨false,[]⟩,⟨false,[]⟩⟩:Qr)).den.neg),slc 1 ((b.getD i (⟨⟨false,[]⟩,⟨false,[]⟩⟩:Qr)).den.w.map ah)]) rfl rfl ?_
  refine RT.store .none rfl rfl rfl rfl rfl ?_
  refine RT.done ?_
  refine ae.n ?_
  refine aO ?_
  refine af ?_
  refine RT.mv .none rfl (tl rfl) ?_
  refine RT.load .none rfl rfl (.cons rfl (.cons rfl (.cons rfl (.cons rfl (.nil))))) rfl (tl rfl) ?_
  refine RT.load .none rfl rfl (.cons rfl (.cons rfl (.cons rfl (.cons rfl (.nil))))) rfl (tl rfl) ?_
  refine RT.yield .none hr rfl (fun _ h=>h) rfl (i) rfl rfl hi (by exact⟨rfl,rfl,trivial⟩) (tl rfl) (fun yb=>?_)
  cases yb
  ·
   refine RT.not .none rfl (tl rfl) true rfl ?_
   refine RT.done ?_
   refine ae.n ?_
   refine cj rfl ?_
   refine aj ?_
   refine aG.r ?_
   refine ae.r ?_
   refine ae.r ?_
   refine aG.r ?_
   exact⟨.inr rfl,(fun h=>by cases h)⟩
  ·
   refine RT.not .none rfl (tl rfl) false rfl ?_
   refine RT.done ?_
   refine ae.n ?_
   refine dM rfl ?_
   refine aE ?_
   refine aG.n ?_
   refine ae.n ?_
   refine af ?_
   refine RT.add .none (((i:Nat):Int)+1) rfl rfl (tl rfl) (lG (by omega)) ?_
   refine RT.mv .none rfl (tl rfl) ?_
   refine RT.done ?_
   refine ae.n ?_
   refine⟨⟨i+1,by omega⟩,(by dsimp only;omega),?_⟩
   try dsimp only
   exact cH id rfl rfl rfl rfl rfl ⟨.sv (by first|exact SV.aa _|exact SV.aq (by omega)|exact SV.aq (by push_cast;omega)|exact SV.aq (by dsimp only;omega)|exact SV.imp_eq (by simp)),.sv (by first|exact SV.aa _|exact SV.aq (by omega)|exact SV.aq (by push_cast;omega)|exact SV.aq (by dsimp only;omega)|exact SV.imp_eq (by simp)),.sv (by first|exact SV.aa _|exact SV.aq (by omega)|exact SV.aq (by push_cast;omega)|exact SV.aq (by dsimp only;omega)|exact SV.imp_eq (by simp)),.sv (by first|exact SV.aa _|exact SV.aq (by omega)|exact SV.aq (by push_cast;omega)|exact SV.aq (by dsimp only;omega)|exact SV.imp_eq (by simp)),.sv (by first|exact SV.aa _|exact SV.aq (by omega)|exact SV.aq (by push_cast;omega)|exact SV.aq (by dsimp only;omega)|exact SV.imp_eq (by simp)),trivial⟩ trivial trivial (fun _ _=>rfl)
 ·
  refine aO ?_
  refine af ?_
  refine RT.lss .none (true) rfl rfl (tl rfl) (by simp;omega) ?_
  refine RT.done ?_
  refine ae.n ?_
  refine aO ?_
  refine cj rfl ?_
  refine aE ?_
  refine ae.n ?_
  refine aO ?_
  refine ak ?_
  refine aO ?_
  refine af ?_
  refine RT.mv .none rfl (tl rfl) ?_
  refine RT.Br .none rfl (tl rfl) ?_
  refine RT.done ?_
  refine ae.n ?_
  refine aO ?_
  refine af ?_
  refine RT.rK .none (cs:=eQ ⟨⟨false,[]⟩,⟨false,[]⟩⟩) (by exact⟨SV.aa _,imp_nil,SV.aa _,imp_nil,trivial⟩) rfl (tl rfl) rfl rfl ?_
  refine RT.rK .none (cs:=eQ ⟨⟨false,[]⟩,⟨false,[]⟩⟩) (by exact⟨SV.aa _,imp_nil,SV.aa _,imp_nil,trivial⟩) rfl (tl rfl) rfl rfl ?_
  refine RT.done ?_
  refine ae.n ?_
  refine aO ?_
  refine aO ?_
  refine af ?_
  refine RT.mv .none rfl (tl rfl) ?_
  refine RT.cV .none rfl rfl (tl rfl) ?_
  refine RT.len .none rfl (tl rfl) ?_
  refine RT.lss .none (true) rfl rfl (tl rfl) (by simp only[List.length_map];simp;omega) ?_
  refine RT.done ?_
  refine ae.n ?_
  refine cj rfl ?_
  refine af ?_
  refine RT.cV .none rfl rfl (tl rfl) ?_
  refine RT.mv .none rfl (tl rfl) ?_
  refine RT.Ms .none [.v (.bool (a.getD i (⟨⟨false,[]⟩,⟨false,[]⟩⟩:Qr)).num.neg),slc 1 ((a.getD i (⟨⟨false,[]⟩,⟨false,[]⟩⟩:Qr)).num.w.map ah),.v (.bool (a.getD i (⟨⟨false,[]⟩,⟨false,[]⟩⟩:Qr)).den.neg),slc 1 ((a.getD i (⟨⟨false,[]⟩,⟨false,[]⟩⟩:Qr)).den.w.map ah)] (Int.natCast_nonneg i) (by rw[Int.toNat_natCast,List.getElem?_map,dZ yM];rfl) rfl rfl (tl rfl) ?_
  refine RT.gD .none rfl (tl rfl) (cs:=[.v (.bool (a.getD i (⟨⟨false,[]⟩,⟨false,[]⟩⟩:Qr)).num.neg),slc 1 ((a.getD i (⟨⟨false,[]⟩,⟨false,[]⟩⟩:Qr)).num.w.map ah),.v (.bool (a.getD i (⟨⟨false,[]⟩,⟨false,[]⟩⟩:Qr)).den.neg),slc 1 ((a.getD i (⟨⟨false,[]⟩,⟨false,[]⟩⟩:Qr)).den.w.map ah)]) rfl rfl ?_
  refine RT.store .none rfl rfl rfl rfl rfl ?_
  refine RT.done ?_
  refine ae.n ?_
  refine aO ?_
  refine aO ?_
  refine af ?_
  refine RT.mv .none rfl (tl rfl) ?_
  refine RT.cV .none rfl rfl (tl rfl) ?_
  refine RT.len .none rfl (tl rfl) ?_
  refine RT.lss .none (false) rfl rfl (tl rfl) (by simp only[List.length_map];simp;omega) ?_
  refine RT.done ?_
  refine ae.n ?_
  refine dM rfl ?_
  refine aE ?_
  refine ae.n ?_
  refine aO ?_
  refine af ?_
  refine RT.mv .none rfl (tl rfl) ?_
  refine RT.load .none rfl rfl (.cons rfl (.cons rfl (.cons rfl (.cons rfl (.nil))))) rfl (tl rfl) ?_
  refine RT.load .none rfl rfl (.cons rfl (.cons rfl (.cons rfl (.cons rfl (.nil))))) rfl (tl rfl) ?_
  refine RT.yield .none hr rfl (fun _ h=>h) rfl (i) rfl rfl hi (by exact⟨rfl,(by show AV.sv _=AV.sv _;rw[iy Dg]),trivial⟩) (tl rfl) (fun yb=>?_)
  cases yb
  ·
   refine RT.not .none rfl (tl rfl) true rfl ?_
   refine RT.done ?_
   refine ae.n ?_
   refine cj rfl ?_
   refine aj ?_
   refine aG.r ?_
   refine ae.r ?_
   refine ae.r ?_
   refine aG.r ?_
   exact⟨.inr rfl,(fun h=>by cases h)⟩
  ·
   refine RT.not .none rfl (tl rfl) false rfl ?_
   refine RT.done ?_
   refine ae.n ?_
   refine dM rfl ?_
   refine aE ?_
   refine aG.n ?_
   refine ae.n ?_
   refine af ?_
   refine RT.add .none (((i:Nat):Int)+1) rfl rfl (tl rfl) (lG (by omega)) ?_
   refine RT.mv .none rfl (tl rfl) ?_
   refine RT.done ?_
   refine ae.n ?_
   refine⟨⟨i+1,by omega⟩,(by dsimp only;omega),?_⟩
   try dsimp only
   exact cH id rfl rfl rfl rfl rfl ⟨.sv (by first|exact SV.aa _|exact SV.aq (by omega)|exact SV.aq (by push_cast;omega)|exact SV.aq (by dsimp only;omega)|exact SV.imp_eq (by simp)),.sv (by first|exact SV.aa _|exact SV.aq (by omega)|exact SV.aq (by push_cast;omega)|exact SV.aq (by dsimp only;omega)|exact SV.imp_eq (by simp)),.sv (by first|exact SV.aa _|exact SV.aq (by omega)|exact SV.aq (by push_cast;omega)|exact SV.aq (by dsimp only;omega)|exact SV.imp_eq (by simp)),.sv (by first|exact SV.aa _|exact SV.aq (by omega)|exact SV.aq (by push_cast;omega)|exact SV.aq (by dsimp only;omega)|exact SV.imp_eq (by simp)),.sv (by first|exact SV.aa _|exact SV.aq (by omega)|exact SV.aq (by push_cast;omega)|exact SV.aq (by dsimp only;omega)|exact SV.imp_eq (by simp)),trivial⟩ trivial trivial (fun _ _=>rfl)
 ·
  refine aO ?_
  refine af ?_
  refine RT.lss .none (true) rfl rfl (tl rfl) (by simp;omega) ?_
  refine RT.done ?_
  refine ae.n ?_
  refine aO ?_
  refine cj rfl ?_
  refine aE ?_
  refine ae.n ?_
  refine aO ?_
  refine ak ?_
  refine aO ?_
  refine af ?_
  refine RT.mv .none rfl (tl rfl) ?_
  refine RT.Br .none rfl (tl rfl) ?_
  refine RT.done ?_
  refine ae.n ?_
  refine aO ?_
  refine af ?_
  refine RT.rK .none (cs:=eQ ⟨⟨false,[]⟩,⟨false,[]⟩⟩) (by exact⟨SV.aa _,imp_nil,SV.aa _,imp_nil,trivial⟩) rfl (tl rfl) rfl rfl ?_
  refine RT.rK .none (cs:=eQ ⟨⟨false,[]⟩,⟨false,[]⟩⟩) (by exact⟨SV.aa _,imp_nil,SV.aa _,imp_nil,trivial⟩) rfl (tl rfl) rfl rfl ?_
  refine RT.done ?_
  refine ae.n ?_
  refine aO ?_
  refine aO ?_
  refine af ?_
  refine RT.mv .none rfl (tl rfl) ?_
  refine RT.cV .none rfl rfl (tl rfl) ?_
  refine RT.len .none rfl (tl rfl) ?_
  refine RT.lss .none (false) rfl rfl (tl rfl) (by simp only[List.length_map];simp;omega) ?_
  refine RT.done ?_
  refine ae.n ?_
  refine dM rfl ?_
  refine aE ?_
  refine ae.n ?_
  refine aO ?_
  refine aO ?_
  refine af ?_
  refine RT.mv .none rfl (tl rfl) ?_
  refine RT.cV .none rfl rfl (tl rfl) ?_
  refine RT.len .none rfl (tl rfl) ?_
  refine RT.lss .none (true) rfl rfl (tl rfl) (by simp only[List.length_map];simp;omega) ?_
  refine RT.done ?_
  refine ae.n ?_
  refine cj rfl ?_
  refine af ?_
  refine RT.cV .none rfl rfl (tl rfl) ?_
  refine RT.mv .none rfl (tl rfl) ?_
  refine RT.Ms .none [.v (.bool (b.getD i (⟨⟨false,[]⟩,⟨false,[]⟩⟩:Qr)).num.neg),slc 1 ((b.getD i (⟨⟨false,[]⟩,⟨false,[]⟩⟩:Qr)).num.w.map ah),.v (.bool (b.getD i (⟨⟨false,[]⟩,⟨false,[]⟩⟩:Qr)).den.neg),slc 1 ((b.getD i (⟨⟨false,[]⟩,⟨false,[]⟩⟩:Qr)).den.w.map ah)] (Int.natCast_nonneg i) (by rw[Int.toNat_natCast,List.getElem?_map,dZ Dg];rfl) rfl rfl (tl rfl) ?_
  refine RT.gD .none rfl (tl rfl) (cs:=[.v (.bool (b.getD i (⟨⟨false,[]⟩,⟨false,[]⟩⟩:Qr)).num.neg),slc 1 ((b.getD i (⟨⟨false,[]⟩,⟨false,[]⟩⟩:Qr)).num.w.map ah),.v (.bool (b.getD i (⟨⟨false,[]⟩,⟨false,[]⟩⟩:Qr)).den.neg),slc 1 ((b.getD i (⟨⟨false,[]⟩,⟨false,[]⟩⟩:Qr)).den.w.map ah)]) rfl rfl ?_
  refine RT.store .none rfl rfl rfl rfl rfl ?_
  refine RT.done ?_
  refine ae.n ?_
  refine aO ?_
  refine af ?_
  refine RT.mv .none rfl (tl rfl) ?_
  refine RT.load .none rfl rfl (.cons rfl (.cons rfl (.cons rfl (.cons rfl (.nil))))) rfl (tl rfl) ?_
  refine RT.load .none rfl rfl (.cons rfl (.cons rfl (.cons rfl (.cons rfl (.nil))))) rfl (tl rfl) ?_
  refine RT.yield .none hr rfl (fun _ h=>h) rfl (i) rfl rfl hi (by exact⟨(by show AV.sv _=AV.sv _;rw[iy yM]),rfl,trivial⟩) (tl rfl) (fun yb=>?_)
  cases yb
  ·
   refine RT.not .none rfl (tl rfl) true rfl ?_
   refine RT.done ?_
   refine ae.n ?_
   refine cj rfl ?_
   refine aj ?_
   refine aG.r ?_
   refine ae.r ?_
   refine ae.r ?_
   refine aG.r ?_
   exact⟨.inr rfl,(fun h=>by cases h)⟩
  ·
   refine RT.not .none rfl (tl rfl) false rfl ?_
   refine RT.done ?_
   refine ae.n ?_
   refine dM rfl ?_
   refine aE ?_
   refine aG.n ?_
   refine ae.n ?_
   refine af ?_
   refine RT.add .none (((i:Nat):Int)+1) rfl rfl (tl rfl) (lG (by omega)) ?_
   refine RT.mv .none rfl (tl rfl) ?_
   refine RT.done ?_
   refine ae.n ?_
   refine⟨⟨i+1,by omega⟩,(by dsimp only;omega),?_⟩
   try dsimp only
   exact cH id rfl rfl rfl rfl rfl ⟨.sv (by first|exact SV.aa _|exact SV.aq (by omega)|exact SV.aq (by push_cast;omega)|exact SV.aq (by dsimp only;omega)|exact SV.imp_eq (by simp)),.sv (by first|exact SV.aa _|exact SV.aq (by omega)|exact SV.aq (by push_cast;omega)|exact SV.aq (by dsimp only;omega)|exact SV.imp_eq (by simp)),.sv (by first|exact SV.aa _|exact SV.aq (by omega)|exact SV.aq (by push_cast;omega)|exact SV.aq (by dsimp only;omega)|exact SV.imp_eq (by simp)),.sv (by first|exact SV.aa _|exact SV.aq (by omega)|exact SV.aq (by push_cast;omega)|exact SV.aq (by dsimp only;omega)|exact SV.imp_eq (by simp)),.sv (by first|exact SV.aa _|exact SV.aq (by omega)|exact SV.aq (by push_cast;omega)|exact SV.aq (by dsimp only;omega)|exact SV.imp_eq (by simp)),trivial⟩ trivial trivial (fun _ _=>rfl)
 ·
  subst hi
  refine aO ?_
  refine af ?_
  refine RT.lss .none (false) rfl rfl (tl rfl) (by simp) ?_
  refine RT.done ?_
  refine ae.n ?_
  refine aO ?_
  refine dM rfl ?_
  refine aZ ?_
  refine ae.x ?_
  refine ae.x ?_
  refine aG.x ?_
  exact⟨.inl rfl,(fun _=>rfl)⟩
end Go.Proofs.YtningmnklfpfjaaGreat
namespace Go.Proofs.YtningmnklfpfjaaGreat
open Go.Fw Go.Fw.Z Go.RowKit
theorem Cw{x0:List Qr}{x1:List Qr}{r:List Qr}(h:iX x0 x1=some r):Pure Tryz.prog 95 [slc 4 (List.map eQ x0),slc 4 (List.map eQ x1),.v (.func (.func 94) #[] #[])] (slc 4 (List.map eQ r)):=by
 refine ay Tryz.func95 rfl (Nat.le_of_ble_eq_true rfl) (fun cG M vs hvs=>?_)
 unfold iX at h
 refine sr<|RT.vG .none (s:=.sv _) rfl T rfl rfl<|aI rfl (imp_nil (n:=4) (e:=eQ))<|dn<|sr<|mv rfl<|lE h fun gU mB h=>ln rfl mB<|mv rfl<|lE h fun fB fT h=>ln rfl fT<|lE h fun eU jg h=>RT.max .none _ rfl rfl T (GH (p:=gU) (q:=fB) jg)<|bE h fun dA fE h=>RT.v9 (e:=eQ) .none rfl rfl T rfl T fE<|RT.alloc .none T rfl rfl<|RT.gR (cells:=[_]) .none rfl rfl rfl rfl T rfl<|dn<|qq<|sr<|mv rfl ?_
 refine mv rfl<|cl (jY x0 x1) ⟨rfl,rfl,trivial⟩<|dn<|ak<|bE h fun iK Ob Od=>?_
 obtain⟨Hj,Oe,Of,Og⟩:=gA Ob
 refine dX (jZ x0 x1) (fun _ _ _ _ _=>trivial) rfl (fun k=>AS.bG 29 [(5,.ptr 5 0),(7,.ptr 7 0),(18,.sv (gS 165 [ref [slc 4 (List.map eQ x0)],ref [slc 4 (List.map eQ x1)]]))] [(7,⟨23,[.row 302]⟩),(5,⟨106,[.sv (.v (.func (.func 94) #[] #[]))]⟩)] [(302,TR 43 4 eQ (Hj k))]) [7,5] rfl (fun _=>⟨rfl,rfl⟩) (mK rfl) (fun _=>rfl) (mL rfl) (by(try dsimp only);rw[Oe];(try dsimp only);exact cH (fun i=>bif Nat.beq i 302 then 15 else i) rfl rfl rfl rfl rfl ⟨.ptr,.ptr,.sv (SV.aa _),trivial⟩ ⟨⟨_,rfl,⟨.row rfl,trivial⟩⟩,⟨_,rfl,⟨.sv (SV.aa _),trivial⟩⟩,trivial⟩ ⟨⟨_,rfl,bQ.refl _⟩,trivial⟩ (fun i hi=>by rw[bH (show i≠302 by omega)];rfl)) (fun k hk D hD=>?_) ?_
 have h:=Of k hk
 obtain⟨iK,DC⟩:∃q,Hj k=q:=⟨_,rfl⟩
 rw[DC]at h⊢
 dsimp only[AS.IT,n8]
 try dsimp only at h
 obtain⟨⟨⟨Ca,Cb⟩,⟨Cc,Cd⟩⟩,Je,h⟩:=bS h
 rw[Option.some.inj Je]
 obtain⟨⟨⟨Ce,Cf⟩,⟨Cg,Ch⟩⟩,BW,h⟩:=bS h
 rw[Option.some.inj BW]
 refine sr<|al (cs:=[.v (.bool false),slc 1 (List.map ah []),.v (.bool false),slc 1 (List.map ah [])]) (by exact⟨SV.aa _,imp_nil,SV.aa _,imp_nil,trivial⟩) rfl<|so rfl rfl rfl<|dn<|af<|al (cs:=[.v (.bool false),slc 1 (List.map ah []),.v (.bool false),slc 1 (List.map ah [])]) (by exact⟨SV.aa _,imp_nil,SV.aa _,imp_nil,trivial⟩) rfl<|so rfl rfl rfl<|RT.done ?_
 refine ae.n ⟨rfl,?_⟩
 dsimp only[AS.wL]
 refine ak<|ai mixed<|RT.dN .none (s:=.row _) rfl rfl rfl T<|lV rfl rfl rfl<|ld rfl rfl (.cons rfl (.cons rfl (.cons rfl (.cons rfl (.nil)))))<|ld rfl rfl (.cons rfl (.cons rfl (.cons rfl (.cons rfl (.nil))))) ?_
 obtain⟨⟨⟨ik,hG⟩,⟨ny,nA⟩⟩,qM,h⟩:=bS h
 refine cl (z5 qM) ⟨rfl,rfl,trivial⟩<|bl (l:=[⟨⟨ik,hG⟩,⟨ny,nA⟩⟩]) (e:=eQ) (.agg rfl (.nil)) rfl rfl rfl rfl rfl rfl<|bE h fun kq m7 h=>aR (k:=[⟨⟨ik,hG⟩,⟨ny,nA⟩⟩]) (e:=eQ) rfl rfl rfl m7<|RT.gR (cells:=[_]) .none rfl rfl rfl rfl T rfl ?_
 refine RT.done ⟨by kernel_rfl,?_⟩
 refine aG.n ?_
 replace h:=Option.some.inj h
 refine⟨trivial,rfl,rfl,?_⟩
 try dsimp only
 rw[←h]
 try dsimp only
 exact cH (fun i=>bif Nat.beq i 302 then 27 else i) rfl rfl rfl rfl rfl ⟨.ptr,.ptr,.sv (SV.aa _),trivial⟩ ⟨⟨_,rfl,⟨.row rfl,trivial⟩⟩,⟨_,rfl,⟨.sv (SV.aa _),trivial⟩⟩,trivial⟩ ⟨⟨_,rfl,bQ.refl _⟩,trivial⟩ (fun i hi=>by rw[bH (show i≠302 by omega)];rfl)
 rw[Og]
 try dsimp only
 refine aG.n<|ae.n<|sr<|RT.dN .none (s:=.row _) rfl rfl rfl T<|an (s:=.row _) rfl<|dn<|bh (c8 (i:=302) (E1:=43) (n:=4) (e:=eQ) (l:=iK) rfl)<|aj ?_
 obtain rfl:=O Od
 exact R1 rfl
theorem w6{x0:Qr}{x1:Qr}{DI:Qr}{r:Qr}(h:gK x0 x1 DI=some r):Pure Tryz.prog 141 [.agg (eQ x0),.agg (eQ x1),ref (eQ DI)] (.agg (eQ r)):=by
 obtain⟨⟨aB,aC⟩,⟨aJ,aL⟩⟩:=x0
 obtain⟨⟨bF,bC⟩,⟨eX,eY⟩⟩:=x1
 obtain⟨⟨Em,Eo⟩,⟨Ep,Er⟩⟩:=DI
 refine ay Tryz.func141 rfl (Nat.le_of_ble_eq_true rfl) (fun cG M vs hvs=>?_)
 unfold gK at h
 refine sr<|bx rfl<|bx rfl<|al (cs:=[.v (.bool false),slc 1 (List.map ah []),.v (.bool false),slc 1 (List.map ah [])]) (by exact⟨SV.aa _,imp_nil,SV.aa _,imp_nil,trivial⟩) rfl<|dn<|qq<|ai mixed<|RT.gD (cs:=[_,_,_,_]) .none rfl T rfl rfl<|ld rfl rfl (.cons rfl (.cons rfl (.cons rfl (.cons rfl (.nil))))) ?_
 obtain⟨⟨⟨vN,vO⟩,⟨Au,Av⟩⟩,h8,h⟩:=bS h
 refine cl (uw h8) ⟨rfl,rfl,trivial⟩<|ld rfl rfl (.cons rfl (.cons rfl (.cons rfl (.cons rfl (.nil))))) ?_
 obtain⟨⟨⟨BN,BO⟩,⟨N5,N6⟩⟩,fD,h⟩:=bS h
 refine cl (z4 fD) ⟨rfl,rfl,trivial⟩<|so rfl rfl rfl ?_
 refine RT.done ⟨by kernel_rfl,?_⟩
 refine ae.n<|aj ?_
 obtain rfl:=O h
 exact RZ (.agg rfl rfl (.cons rfl (.cons rfl (.cons rfl (.cons rfl (.nil))))) rfl (.nil))
theorem xX{x0:List Qr}{x1:List Qr}{Fy:Qr}{r:List Qr}(h:fU x0 x1 Fy=some r):Pure Tryz.prog 95 [slc 4 (List.map eQ x0),slc 4 (List.map eQ x1),gS 141 [ref (eQ Fy)]] (slc 4 (List.map eQ r)):=by
 obtain⟨⟨Ci,Cj⟩,⟨Ck,Cm⟩⟩:=Fy
 refine ay Tryz.func95 rfl (Nat.le_of_ble_eq_true rfl) (fun cG M vs hvs=>?_)
 unfold fU at h
 refine sr<|RT.vG .none (s:=.sv _) rfl T rfl rfl<|aI rfl (imp_nil (n:=4) (e:=eQ))<|dn<|sr<|mv rfl<|lE h fun gU mB h=>ln rfl mB<|mv rfl<|lE h fun fB fT h=>ln rfl fT<|lE h fun eU jg h=>RT.max .none _ rfl rfl T (GH (p:=gU) (q:=fB) jg)<|bE h fun dA fE h=>RT.v9 (e:=eQ) .none rfl rfl T rfl T fE<|RT.alloc .none T rfl rfl<|RT.gR (cells:=[_]) .none rfl rfl rfl rfl T rfl<|dn<|qq<|sr<|mv rfl ?_
 refine mv rfl<|cl (jY x0 x1) ⟨rfl,rfl,trivial⟩<|dn<|ak<|bE h fun iK Ob Od=>?_
 obtain⟨Hj,Oe,Of,Og⟩:=gA Ob
 refine dX (jZ x0 x1) (fun _ _ _ _ _=>trivial) rfl (fun k=>AS.bG 29 [(5,.ptr 5 0),(7,.ptr 7 0),(18,.sv (gS 165 [ref [slc 4 (List.map eQ x0)],ref [slc 4 (List.map eQ x1)]]))] [(7,⟨23,[.row 302]⟩),(5,⟨106,[.sv (gS 141 [ref [.v (.bool Ci),slc 1 (List.map ah Cj),.v (.bool Ck),slc 1 (List.map ah Cm)]])]⟩)] [(302,TR 43 4 eQ (Hj k))]) [7,5] rfl (fun _=>⟨rfl,rfl⟩) (mK rfl) (fun _=>rfl) (mL rfl) (by(try dsimp only);rw[Oe];(try dsimp only);exact cH (fun i=>bif Nat.beq i 302 then 15 else i) rfl rfl rfl rfl rfl ⟨.ptr,.ptr,.sv (SV.aa _),trivial⟩ ⟨⟨_,rfl,⟨.row rfl,trivial⟩⟩,⟨_,rfl,⟨.sv (SV.aa _),trivial⟩⟩,trivial⟩ ⟨⟨_,rfl,bQ.refl _⟩,trivial⟩ (fun i hi=>by rw[bH (show i≠302 by omega)];rfl)) (fun k hk D hD=>?_) ?_
 have h:=Of k hk
 obtain⟨iK,DC⟩:∃q,Hj k=q:=⟨_,rfl⟩
 rw[DC]at h⊢
 dsimp only[AS.IT,n8]
 try dsimp only at h
 obtain⟨⟨⟨Ca,Cb⟩,⟨Cc,Cd⟩⟩,Je,h⟩:=bS h
 rw[Option.some.inj Je]
 obtain⟨⟨⟨Ce,Cf⟩,⟨Cg,Ch⟩⟩,BW,h⟩:=bS h
 rw[Option.some.inj BW]
 refine sr<|al (cs:=[.v (.bool false),slc 1 (List.map ah []),.v (.bool false),slc 1 (List.map ah [])]) (by exact⟨SV.aa _,imp_nil,SV.aa _,imp_nil,trivial⟩) rfl<|so rfl rfl rfl<|dn<|af<|al (cs:=[.v (.bool false),slc 1 (List.map ah []),.v (.bool false),slc 1 (List.map ah [])]) (by exact⟨SV.aa _,imp_nil,SV.aa _,imp_nil,trivial⟩) rfl<|so rfl rfl rfl<|RT.done ?_
 refine ae.n ⟨rfl,?_⟩
 dsimp only[AS.wL]
 refine ak<|ai mixed<|RT.dN .none (s:=.row _) rfl rfl rfl T<|lV rfl rfl rfl<|ld rfl rfl (.cons rfl (.cons rfl (.cons rfl (.cons rfl (.nil)))))<|ld rfl rfl (.cons rfl (.cons rfl (.cons rfl (.cons rfl (.nil))))) ?_
 obtain⟨⟨⟨ik,hG⟩,⟨ny,nA⟩⟩,qM,h⟩:=bS h
 refine RT.SD (args:=[_,_]) (caps:=[_]) .none (w6 qM) rfl ⟨rfl,rfl,trivial⟩ T<|bl (l:=[⟨⟨ik,hG⟩,⟨ny,nA⟩⟩]) (e:=eQ) (.agg rfl (.nil)) rfl rfl rfl rfl rfl rfl<|bE h fun kq m7 h=>aR (k:=[⟨⟨ik,hG⟩,⟨ny,nA⟩⟩]) (e:=eQ) rfl rfl rfl m7<|RT.gR (cells:=[_]) .none rfl rfl rfl rfl T rfl ?_
 refine RT.done ⟨by kernel_rfl,?_⟩
 refine aG.n ?_
 replace h:=Option.some.inj h
 refine⟨trivial,rfl,rfl,?_⟩
 try dsimp only
 rw[←h]
 try dsimp only
 exact cH (fun i=>bif Nat.beq i 302 then 27 else i) rfl rfl rfl rfl rfl ⟨.ptr,.ptr,.sv (SV.aa _),trivial⟩ ⟨⟨_,rfl,⟨.row rfl,trivial⟩⟩,⟨_,rfl,⟨.sv (SV.aa _),trivial⟩⟩,trivial⟩ ⟨⟨_,rfl,bQ.refl _⟩,trivial⟩ (fun i hi=>by rw[bH (show i≠302 by omega)];rfl)
 rw[Og]
 try dsimp only
 refine aG.n<|ae.n<|sr<|RT.dN .none (s:=.row _) rfl rfl rfl T<|an (s:=.row _) rfl<|dn<|bh (c8 (i:=302) (E1:=43) (n:=4) (e:=eQ) (l:=iK) rfl)<|aj ?_
 obtain rfl:=O Od
 exact R1 rfl
theorem Fz{x0:Qr}{x1:Qr}{c0:Qr}{r:Qr}(h:nB x0 x1 c0=some r):Mz Tryz.prog 131 [.agg (eQ x0),.agg (eQ x1)] 43 (eQ c0) (.any) (eQ r):=by
 obtain⟨⟨aB,aC⟩,⟨aJ,aL⟩⟩:=x0
 obtain⟨⟨bF,bC⟩,⟨eX,eY⟩⟩:=x1
 obtain⟨⟨N7,N8⟩,⟨N9,Oa⟩⟩:=c0
 refine Bv Tryz.func131 rfl (Nat.le_of_ble_eq_true rfl) (fun cG M β=>?_)
 unfold nB at h
 refine sr<|bx rfl<|bx rfl<|dn<|qq ?_
 refine aF h (fun j3=>AS.bG 18 [(2,.ptr 1000 0),(3,.ptr 3 0),(4,.ptr 4 0),(12,.sv (.v (.bool j3)))] [(4,⟨43,[.sv (.v (.bool bF)),.sv (slc 1 (List.map ah bC)),.sv (.v (.bool eX)),.sv (slc 1 (List.map ah eY))]⟩),(3,⟨43,[.sv (.v (.bool aB)),.sv (slc 1 (List.map ah aC)),.sv (.v (.bool aJ)),.sv (slc 1 (List.map ah aL))]⟩),(1000,⟨43,[.sv (.v (.bool N7)),.sv (slc 1 (List.map ah N8)),.sv (.v (.bool N9)),.sv (slc 1 (List.map ah Oa))]⟩)] []) (fun h=>?_) (fun Co h=>?_)
 refine af<|ld rfl rfl (.cons rfl (.cons rfl (.cons rfl (.cons rfl (.nil)))))<|bE h fun x6 h6 h=>cl (fI h6) ⟨rfl,trivial⟩<|lE h fun x7 h7 h=>ne _ rfl rfl (Gk (p:=x6) (q:=0) h7)<|mv rfl<|bE h fun SW wm h=>?_
 cases x7
 obtain rfl:=O (F wm)
 exact ww<|ww<|ww<|pF rfl<|dn<|⟨false,h,wR []⟩
 refine gl rfl rfl (.cons rfl (.cons rfl (.cons rfl (.cons rfl (.nil)))))<|bE (V wm) fun dm fD wm=>gc (fI fD) ⟨rfl,trivial⟩<|lE wm fun gU mB wm=>gq _ rfl rfl (Gk (p:=dm) (q:=0) mB) ?_
 obtain rfl:=O wm
 exact pT rfl<|dn<|⟨gU,h,wR []⟩
 try dsimp only
 refine ae.n ?_
 refine aF h (fun j5=>AS.bG 18 [(2,.ptr 1000 0)] [(1000,⟨43,[.sv (.v (.bool j5.1)),.sv (slc 1 (List.map ah j5.2.1)),.sv (.v (.bool j5.2.2.1)),.sv (slc 1 (List.map ah j5.2.2.2))]⟩)] []) (fun h=>?_) (fun j5 h=>?_)
 cases Co
 exact fs<|⟨(N7,N8,N9,Oa),(F h),wR []⟩
 refine cT<|ai mixed<|ld rfl rfl (.cons rfl (.cons rfl (.cons rfl (.cons rfl (.nil)))))<|ld rfl rfl (.cons rfl (.cons rfl (.cons rfl (.cons rfl (.nil)))))<|ld rfl rfl (.cons rfl (.cons rfl (.cons rfl (.cons rfl (.nil))))) ?_
 obtain⟨⟨⟨jz,jA⟩,⟨z6,z7⟩⟩,iQ,h⟩:=bS (V h)
 refine cl (uw iQ) ⟨rfl,rfl,trivial⟩ ?_
 obtain⟨⟨⟨kY,kZ⟩,⟨oR,oS⟩⟩,jD,h⟩:=bS h
 refine cl (z4 jD) ⟨rfl,rfl,trivial⟩<|so rfl rfl rfl ?_
 refine RT.done ⟨by kernel_rfl,?_⟩
 exact ae.n<|⟨(kY,kZ,oR,oS),h,wR []⟩
 obtain⟨Es,Et,Eu,Ev⟩:=j5
 try dsimp only
 obtain rfl:=O h
 exact⟨.inl rfl,gE .nil (fun _ _ _=>trivial),rfl⟩
theorem Cx{x0:List Qr}{x1:List Qr}{r:List Qr}(h:k7 x0 x1=some r):Pure Tryz.prog 50 [slc 4 (List.map eQ x0),slc 4 (List.map eQ x1)] (slc 4 (List.map eQ r)):=by
 refine ay Tryz.func50 rfl (Nat.le_of_ble_eq_true rfl) (fun cG M vs hvs=>?_)
 unfold k7 at h
 refine sr<|aI rfl (imp_nil (n:=4) (e:=eQ))<|dn<|sr<|mv rfl<|mv rfl<|bE h fun x7 h7 h=>cl (Cw h7) ⟨rfl,rfl,rfl,trivial⟩<|ag rfl<|dn<|aj ?_
 obtain rfl:=O h
 exact R1 rfl
theorem xY{x0:Qr}{x1:List Qr}{r:List Qr}(h:k8 x0 x1=some r):Pure Tryz.prog 40 [.agg (eQ x0),slc 4 (List.map eQ x1)] (slc 4 (List.map eQ r)):=by
 obtain⟨⟨aB,aC⟩,⟨aJ,aL⟩⟩:=x0
 refine ay Tryz.func40 rfl (Nat.le_of_ble_eq_true rfl) (fun cG M vs hvs=>?_)
 unfold k8 at h
 refine sr<|bx rfl<|aI rfl (imp_nil (n:=4) (e:=eQ))<|dn<|sr<|mv rfl<|lE h fun x9 h9 h=>ln rfl h9<|bE h fun dm fD h=>RT.jy (n:=4) (e:=eQ) .none rfl rfl T rfl T (by rfl) (by decide) (by exact⟨SV.aa _,imp_nil,SV.aa _,imp_nil,trivial⟩) fD<|an (s:=.row _) rfl<|dn<|qq<|sr<|mv rfl<|lE h fun dB eI h=>ln rfl eI<|mv rfl<|dn<|bE h fun e8 Am ud=>?_
 refine aV (fun(kp:(List Qr))=>AS.bG 26 [(5,.row 10)] [] [(10,TR 43 4 eQ kp)]) (fun kp=>kp=e8) ?_ (fun kp An=>?_)
 refine ak ?_
 refine aW Am (fun s8=>AS.bG 26 [(2,.ptr 2 0),(5,.row 10),(11,.sv (slc 4 (List.map eQ x1))),(12,.sv (.v (.int .i64 dB))),(13,.sv (.v (.int .i64 s8.1)))] [(2,⟨43,[.sv (.v (.bool aB)),.sv (slc 1 (List.map ah aC)),.sv (.v (.bool aJ)),.sv (slc 1 (List.map ah aL))]⟩)] [(10,TR 43 4 eQ s8.2)]) (wR []) (fun s8 y8 G8 h Ao Ap=>?_)
 obtain⟨nC,nD⟩:=s8
 try dsimp only
 refine sr<|lE h fun eU jg h=>ls _ rfl rfl jg<|dn<|qq ?_
 cases eU
 refine cF<|aZ<|ae.x<|ae.x<|aG.x<|ae.n ?_
 obtain rfl:=O (F h)
 exact⟨nD,Ap _ rfl,wR []⟩
 refine cT<|aE<|ae.n<|qq<|ak<|sr<|mv rfl ?_
 obtain⟨⟨⟨jz,jA⟩,⟨z6,z7⟩⟩,iQ,h⟩:=bS (V h)
 refine ix rfl rfl iQ<|RT.gD (cs:=[_,_,_,_]) .none rfl T rfl rfl<|al (cs:=[.v (.bool false),slc 1 (List.map ah []),.v (.bool false),slc 1 (List.map ah [])]) (by exact⟨SV.aa _,imp_nil,SV.aa _,imp_nil,trivial⟩) rfl<|ag rfl<|so rfl rfl rfl<|dn<|af<|mo (s:=.row _) rfl<|mv rfl<|ld rfl rfl (.cons rfl (.cons rfl (.cons rfl (.cons rfl (.nil)))))<|ld rfl rfl (.cons rfl (.cons rfl (.cons rfl (.cons rfl (.nil))))) ?_
 obtain⟨⟨⟨nE,nF⟩,⟨nG,nH⟩⟩,mD,h⟩:=bS h
 refine cl (uw mD) ⟨rfl,rfl,trivial⟩<|bE h fun kA qL h=>iR rfl rfl rfl qL<|bE h fun qH kE h=>sA ⟨⟨nE,nF⟩,⟨nG,nH⟩⟩ rfl rfl rfl kE<|RT.done<|aG.n<|ae.n<|af<|lE h fun fR kD h=>ad _ rfl rfl kD<|mv rfl<|RT.done ?_
 obtain rfl:=O h
 exact ae.n ⟨(fR,qH),Ao _ rfl,wR []⟩
 subst An
 try dsimp only
 refine ae.n<|sr<|mo (s:=.row _) rfl<|an (s:=.row _) rfl<|dn<|bh (c8 (i:=10) (E1:=43) (n:=4) (e:=eQ) (l:=kp) rfl)<|aj ?_
 obtain rfl:=O ud
 exact R1 rfl
theorem mR{x0:Qr}{x1:List Qr}{x2:List Qr}{r:List Qr}(h:dG x0 x1 x2=some r):Pure Tryz.prog 96 [.agg (eQ x0),slc 4 (List.map eQ x1),slc 4 (List.map eQ x2)] (slc 4 (List.map eQ r)):=by
 obtain⟨⟨aB,aC⟩,⟨aJ,aL⟩⟩:=x0
 refine ay Tryz.func96 rfl (Nat.le_of_ble_eq_true rfl) (fun cG M vs hvs=>?_)
 unfold dG at h
 refine sr<|bx rfl<|aI rfl (imp_nil (n:=4) (e:=eQ))<|dn ?_
 refine bh (gz (i:=3) rfl [.v (.bool aB),slc 1 (List.map ah aC),.v (.bool aJ),slc 1 (List.map ah aL)] (.cons rfl (.cons rfl (.cons rfl (.cons rfl (.nil))))) .any 0 [(3,.sv (ref [.v (.bool aB),slc 1 (List.map ah aC),.v (.bool aJ),slc 1 (List.map ah aL)]))] (fun _ _ _=>trivial) (qy.h (l:=[.v (.bool aB),slc 1 (List.map ah aC),.v (.bool aJ),slc 1 (List.map ah aL)])) ⟨@FT.ptr _ _ _ _ _ 3 0 rfl,trivial⟩)<|sr<|mv rfl<|mv rfl<|RT.vk (caps:=[_]) .none ⟨rfl,trivial⟩ T<|bE h fun dm fD h=>?_
 refine cl (xX fD) ⟨rfl,rfl,rfl,trivial⟩<|ag rfl<|dn<|aj ?_
 obtain rfl:=O h
 exact R1 rfl
theorem w7{x0:List Qr}{x1:List Qr}{r:Qr}(h:jX x0 x1=some r):Pure Tryz.prog 87 [slc 4 (List.map eQ x0),slc 4 (List.map eQ x1)] (.agg (eQ r)):=by
 refine ay Tryz.func87 rfl (Nat.le_of_ble_eq_true rfl) (fun cG M vs hvs=>?_)
 unfold jX at h
 refine sr<|al (cs:=[.v (.bool false),slc 1 (List.map ah []),.v (.bool false),slc 1 (List.map ah [])]) (by exact⟨SV.aa _,imp_nil,SV.aa _,imp_nil,trivial⟩) rfl<|dn<|sr<|al (cs:=[.v (.bool false),slc 1 (List.map ah []),.v (.bool false),slc 1 (List.map ah [])]) (by exact⟨SV.aa _,imp_nil,SV.aa _,imp_nil,trivial⟩) rfl<|dn<|sr<|RT.makeFunc .none (.box rfl (.nil)) T<|RT.alloc .none T rfl rfl<|RT.oF (cells:=[_]) .none (s:=.ey _ _) rfl rfl rfl T rfl ?_
 refine dn<|sr<|mv rfl<|lE h fun dB eI h=>ln rfl eI<|mv rfl<|lE h fun eU jg h=>ln rfl jg<|lE h fun dA fE h=>RT.min .none _ rfl rfl T (E7 (p:=dB) (q:=eU) fE)<|ag rfl<|dn<|qq<|qq<|ai mixed<|mv rfl<|mv rfl<|bE h fun ek gV h=>RT.wP .none 0 dA rfl rfl ⟨_,rfl⟩ T gV<|mv rfl<|mv rfl<|bE h fun iv nS h=>RT.wP .none 0 dA rfl rfl ⟨_,rfl⟩ T nS<|cl (jY ek iv) ⟨rfl,rfl,trivial⟩ ?_
 refine RT.done ⟨by kernel_rfl,?_⟩
 refine ae.n<|ak<|bE h fun e7 QT GU=>?_
 obtain⟨DB,QU,QV,QW⟩:=gA QT
 refine dX (jZ ek iv) (fun _ _ _ _ _=>trivial) rfl (fun k=>AS.bG 30 [(4,.ptr 4 0),(5,.ptr 5 0),(6,.ptr 6 0),(22,.sv (gS 165 [ref [slc 4 (List.map eQ ek)],ref [slc 4 (List.map eQ iv)]]))] [(6,⟨144,[.ey 131 [.box 5]]⟩),(5,⟨43,[.sv (.v (.bool (DB k).1)),.sv (slc 1 (List.map ah (DB k).2.1)),.sv (.v (.bool (DB k).2.2.1)),.sv (slc 1 (List.map ah (DB k).2.2.2))]⟩),(4,⟨43,[.sv (.v (.bool false)),.sv (slc 1 (List.map ah [])),.sv (.v (.bool false)),.sv (slc 1 (List.map ah []))]⟩)] []) [6,5,4] rfl (fun _=>⟨rfl,rfl⟩) (mK rfl) (fun _=>rfl) (mL rfl) (by(try dsimp only);rw[QU];(try dsimp only);exact cH id rfl rfl rfl rfl rfl ⟨.ptr,.ptr,.ptr,.sv (SV.aa _),trivial⟩ ⟨⟨_,rfl,⟨.ey,trivial⟩⟩,⟨_,rfl,⟨.sv (SV.aa _),.sv (SV.aa _),.sv (SV.aa _),.sv (SV.aa _),trivial⟩⟩,⟨_,rfl,⟨.sv (SV.aa _),.sv (SV.aa _),.sv (SV.aa _),.sv (SV.aa _),trivial⟩⟩,trivial⟩ trivial (fun _ _=>rfl)) (fun k hk D hD=>?_) ?_
 have h:=QV k hk
 obtain⟨sk,DC⟩:∃q,DB k=q:=⟨_,rfl⟩
 rw[DC]at h⊢
 obtain⟨Cp,Cq,Cr,Cs⟩:=sk
 dsimp only[AS.IT,n8]
 try dsimp only at h
 obtain⟨⟨⟨SX,SY⟩,⟨SZ,S0⟩⟩,adw,h⟩:=bS h
 rw[Option.some.inj adw]
 obtain⟨⟨⟨S3,S4⟩,⟨S5,S6⟩⟩,adx,h⟩:=bS h
 rw[Option.some.inj adx]
 refine sr<|al (cs:=[.v (.bool false),slc 1 (List.map ah []),.v (.bool false),slc 1 (List.map ah [])]) (by exact⟨SV.aa _,imp_nil,SV.aa _,imp_nil,trivial⟩) rfl<|so rfl rfl rfl<|dn<|af<|al (cs:=[.v (.bool false),slc 1 (List.map ah []),.v (.bool false),slc 1 (List.map ah [])]) (by exact⟨SV.aa _,imp_nil,SV.aa _,imp_nil,trivial⟩) rfl<|so rfl rfl rfl<|RT.done ?_
 refine ae.n ⟨rfl,?_⟩
 dsimp only[AS.wL]
 refine ak<|af<|RT.dN .none (s:=.ey _ _) rfl rfl rfl T<|ld rfl rfl (.cons rfl (.cons rfl (.cons rfl (.cons rfl (.nil)))))<|ld rfl rfl (.cons rfl (.cons rfl (.cons rfl (.cons rfl (.nil))))) ?_
 obtain⟨⟨⟨ZB,ZC⟩,⟨ZD,ZE⟩⟩,rY,h⟩:=bS h
 refine cB (Fz rY) 5 rfl ⟨rfl,rfl,trivial⟩<|RT.done<|aG.n ?_
 replace h:=Option.some.inj h
 refine⟨trivial,rfl,rfl,?_⟩
 try dsimp only
 rw[←h]
 try dsimp only
 exact wR []
 rw[QW]
 obtain⟨Cp,Cq,Cr,Cs⟩:=e7
 try dsimp only
 refine aG.n<|ae.n<|sr<|ld rfl rfl (.cons rfl (.cons rfl (.cons rfl (.cons rfl (.nil)))))<|so rfl rfl rfl<|dn<|aj ?_
 obtain rfl:=O GU
 exact RZ (.agg rfl rfl (.cons rfl (.cons rfl (.cons rfl (.cons rfl (.nil))))) rfl (.nil))
theorem uy{x0:List Qr}{x1:List Qr}{r:Int}(h:iY x0 x1=some r):Pure Tryz.prog 88 [slc 4 (List.map eQ x0),slc 4 (List.map eQ x1)] (.v (.int .i64 r)):=by
 refine ay Tryz.func88 rfl (Nat.le_of_ble_eq_true rfl) (fun cG M vs hvs=>?_)
 unfold iY at h
 refine sr<|al (cs:=[.v (.int .i64 0)]) (by exact⟨SV.aa _,trivial⟩) rfl<|dn<|qq<|sr<|mv rfl<|mv rfl<|cl (jY x0 x1) ⟨rfl,rfl,trivial⟩<|dn<|ak<|bE h fun e3 Us We=>?_
 obtain⟨m3,st3,hs3,ht3,hn3⟩:=D8 Us
 refine qj (jZ x0 x1) (fun _ _ _ _ _=>trivial) rfl (fun k=>AS.bG 19 [(4,.ptr 4 0),(10,.sv (gS 165 [ref [slc 4 (List.map eQ x0)],ref [slc 4 (List.map eQ x1)]]))] [(4,⟨3,[.sv (.v (.int .i64 0))]⟩)] []) [4] rfl (fun _=>⟨rfl,rfl⟩) (mK rfl) (fun _=>rfl) (mL rfl) (by(try dsimp only);(try dsimp only);exact cH id rfl rfl rfl rfl rfl ⟨.ptr,.sv (SV.aa _),trivial⟩ ⟨⟨_,rfl,⟨.sv (SV.aa _),trivial⟩⟩,trivial⟩ trivial (fun _ _=>rfl)) m3 (fun k hk hkm D hD=>?_) (fun hdn=>?_)
 obtain⟨y3,h,hG3,hE3⟩:=ht3 k hk hkm
 dsimp only[AS.IT,n8]
 try dsimp only at h
 obtain⟨⟨⟨Hf,Hg⟩,⟨Hh,Hi⟩⟩,Wf,h⟩:=bS h
 rw[Option.some.inj Wf]
 obtain⟨⟨⟨S7,S8⟩,⟨S9,Ta⟩⟩,adD,h⟩:=bS h
 rw[Option.some.inj adD]
 refine sr<|al (cs:=[.v (.bool false),slc 1 (List.map ah []),.v (.bool false),slc 1 (List.map ah [])]) (by exact⟨SV.aa _,imp_nil,SV.aa _,imp_nil,trivial⟩) rfl<|so rfl rfl rfl<|dn<|af<|al (cs:=[.v (.bool false),slc 1 (List.map ah []),.v (.bool false),slc 1 (List.map ah [])]) (by exact⟨SV.aa _,imp_nil,SV.aa _,imp_nil,trivial⟩) rfl<|so rfl rfl rfl<|RT.done ?_
 refine ae.n ⟨rfl,?_⟩
 dsimp only[AS.wL]
 refine ak<|sr<|ld rfl rfl (.cons rfl (.cons rfl (.cons rfl (.cons rfl (.nil)))))<|ld rfl rfl (.cons rfl (.cons rfl (.cons rfl (.cons rfl (.nil)))))<|bE h fun dA fE h=>cl (He fE) ⟨rfl,rfl,trivial⟩<|ag rfl<|dn<|sr<|mv rfl<|lE h fun eT jD h=>ne _ rfl rfl (Gk (p:=dA) (q:=0) jD)<|dn ?_
 cases eT
 refine cF<|aE<|aG.n ?_
 obtain rfl:=O (F h)
 obtain⟨hm3,hq3⟩:=hG3 _ rfl
 exact⟨hm3,rfl,rfl,wR []⟩
 refine cT<|sr<|mv rfl<|RT.oF (cells:=[_]) .none (s:=.sv _) rfl rfl rfl T rfl<|dn<|aj<|aG.r ?_
 obtain rfl:=O (V h)
 have he3:=hE3 _ rfl
 subst he3
 refine⟨rfl,rfl,?_⟩
 refine aG.r<|ae.r ?_
 obtain rfl:=O We
 exact RZ (.one rfl rfl rfl (.nil))
 have hd3:=hn3 hdn
 subst hd3
 obtain⟨ee3,Wg⟩:∃q,st3 (max x0.length x1.length)=q:=⟨_,rfl⟩
 rw[Wg]at We
 try dsimp only
 refine aG.n<|ae.n<|sr<|RT.oF (cells:=[_]) .none (s:=.sv _) rfl rfl rfl T rfl<|dn<|aj ?_
 obtain rfl:=O We
 exact RZ (.one rfl rfl rfl (.nil))
theorem Hl{x0:List Qr}{r:Int}(h:oT x0=some r):Pure Tryz.prog 91 [slc 4 (List.map eQ x0)] (.v (.int .i64 r)):=by
 refine ay Tryz.func91 rfl (Nat.le_of_ble_eq_true rfl) (fun cG M vs hvs=>?_)
 unfold oT at h
 refine sr<|ag rfl<|dn<|sr<|mv rfl<|bE h fun x4 h4 h=>cl ((uy h4).w (args':=[_,_]) ⟨(SV.aa _),imp_nil,trivial⟩) ⟨rfl,rfl,trivial⟩<|ag rfl<|dn<|aj ?_
 obtain rfl:=O h
 exact R1 rfl
theorem fK{x0:List Qr}{x1:List Qr}{r:Bool}(h:cU x0 x1=some r):Pure Tryz.prog 37 [slc 4 (List.map eQ x0),slc 4 (List.map eQ x1)] (.v (.bool r)):=by
 refine ay Tryz.func37 rfl (Nat.le_of_ble_eq_true rfl) (fun cG M vs hvs=>?_)
 unfold cU at h
 refine sr<|ag rfl<|dn<|sr<|mv rfl<|mv rfl<|bE h fun x7 h7 h=>cl (uy h7) ⟨rfl,rfl,trivial⟩<|lE h fun x8 h8 h=>eq _ rfl rfl (vh (p:=x7) (q:=0) h8)<|ag rfl<|dn<|aj ?_
 obtain rfl:=O h
 exact R1 rfl
theorem wv{x0:List Qr}{x1:Int}{r:List Qr}(h:fJ x0 x1=some r):Pure Tryz.prog 47 [slc 4 (List.map eQ x0),.v (.int .i64 x1)] (slc 4 (List.map eQ r)):=by
 refine ay Tryz.func47 rfl (Nat.le_of_ble_eq_true rfl) (fun cG M vs hvs=>?_)
 unfold fJ at h
 refine sr<|aI rfl (imp_nil (n:=4) (e:=eQ))<|dn<|qq<|sr<|mv rfl<|lE h fun x8 h8 h=>ls _ rfl rfl h8<|dn ?_
 cases x8
 refine fs<|sr<|mv rfl<|lE (F h) fun dm fD h=>RT.min .none _ rfl rfl T (E7 (p:=x1) (q:=65536) fD)<|bE h fun gU mB h=>RT.jy (n:=4) (e:=eQ) .none rfl rfl T rfl T (by rfl) (by decide) (by exact⟨SV.aa _,imp_nil,SV.aa _,imp_nil,trivial⟩) mB<|an (s:=.row _) rfl<|dn<|qq<|sr<|mv rfl<|lE h fun fB fT h=>ln rfl fT<|mo (s:=.row _) rfl<|lE h fun dA fE h=>lL rfl rfl fE<|lE h fun gu iQ h=>?_
 refine RT.min .none _ rfl rfl T (E7 (p:=fB) (q:=dA) iQ)<|mv rfl<|dn<|bE h fun e8 Am ud=>?_
 refine aV (fun(lf:(List Qr))=>AS.bG 30 [(5,.row 11)] [] [(11,TR 43 4 eQ lf)]) (fun lf=>lf=e8) ?_ (fun lf An=>?_)
 refine ak ?_
 refine aW Am (fun s8=>AS.bG 30 [(0,.sv (slc 4 (List.map eQ x0))),(5,.row 11),(16,.sv (.v (.int .i64 gu))),(17,.sv (.v (.int .i64 s8.1)))] [] [(11,TR 43 4 eQ s8.2)]) (wR []) (fun s8 y8 G8 h Ao Ap=>?_)
 obtain⟨sS,qO⟩:=s8
 try dsimp only
 refine sr<|lE h fun ek gV h=>ls _ rfl rfl gV<|dn<|qq ?_
 cases ek
 refine cF<|aZ<|ae.x<|ae.x<|aG.x<|ae.n ?_
 obtain rfl:=O (F h)
 exact⟨qO,Ap _ rfl,wR []⟩
 refine cT<|aE<|ae.n<|qq<|ak<|sr<|mv rfl<|ag rfl<|dn<|af<|mo (s:=.row _) rfl<|mv rfl<|mv rfl<|mv rfl ?_
 obtain⟨⟨⟨oc,oe⟩,⟨og,oh⟩⟩,kD,h⟩:=bS (V h)
 refine ix rfl rfl kD<|RT.gD (cs:=[_,_,_,_]) .none rfl T rfl rfl ?_
 obtain⟨⟨⟨sV,sW⟩,⟨sX,sY⟩⟩,nT,h⟩:=bS h
 refine cl (fm nT) ⟨rfl,trivial⟩<|bE h fun kq m7 h=>iR rfl rfl rfl m7<|bE h fun qH kE h=>sA ⟨⟨sV,sW⟩,⟨sX,sY⟩⟩ rfl rfl rfl kE<|RT.done<|aG.n<|ae.n<|af<|lE h fun mN rY h=>ad _ rfl rfl rY<|mv rfl<|RT.done ?_
 obtain rfl:=O h
 exact ae.n ⟨(mN,qH),Ao _ rfl,wR []⟩
 subst An
 try dsimp only
 refine ae.n<|sr<|mo (s:=.row _) rfl<|an (s:=.row _) rfl<|dn<|bh (c8 (i:=11) (E1:=43) (n:=4) (e:=eQ) (l:=lf) rfl)<|aj ?_
 obtain rfl:=O ud
 exact R1 rfl
 refine cT<|sr<|aI rfl (imp_nil (n:=4) (e:=eQ))<|dn<|aj<|ae.r ?_
 obtain rfl:=O (V h)
 exact R1 rfl
theorem Cy{x0:List Qr}{x1:Int}{r:List Qr}(h:m9 x0 x1=some r):Ah Tryz.prog 47 [slc 4 (List.map eQ x0),.v (.int .i64 x1)] (TR 43 4 eQ r):=by
 refine oH Tryz.func47 rfl (Nat.le_of_ble_eq_true rfl) (fun cG M vs hvs=>?_)
 unfold m9 at h
 refine sr<|ag rfl<|dn<|bh (fW 4 304 43 4 rfl rfl T)<|qq<|sr<|mv rfl<|lE h fun x8 h8 h=>ls _ rfl rfl h8<|dn ?_
 cases x8
 refine fs<|sr<|mv rfl<|lE (F h) fun dm fD h=>RT.min .none _ rfl rfl T (E7 (p:=x1) (q:=65536) fD)<|bE h fun gU mB h=>RT.jy (n:=4) (e:=eQ) .none rfl rfl T rfl T (by rfl) (by decide) (by exact⟨SV.aa _,imp_nil,SV.aa _,imp_nil,trivial⟩) mB<|an (s:=.row _) rfl<|dn<|qq<|sr<|mv rfl<|lE h fun fB fT h=>ln rfl fT<|mo (s:=.row _) rfl<|lE h fun dA fE h=>lL rfl rfl fE<|lE h fun gu iQ h=>?_
 refine RT.min .none _ rfl rfl T (E7 (p:=fB) (q:=dA) iQ)<|mv rfl<|dn<|bE h fun e8 Am ud=>?_
 refine aV (fun(lf:(List Qr))=>AS.bG 30 [(5,.row 11)] [] [(11,TR 43 4 eQ lf)]) (fun lf=>lf=e8) ?_ (fun lf An=>?_)
 refine ak ?_
 refine aW Am (fun s8=>AS.bG 30 [(0,.sv (slc 4 (List.map eQ x0))),(5,.row 11),(16,.sv (.v (.int .i64 gu))),(17,.sv (.v (.int .i64 s8.1)))] [] [(11,TR 43 4 eQ s8.2)]) (wR []) (fun s8 y8 G8 h Ao Ap=>?_)
 obtain⟨sS,qO⟩:=s8
 try dsimp only
 refine sr<|lE h fun ek gV h=>ls _ rfl rfl gV<|dn<|qq ?_
 cases ek
 refine cF<|aZ<|ae.x<|ae.x<|aG.x<|ae.n ?_
 obtain rfl:=O (F h)
 exact⟨qO,Ap _ rfl,wR []⟩
 refine cT<|aE<|ae.n<|qq<|ak<|sr<|mv rfl<|ag rfl<|dn<|af<|mo (s:=.row _) rfl<|mv rfl<|mv rfl<|mv rfl ?_
 obtain⟨⟨⟨oc,oe⟩,⟨og,oh⟩⟩,kD,h⟩:=bS (V h)
 refine ix rfl rfl kD<|RT.gD (cs:=[_,_,_,_]) .none rfl T rfl rfl ?_
 obtain⟨⟨⟨sV,sW⟩,⟨sX,sY⟩⟩,nT,h⟩:=bS h
 refine cl (fm nT) ⟨rfl,trivial⟩<|bE h fun kq m7 h=>iR rfl rfl rfl m7<|bE h fun qH kE h=>sA ⟨⟨sV,sW⟩,⟨sX,sY⟩⟩ rfl rfl rfl kE<|RT.done<|aG.n<|ae.n<|af<|lE h fun mN rY h=>ad _ rfl rfl rY<|mv rfl<|RT.done ?_
 obtain rfl:=O h
 exact ae.n ⟨(mN,qH),Ao _ rfl,wR []⟩
 subst An
 try dsimp only
 refine ae.n<|sr<|mo (s:=.row _) rfl<|an (s:=.row _) rfl<|dn<|aj ?_
 obtain rfl:=O ud
 exact⟨.inr rfl,_,.tmp rfl,rfl⟩
 refine cT<|sr<|ag rfl<|dn<|bh (fW 4 310 43 4 rfl rfl T)<|aj<|ae.r ?_
 obtain rfl:=O (V h)
 exact⟨.inr rfl,_,.tmp rfl,rfl⟩
theorem dH{x0:List Int}{r:List Qr}(h:cC x0=some r):Pure Tryz.prog 54 [slc 1 (List.map bT x0)] (slc 4 (List.map eQ r)):=by
 refine ay Tryz.func54 rfl (Nat.le_of_ble_eq_true rfl) (fun cG M vs hvs=>?_)
 unfold cC at h
 refine sr<|aI rfl (imp_nil (n:=4) (e:=eQ))<|dn<|sr<|mv rfl<|lE h fun x7 h7 h=>ln rfl h7<|bE h fun x8 h8 h=>RT.jy (n:=4) (e:=eQ) .none rfl rfl T rfl T (by rfl) (by decide) (by exact⟨SV.aa _,imp_nil,SV.aa _,imp_nil,trivial⟩) h8<|an (s:=.row _) rfl<|dn<|qq<|sr<|mv rfl<|lE h fun dm fD h=>ln rfl fD<|mv rfl<|dn<|bE h fun e8 Am ud=>?_
 refine aV (fun(w5:(List Qr))=>AS.bG 23 [(3,.row 8)] [] [(8,TR 43 4 eQ w5)]) (fun w5=>w5=e8) ?_ (fun w5 An=>?_)
 refine ak ?_
 refine aW Am (fun s8=>AS.bG 23 [(3,.row 8),(9,.sv (slc 1 (List.map bT x0))),(10,.sv (.v (.int .i64 dm))),(11,.sv (.v (.int .i64 s8.1)))] [] [(8,TR 43 4 eQ s8.2)]) (wR []) (fun s8 y8 G8 h Ao Ap=>?_)
 obtain⟨ux,Ct⟩:=s8
 try dsimp only
 refine sr<|lE h fun dB eI h=>ls _ rfl rfl eI<|dn<|qq ?_
 cases dB
 refine cF<|aZ<|ae.x<|ae.x<|aG.x<|ae.n ?_
 obtain rfl:=O (F h)
 exact⟨Ct,Ap _ rfl,wR []⟩
 refine cT<|aE<|ae.n<|qq<|ak<|sr<|mv rfl<|bE (V h) fun eU jg h=>ix rfl rfl jg<|lr rfl rfl<|ag rfl<|ag rfl<|dn<|af<|mo (s:=.row _) rfl<|mv rfl<|mv rfl ?_
 obtain⟨⟨⟨mE,mF⟩,⟨Cu,Cv⟩⟩,kx,h⟩:=bS h
 refine cl (gJ kx) ⟨rfl,trivial⟩<|bE h fun gB lM h=>iR rfl rfl rfl lM<|bE h fun qH kE h=>sA ⟨⟨mE,mF⟩,⟨Cu,Cv⟩⟩ rfl rfl rfl kE<|RT.done<|aG.n<|ae.n<|af<|lE h fun iv nS h=>ad _ rfl rfl nS<|mv rfl<|RT.done ?_
 obtain rfl:=O h
 exact ae.n ⟨(iv,qH),Ao _ rfl,wR []⟩
 subst An
 try dsimp only
 refine ae.n<|sr<|mo (s:=.row _) rfl<|an (s:=.row _) rfl<|dn<|bh (c8 (i:=8) (E1:=43) (n:=4) (e:=eQ) (l:=w5) rfl)<|aj ?_
 obtain rfl:=O ud
 exact R1 rfl
end Go.Proofs.YtningmnklfpfjaaGreat
namespace Go.Proofs.YtningmnklfpfjaaGreat
open Go.Fw
noncomputable def qP(x0:List (List Qr))(x1:Int):Option (List Qr):=cm (fun(Co:Bool)=>(bif Co then some []else(cy x0 x1).bind fun dA=>some dA)) fun K3=>(some (decide ((x1:Int)<0))).bind fun x6=>(bif x6 then some true else(some (x0.length:Int)).bind fun dm=>(some (decide ((dm:Int)≤x1))).bind fun gU=>some gU).bind fun Tc=>K3 Tc
noncomputable def kR(x0:List (List Qr)):Option (Int):=(some (x0.length:Int)).bind fun x7=>(bU (fun(s6:Int×Int)=>match s6 with|⟨qm,Q2⟩=>(show Option ((Int×Int)⊕(Int))from(some (decide ((Q2:Int)<x7))).bind fun x9=>(bif x9 then(cy x0 Q2).bind fun dm=>(some (dm.length:Int)).bind fun eU=>(some (max (qm:Int) eU)).bind fun dA=>(some (IntKind.i64.wrap (Q2+1))).bind fun gu=>some (.inl (dA,gu))else some (.inr qm)))) (0,0)).bind fun zw=>some zw
noncomputable def uz(x0:List (List Qr))(x1:Int)(x2:Int):Option (Qr):=(qP x0 x1).bind fun dm=>cm (fun(Oh:Bool)=>(bif Oh then some ⟨⟨false,[]⟩,⟨false,[]⟩⟩else(cy dm x2).bind fun⟨⟨nE,nF⟩,⟨nG,nH⟩⟩=>(bW ⟨⟨nE,nF⟩,⟨nG,nH⟩⟩).bind fun⟨⟨oc,oe⟩,⟨og,oh⟩⟩=>some ⟨⟨oc,oe⟩,⟨og,oh⟩⟩)) fun K3=>(some (decide ((x2:Int)<0))).bind fun dB=>(bif dB then some true else(some (dm.length:Int)).bind fun gu=>(some (decide ((gu:Int)≤x2))).bind fun eT=>some eT).bind fun Td=>K3 Td
noncomputable def j0(x0:List (List Qr))(x1:List Qr):Option (List Qr):=(some (x0.length:Int)).bind fun x9=>(AT 64 x9 (⟨⟨false,[]⟩,⟨false,[]⟩⟩:Qr)).bind fun dm=>(some (x0.length:Int)).bind fun dB=>(bU (fun(s8:Int×(List Qr))=>match s8 with|⟨nC,nD⟩=>(show Option ((Int×(List Qr))⊕((List Qr)))from(some (decide ((nC:Int)<dB))).bind fun eU=>(bif eU then(cy x0 nC).bind fun gu=>(jX gu x1).bind fun⟨⟨nE,nF⟩,⟨nG,nH⟩⟩=>(pI nD nC).bind fun kA=>(stM nD kA ⟨⟨nE,nF⟩,⟨nG,nH⟩⟩).bind fun qH=>(some (IntKind.i64.wrap (nC+1))).bind fun fR=>some (.inl (fR,qH))else some (.inr nD)))) (0,dm)).bind fun kp=>some kp
noncomputable def iq(x0:List (List Int)):Option (List (List Qr)):=(some (x0.length:Int)).bind fun x7=>(AT 24 x7 ([]:List Qr)).bind fun x8=>(some (x0.length:Int)).bind fun dm=>(bU (fun(s8:Int×(List (List Qr)))=>match s8 with|⟨ux,Ct⟩=>(show Option ((Int×(List (List Qr)))⊕((List (List Qr))))from(some (decide ((ux:Int)<dm))).bind fun dB=>(bif dB then(cy x0 ux).bind fun eU=>(cC eU).bind fun kW=>(pI Ct ux).bind fun gB=>(stM Ct gB kW).bind fun qH=>(some (IntKind.i64.wrap (ux+1))).bind fun iv=>some (.inl (iv,qH))else some (.inr Ct)))) (0,x8)).bind fun w5=>some w5
noncomputable def qo(x0:List (List Qr))(x1:List Qr):Option (List Qr):=(some (x0.length:Int)).bind fun x9=>(AT 64 x9 (⟨⟨false,[]⟩,⟨false,[]⟩⟩:Qr)).bind fun dm=>(some (x0.length:Int)).bind fun dB=>(bU (fun(s8:Int×(List Qr))=>match s8 with|⟨nC,nD⟩=>(show Option ((Int×(List Qr))⊕((List Qr)))from(some (decide ((nC:Int)<dB))).bind fun eU=>(bif eU then(cy x0 nC).bind fun gu=>(jX gu x1).bind fun⟨⟨nE,nF⟩,⟨nG,nH⟩⟩=>(pI nD nC).bind fun kA=>(stM nD kA ⟨⟨nE,nF⟩,⟨nG,nH⟩⟩).bind fun qH=>(some (IntKind.i64.wrap (nC+1))).bind fun fR=>some (.inl (fR,qH))else some (.inr nD)))) (0,dm)).bind fun kp=>some kp
noncomputable def j1(x0:List Qr)(x1:List (List Qr)):Option (List Qr):=(kR x1).bind fun x9=>(AT 64 x9 (⟨⟨false,[]⟩,⟨false,[]⟩⟩:Qr)).bind fun dm=>(some (x1.length:Int)).bind fun fB=>(some (x0.length:Int)).bind fun dA=>(some (min (fB:Int) dA)).bind fun gu=>(xK x1 0 gu).bind fun eT=>(some (eT.length:Int)).bind fun ek=>(bU (fun(zZ:(List Qr)×Int)=>match zZ with|⟨vK,Cz⟩=>(show Option (((List Qr)×Int)⊕((List Qr)))from(some (decide ((Cz:Int)<ek))).bind fun gB=>(bif gB then(cy eT Cz).bind fun iP=>(cy x0 Cz).bind fun⟨⟨sV,sW⟩,⟨sX,sY⟩⟩=>(eu ⟨⟨sV,sW⟩,⟨sX,sY⟩⟩).bind fun mN=>(some (decide ((mN:Int)≠0))).bind fun gH=>cm (fun(Oi:(List Qr))=>(some (IntKind.i64.wrap (Cz+1))).bind fun tf=>some (.inl (Oi,tf))) fun K12=>(bif gH then(cy x0 Cz).bind fun⟨⟨kX,kC⟩,⟨nu,nv⟩⟩=>(dG ⟨⟨kX,kC⟩,⟨nu,nv⟩⟩ iP vK).bind fun oC=>K12 oC else K12 vK)else some (.inr vK)))) (dm,0)).bind fun Ll=>some Ll
end Go.Proofs.YtningmnklfpfjaaGreat
namespace Go.Proofs.YtningmnklfpfjaaGreat
open Go.Fw Go.Fw.Z Go.RowKit
theorem Jf{x0:List (List Qr)}{x1:Int}{r:List Qr}(h:qP x0 x1=some r):Pure Tryz.prog 139 [slc 1 (List.map (eS 4 eQ) x0),.v (.int .i64 x1)] (slc 4 (List.map eQ r)):=by
 refine ay Tryz.func139 rfl (Nat.le_of_ble_eq_true rfl) (fun cG M vs hvs=>?_)
 unfold qP at h
 refine sr<|aI rfl (imp_nil (n:=4) (e:=eQ))<|dn<|qq<|qq ?_
 refine aF h (fun j3=>AS.bG 17 [(0,.sv (slc 1 (List.map (eS 4 eQ) x0))),(1,.sv (.v (.int .i64 x1))),(12,.sv (.v (.bool j3)))] [] []) (fun h=>?_) (fun Co h=>?_)
 refine af<|mv rfl<|lE h fun x6 h6 h=>ls _ rfl rfl h6<|mv rfl<|bE h fun Tc m8 h=>?_
 cases x6
 refine gm rfl<|gm rfl<|lE (F m8) fun dm fD m8=>gn rfl fD<|lE m8 fun gU mB m8=>RT.geq (.some rfl rfl) _ rfl rfl T mB ?_
 obtain rfl:=O m8
 exact pF rfl<|dn<|⟨gU,h,wR []⟩
 obtain rfl:=O (V m8)
 exact ww<|ww<|ww<|ww<|pT rfl<|dn<|⟨true,h,wR []⟩
 try dsimp only
 refine ae.n ?_
 cases Co
 refine fs<|sr<|mv rfl<|mv rfl<|bE (F h) fun dA fE h=>ix rfl rfl fE<|lr rfl rfl<|ag rfl<|dn<|aj ?_
 obtain rfl:=O h
 exact R1 rfl
 refine cT<|sr<|aI rfl (imp_nil (n:=4) (e:=eQ))<|dn<|aj<|ae.r ?_
 obtain rfl:=O (V h)
 exact R1 rfl
theorem uA{x0:List (List Qr)}{r:Int}(h:kR x0=some r):Pure Tryz.prog 84 [slc 1 (List.map (eS 4 eQ) x0)] (.v (.int .i64 r)):=by
 refine ay Tryz.func84 rfl (Nat.le_of_ble_eq_true rfl) (fun cG M vs hvs=>?_)
 unfold kR at h
 refine sr<|ag rfl<|dn<|sr<|ag rfl<|dn<|qq<|sr<|mv rfl<|lE h fun x7 h7 h=>ln rfl h7<|mv rfl<|dn<|bE h fun e6 Dy iS=>?_
 refine aV (fun(zw:Int)=>AS.bG 18 [(3,.sv (.v (.int .i64 zw)))] [] []) (fun zw=>zw=e6) ?_ (fun zw Dz=>?_)
 refine ak ?_
 refine aW Dy (fun s6=>AS.bG 18 [(3,.sv (.v (.int .i64 s6.1))),(6,.sv (slc 1 (List.map (eS 4 eQ) x0))),(7,.sv (.v (.int .i64 x7))),(8,.sv (.v (.int .i64 s6.2)))] [] []) (wR []) (fun s6 y6 G6 h DA y7=>?_)
 obtain⟨qm,Q2⟩:=s6
 try dsimp only
 refine sr<|lE h fun x9 h9 h=>ls _ rfl rfl h9<|dn<|qq ?_
 cases x9
 refine cF<|aZ<|ae.x<|ae.x<|aG.x<|ae.n ?_
 obtain rfl:=O (F h)
 exact⟨qm,y7 _ rfl,wR []⟩
 refine cT<|aE<|ae.n<|qq<|ak<|sr<|bE (V h) fun dm fD h=>ix rfl rfl fD<|lr rfl rfl<|ag rfl<|dn<|af<|mv rfl<|mv rfl<|lE h fun eU jg h=>ln rfl jg<|lE h fun dA fE h=>RT.max .none _ rfl rfl T (GH (p:=qm) (q:=eU) fE)<|ag rfl<|RT.done<|aG.n<|ae.n<|af<|lE h fun gu iQ h=>ad _ rfl rfl iQ<|mv rfl<|RT.done ?_
 obtain rfl:=O h
 exact ae.n ⟨(dA,gu),DA _ rfl,wR []⟩
 subst Dz
 try dsimp only
 refine ae.n<|sr<|mv rfl<|ag rfl<|dn<|aj ?_
 obtain rfl:=O iS
 exact R1 rfl
theorem Lm{x0:List (List Qr)}{x1:Int}{x2:Int}{r:Qr}(h:uz x0 x1 x2=some r):Pure Tryz.prog 103 [slc 1 (List.map (eS 4 eQ) x0),.v (.int .i64 x1),.v (.int .i64 x2)] (.agg (eQ r)):=by
 refine ay Tryz.func103 rfl (Nat.le_of_ble_eq_true rfl) (fun cG M vs hvs=>?_)
 unfold uz at h
 refine sr<|al (cs:=[.v (.bool false),slc 1 (List.map ah []),.v (.bool false),slc 1 (List.map ah [])]) (by exact⟨SV.aa _,imp_nil,SV.aa _,imp_nil,trivial⟩) rfl<|dn<|sr<|mv rfl<|mv rfl<|bE h fun dm fD h=>cl (Jf fD) ⟨rfl,rfl,trivial⟩<|ag rfl<|dn<|qq<|qq ?_
 refine aF h (fun j3=>AS.bG 25 [(2,.sv (.v (.int .i64 x2))),(6,.ptr 6 0),(7,.sv (slc 4 (List.map eQ dm))),(18,.sv (.v (.bool j3)))] [(6,⟨43,[.sv (.v (.bool false)),.sv (slc 1 (List.map ah [])),.sv (.v (.bool false)),.sv (slc 1 (List.map ah []))]⟩)] []) (fun h=>?_) (fun Oh h=>?_)
 refine af<|mv rfl<|lE h fun dB eI h=>ls _ rfl rfl eI<|mv rfl<|bE h fun Td m8 h=>?_
 cases dB
 refine gm rfl<|gm rfl<|lE (F m8) fun gu iQ m8=>gn rfl iQ<|lE m8 fun eT jD m8=>RT.geq (.some rfl rfl) _ rfl rfl T jD ?_
 obtain rfl:=O m8
 exact pF rfl<|dn<|⟨eT,h,wR []⟩
 obtain rfl:=O (V m8)
 exact ww<|ww<|ww<|ww<|pT rfl<|dn<|⟨true,h,wR []⟩
 try dsimp only
 refine ae.n ?_
 cases Oh
 refine fs<|sr<|mv rfl<|mv rfl ?_
 obtain⟨⟨⟨nE,nF⟩,⟨nG,nH⟩⟩,mD,h⟩:=bS (F h)
 refine ix rfl rfl mD<|RT.gD (cs:=[_,_,_,_]) .none rfl T rfl rfl ?_
 obtain⟨⟨⟨oc,oe⟩,⟨og,oh⟩⟩,kD,h⟩:=bS h
 refine cl (fm kD) ⟨rfl,trivial⟩<|so rfl rfl rfl<|dn<|aj ?_
 obtain rfl:=O h
 exact RZ (.agg rfl rfl (.cons rfl (.cons rfl (.cons rfl (.cons rfl (.nil))))) rfl (.nil))
 refine cT<|sr<|bI (cs:=[_,_,_,_]) (cs':=[.v (.bool false),slc 1 (List.map ah []),.v (.bool false),slc 1 (List.map ah [])]) (.nil) ⟨SV.aa _,imp_nil,SV.aa _,imp_nil,trivial⟩<|so rfl rfl rfl<|dn<|aj<|ae.r ?_
 obtain rfl:=O (V h)
 exact RZ (.agg rfl rfl (.cons rfl (.cons rfl (.cons rfl (.cons rfl (.nil))))) rfl (.nil))
theorem DJ{x0:List (List Qr)}{x1:List Qr}{r:List Qr}(h:j0 x0 x1=some r):Pure Tryz.prog 49 [slc 1 (List.map (eS 4 eQ) x0),slc 4 (List.map eQ x1)] (slc 4 (List.map eQ r)):=by
 refine ay Tryz.func49 rfl (Nat.le_of_ble_eq_true rfl) (fun cG M vs hvs=>?_)
 unfold j0 at h
 refine sr<|aI rfl (imp_nil (n:=4) (e:=eQ))<|dn<|sr<|mv rfl<|lE h fun x9 h9 h=>ln rfl h9<|bE h fun dm fD h=>RT.jy (n:=4) (e:=eQ) .none rfl rfl T rfl T (by rfl) (by decide) (by exact⟨SV.aa _,imp_nil,SV.aa _,imp_nil,trivial⟩) fD<|an (s:=.row _) rfl<|dn<|qq<|sr<|mv rfl<|lE h fun dB eI h=>ln rfl eI<|mv rfl<|dn<|bE h fun e8 Am ud=>?_
 refine aV (fun(kp:(List Qr))=>AS.bG 26 [(5,.row 10)] [] [(10,TR 43 4 eQ kp)]) (fun kp=>kp=e8) ?_ (fun kp An=>?_)
 refine ak ?_
 refine aW Am (fun s8=>AS.bG 26 [(1,.sv (slc 4 (List.map eQ x1))),(5,.row 10),(11,.sv (slc 1 (List.map (eS 4 eQ) x0))),(12,.sv (.v (.int .i64 dB))),(13,.sv (.v (.int .i64 s8.1)))] [] [(10,TR 43 4 eQ s8.2)]) (wR []) (fun s8 y8 G8 h Ao Ap=>?_)
 obtain⟨nC,nD⟩:=s8
 try dsimp only
 refine sr<|lE h fun eU jg h=>ls _ rfl rfl jg<|dn<|qq ?_
 cases eU
 refine cF<|aZ<|ae.x<|ae.x<|aG.x<|ae.n ?_
 obtain rfl:=O (F h)
 exact⟨nD,Ap _ rfl,wR []⟩
 refine cT<|aE<|ae.n<|qq<|ak<|sr<|mv rfl<|bE (V h) fun gu iQ h=>ix rfl rfl iQ<|lr rfl rfl<|ag rfl<|ag rfl<|dn<|af<|mo (s:=.row _) rfl<|mv rfl<|mv rfl<|mv rfl ?_
 obtain⟨⟨⟨nE,nF⟩,⟨nG,nH⟩⟩,mD,h⟩:=bS h
 refine cl (w7 mD) ⟨rfl,rfl,trivial⟩<|bE h fun kA qL h=>iR rfl rfl rfl qL<|bE h fun qH kE h=>sA ⟨⟨nE,nF⟩,⟨nG,nH⟩⟩ rfl rfl rfl kE<|RT.done<|aG.n<|ae.n<|af<|lE h fun fR kD h=>ad _ rfl rfl kD<|mv rfl<|RT.done ?_
 obtain rfl:=O h
 exact ae.n ⟨(fR,qH),Ao _ rfl,wR []⟩
 subst An
 try dsimp only
 refine ae.n<|sr<|mo (s:=.row _) rfl<|an (s:=.row _) rfl<|dn<|bh (c8 (i:=10) (E1:=43) (n:=4) (e:=eQ) (l:=kp) rfl)<|aj ?_
 obtain rfl:=O ud
 exact R1 rfl
theorem sZ{x0:List (List Int)}{r:List (List Qr)}(h:iq x0=some r):Pure Tryz.prog 100 [slc 1 (List.map (eS 1 bT) x0)] (slc 1 (List.map (eS 4 eQ) r)):=by
 refine ay Tryz.func100 rfl (Nat.le_of_ble_eq_true rfl) (fun cG M vs hvs=>?_)
 unfold iq at h
 refine sr<|aI rfl (imp_nil (n:=1) (e:=(eS 4 eQ)))<|dn<|sr<|mv rfl<|lE h fun x7 h7 h=>ln rfl h7<|bE h fun x8 h8 h=>RT.jy (n:=1) (e:=(eS 4 eQ)) .none rfl rfl T rfl T (by rfl) (by decide) (by exact⟨imp_nil,trivial⟩) h8<|an (s:=.row _) rfl<|dn<|qq<|sr<|mv rfl<|lE h fun dm fD h=>ln rfl fD<|mv rfl<|dn<|bE h fun e8 Am ud=>?_
 refine aV (fun(w5:(List (List Qr)))=>AS.bG 23 [(3,.row 8)] [] [(8,TR 23 1 (eS 4 eQ) w5)]) (fun w5=>w5=e8) ?_ (fun w5 An=>?_)
 refine ak ?_
 refine aW Am (fun s8=>AS.bG 23 [(3,.row 8),(9,.sv (slc 1 (List.map (eS 1 bT) x0))),(10,.sv (.v (.int .i64 dm))),(11,.sv (.v (.int .i64 s8.1)))] [] [(8,TR 23 1 (eS 4 eQ) s8.2)]) (wR []) (fun s8 y8 G8 h Ao Ap=>?_)
 obtain⟨ux,Ct⟩:=s8
 try dsimp only
 refine sr<|lE h fun dB eI h=>ls _ rfl rfl eI<|dn<|qq ?_
 cases dB
 refine cF<|aZ<|ae.x<|ae.x<|aG.x<|ae.n ?_
 obtain rfl:=O (F h)
 exact⟨Ct,Ap _ rfl,wR []⟩
 refine cT<|aE<|ae.n<|qq<|ak<|sr<|mv rfl<|bE (V h) fun eU jg h=>ix rfl rfl jg<|lr rfl rfl<|ag rfl<|ag rfl<|dn<|af<|mo (s:=.row _) rfl<|mv rfl<|mv rfl<|bE h fun kW kx h=>cl (dH kx) ⟨rfl,trivial⟩<|bE h fun gB lM h=>iR rfl rfl rfl lM<|bE h fun qH kE h=>sR kW rfl rfl rfl rfl kE<|RT.done<|aG.n<|ae.n<|af<|lE h fun iv nS h=>ad _ rfl rfl nS ?_
 refine mv rfl<|RT.done ?_
 obtain rfl:=O h
 exact ae.n ⟨(iv,qH),Ao _ rfl,wR []⟩
 subst An
 try dsimp only
 refine ae.n<|sr<|mo (s:=.row _) rfl<|an (s:=.row _) rfl<|dn<|bh (c8 (i:=8) (E1:=23) (n:=1) (e:=(eS 4 eQ)) (l:=w5) rfl)<|aj ?_
 obtain rfl:=O ud
 exact R1 rfl
theorem CA{x0:List (List Qr)}{x1:List Qr}{r:List Qr}(h:qo x0 x1=some r):Ah Tryz.prog 49 [slc 1 (List.map (eS 4 eQ) x0),slc 4 (List.map eQ x1)] (TR 43 4 eQ r):=by
 refine oH Tryz.func49 rfl (Nat.le_of_ble_eq_true rfl) (fun cG M vs hvs=>?_)
 unfold qo at h
 refine sr<|ag rfl<|dn<|bh (fW 4 304 43 4 rfl rfl T)<|sr<|mv rfl<|lE h fun x9 h9 h=>ln rfl h9<|bE h fun dm fD h=>RT.jy (n:=4) (e:=eQ) .none rfl rfl T rfl T (by rfl) (by decide) (by exact⟨SV.aa _,imp_nil,SV.aa _,imp_nil,trivial⟩) fD<|an (s:=.row _) rfl<|dn<|qq<|sr<|mv rfl<|lE h fun dB eI h=>ln rfl eI<|mv rfl<|dn<|bE h fun e8 Am ud=>?_
 refine aV (fun(kp:(List Qr))=>AS.bG 26 [(5,.row 10)] [] [(10,TR 43 4 eQ kp)]) (fun kp=>kp=e8) ?_ (fun kp An=>?_)
 refine ak ?_
 refine aW Am (fun s8=>AS.bG 26 [(1,.sv (slc 4 (List.map eQ x1))),(5,.row 10),(11,.sv (slc 1 (List.map (eS 4 eQ) x0))),(12,.sv (.v (.int .i64 dB))),(13,.sv (.v (.int .i64 s8.1)))] [] [(10,TR 43 4 eQ s8.2)]) (wR []) (fun s8 y8 G8 h Ao Ap=>?_)
 obtain⟨nC,nD⟩:=s8
 try dsimp only
 refine sr<|lE h fun eU jg h=>ls _ rfl rfl jg<|dn<|qq ?_
 cases eU
 refine cF<|aZ<|ae.x<|ae.x<|aG.x<|ae.n ?_
 obtain rfl:=O (F h)
 exact⟨nD,Ap _ rfl,wR []⟩
 refine cT<|aE<|ae.n<|qq<|ak<|sr<|mv rfl<|bE (V h) fun gu iQ h=>ix rfl rfl iQ<|lr rfl rfl<|ag rfl<|ag rfl<|dn<|af<|mo (s:=.row _) rfl<|mv rfl<|mv rfl<|mv rfl ?_
 obtain⟨⟨⟨nE,nF⟩,⟨nG,nH⟩⟩,mD,h⟩:=bS h
 refine cl (w7 mD) ⟨rfl,rfl,trivial⟩<|bE h fun kA qL h=>iR rfl rfl rfl qL<|bE h fun qH kE h=>sA ⟨⟨nE,nF⟩,⟨nG,nH⟩⟩ rfl rfl rfl kE<|RT.done<|aG.n<|ae.n<|af<|lE h fun fR kD h=>ad _ rfl rfl kD<|mv rfl<|RT.done ?_
 obtain rfl:=O h
 exact ae.n ⟨(fR,qH),Ao _ rfl,wR []⟩
 subst An
 try dsimp only
 refine ae.n<|sr<|mo (s:=.row _) rfl<|an (s:=.row _) rfl<|dn<|aj ?_
 obtain rfl:=O ud
 exact⟨.inr rfl,_,.tmp rfl,rfl⟩
theorem DK{x0:List Qr}{x1:List (List Qr)}{r:List Qr}(h:j1 x0 x1=some r):Pure Tryz.prog 51 [slc 4 (List.map eQ x0),slc 1 (List.map (eS 4 eQ) x1)] (slc 4 (List.map eQ r)):=by
 refine ay Tryz.func51 rfl (Nat.le_of_ble_eq_true rfl) (fun cG M vs hvs=>?_)
 unfold j1 at h
 refine sr<|aI rfl (imp_nil (n:=4) (e:=eQ))<|dn<|sr<|mv rfl<|bE h fun x9 h9 h=>cl (uA h9) ⟨rfl,trivial⟩<|bE h fun dm fD h=>RT.jy (n:=4) (e:=eQ) .none rfl rfl T rfl T (by rfl) (by decide) (by exact⟨SV.aa _,imp_nil,SV.aa _,imp_nil,trivial⟩) fD<|an (s:=.row _) rfl<|dn<|qq<|sr<|mv rfl<|mv rfl<|lE h fun fB fT h=>ln rfl fT<|mv rfl<|lE h fun dA fE h=>ln rfl fE ?_
 refine lE h fun gu iQ h=>RT.min .none _ rfl rfl T (E7 (p:=fB) (q:=dA) iQ)<|bE h fun eT jD h=>RT.wP .none 0 gu rfl rfl ⟨_,rfl⟩ T jD<|lE h fun ek gV h=>ln rfl gV<|mv rfl<|dn<|bh (c8 (i:=10) (E1:=43) (n:=4) (e:=eQ) (l:=dm) rfl)<|bE h fun Lg BT xR=>?_
 refine aV (fun(Ll:(List Qr))=>AS.bG 39 [(5,.sv (slc 4 (List.map eQ Ll)))] [] []) (fun Ll=>Ll=Lg) ?_ (fun Ll BU=>?_)
 refine ak ?_
 refine aW BT (fun zZ=>AS.bG 39 [(0,.sv (slc 4 (List.map eQ x0))),(5,.sv (slc 4 (List.map eQ zZ.1))),(17,.sv (slc 1 (List.map (eS 4 eQ) eT))),(18,.sv (.v (.int .i64 ek))),(19,.sv (.v (.int .i64 zZ.2)))] [] []) (wR []) (fun zZ Zg Zh h BV y5=>?_)
 obtain⟨vK,Cz⟩:=zZ
 try dsimp only
 refine sr<|lE h fun gB lM h=>ls _ rfl rfl lM<|dn<|qq ?_
 cases gB
 refine cF<|aZ<|ae.x<|ae.x<|aG.x<|ae.n ?_
 obtain rfl:=O (F h)
 exact⟨vK,y5 _ rfl,wR []⟩
 refine cT<|aE<|ae.n<|qq<|ak<|sr<|mv rfl<|bE (V h) fun iP mD h=>ix rfl rfl mD<|lr rfl rfl<|ag rfl<|ag rfl<|dn<|sr<|mv rfl<|mv rfl ?_
 obtain⟨⟨⟨sV,sW⟩,⟨sX,sY⟩⟩,nT,h⟩:=bS h
 refine ix rfl rfl nT<|RT.gD (cs:=[_,_,_,_]) .none rfl T rfl rfl<|bE h fun mN rY h=>cl (fI rY) ⟨rfl,trivial⟩<|lE h fun gH iT h=>ne _ rfl rfl (Gk (p:=mN) (q:=0) iT)<|dn ?_
 refine aF h (fun j12=>AS.bG 39 [(0,.sv (slc 4 (List.map eQ x0))),(5,.sv (slc 4 (List.map eQ j12))),(17,.sv (slc 1 (List.map (eS 4 eQ) eT))),(18,.sv (.v (.int .i64 ek))),(19,.sv (.v (.int .i64 Cz)))] [] []) (fun h=>?_) (fun Oi h=>?_)
 cases gH
 exact fs<|⟨vK,(F h),wR []⟩
 refine cT<|af<|mv rfl<|mv rfl ?_
 obtain⟨⟨⟨kX,kC⟩,⟨nu,nv⟩⟩,kz,h⟩:=bS (V h)
 exact ix rfl rfl kz<|RT.gD (cs:=[_,_,_,_]) .none rfl T rfl rfl<|mv rfl<|mv rfl<|bE h fun oC pL h=>cl (mR pL) ⟨rfl,rfl,rfl,trivial⟩<|ag rfl<|dn<|⟨oC,h,wR []⟩
 try dsimp only
 refine aG.n<|ae.n<|af<|lE h fun tf xU h=>ad _ rfl rfl xU<|mv rfl<|RT.done ?_
 obtain rfl:=O h
 exact ae.n ⟨(Oi,tf),BV _ rfl,wR []⟩
 subst BU
 try dsimp only
 refine ae.n<|sr<|mv rfl<|ag rfl<|dn<|aj ?_
 obtain rfl:=O xR
 exact R1 rfl
end Go.Proofs.YtningmnklfpfjaaGreat
namespace Go.Fw
open Go.RowKit
theorem Oj{α:Type}{e:α→List SV}{l:List α}{n:Nat}{s t:SV}{r:List SV}{M:Mem}{v:Value}(h:(ref (s::t::slc n (l.map e)::r)).h M v):l.length≤9223372036854775807:=by
 obtain⟨b,o,_,h⟩:=h
 obtain⟨y,_,_,h⟩:=h 2 _ rfl
 exact JS h
theorem Jg{α β:Type}(a:List α)(b:List β)(i:Nat)(h:i≤a.length):(i<a.length∧i<b.length)∨(i<a.length∧b.length≤i)∨i=a.length:=by omega
class St4 (P:Program) (T:TypeId) (I:outParam TypeId):Prop where
 fs:(match P.underlying T with|some (.struct fs)=>(match fs.toList with|[f1,f2,f3,f4]=>(decide (f1.type=I)&&decide (f1.offset=0)&&decide (f1.name≠ "_"))&&(decide (f2.type=I)&&decide (f2.offset=1)&&decide (f2.name≠ "_"))&&(decide (f3.type=I)&&decide (f3.offset=2)&&decide (f3.name≠ "_"))&&(decide (f4.type=I)&&decide (f4.offset=3)&&decide (f4.name≠ "_"))|_=>false)|_=>false)=true
 hp:P.stoodInHeld T=false
 hI:P.underlying I=some (.int .i64)
 hg:P.eqGuardType P.depth T=false
theorem St4.ex{P:Program}{T I:TypeId}(h:St4 P T I):∃f1 f2 f3 f4:Field,P.underlying T=some (.struct #[f1,f2,f3,f4])∧(f1.type=I∧f1.offset=0∧f1.name≠ "_")∧(f2.type=I∧f2.offset=1∧f2.name≠ "_")∧(f3.type=I∧f3.offset=2∧f3.name≠ "_")∧(f4.type=I∧f4.offset=3∧f4.name≠ "_"):=by
 have h1:=h.fs
 cases hu:P.underlying T with
 |none=>rw[hu]at h1;cases h1
 |some d=>
  rw[hu]at h1
  cases d with
  |struct fs=>
   obtain⟨l⟩:=fs
   match l,h1 with
   |[f1,f2,f3,f4],h1=>
    simp only[Bool.and_eq_true,decide_eq_true_eq]at h1
    obtain⟨⟨⟨⟨⟨a1,a2⟩,a3⟩,⟨⟨b1,b2⟩,b3⟩⟩,⟨⟨c1,c2⟩,c3⟩⟩,⟨⟨d1,d2⟩,d3⟩⟩:=h1
    exact⟨f1,f2,f3,f4,rfl,⟨a1,a2,a3⟩,⟨b1,b2,b3⟩,⟨c1,c2,c3⟩,⟨d1,d2,d3⟩⟩
  |_=>cases h1
section steps
variable {P:Program}{C:Ctx}{ops:Array Oper}{S:AS}{nd:Bool}{K:List Ac→AS→Prop}{rest:List Oper}{acc:List Ac}
variable {gd:Option (Nat×Bool)}{rg:List Nat}{d:Nat}{ty:TypeId}{pos:String}{aft:Array Edge}{x y z:Operand}{T U E0:TypeId}
end steps
end Go.Fw
namespace Go.Fw
open Go.RowKit
def kS:List (Nat×Row×Value)→(Nat→Value)→Nat→Value
 |[],ν,j=>ν j
 |(k,_,v)::l,ν,j=>if j=k then v else kS l ν j
theorem nI{ν:Nat→Value}:∀{l:List (Nat×Row×Value)} {j:Nat},(∀R v,(j,R,v)∉l)→kS l ν j=ν j
 |[],_,_=>rfl
 |(k,R,v)::l,j,h=>by
  have:j≠k:=fun e=>h R v (by rw[e];simp)
  rw[kS,if_neg this]
  exact nI (fun R v hm=>h R v (List.mem_cons_of_mem _ hm))
theorem iU{ν:Nat→Value}:∀{l:List (Nat×Row×Value)} {j:Nat} {R:Row} {v:Value},(l.map (·.1)).Nodup→(j,R,v)∈l→kS l ν j=v
 |(k,R',v')::l,j,R,v,hn,h=>by
  rw[List.map_cons,List.nodup_cons]at hn
  rcases List.mem_cons.1 h with e|e
  ·cases e;rw[kS,if_pos rfl]
  ·have:j≠k:=fun q=>hn.1 (List.mem_map.2 ⟨(j,R,v),e,q⟩)
   rw[kS,if_neg this];exact iU hn.2 e
def xZ(olds:List Nat)(news:List (Nat×Row×Value)):List (Nat×lq):=olds.map (fun j=>(j,.dead))++news.map (fun n=>(n.1,.live n.2.1))
theorem sw:∀(l k:List (Nat×lq)) (j:Nat),di (l++k) j=match di k j with|some R=>some R|none=>di l j
 |[],k,j=>by cases h:di k j<;>simp[h,di]
 |(i,R)::l,k,j=>by
  rw[List.cons_append,di,di,sw l k j]
  cases h:di k j<;>simp
theorem w8{l:List (Nat×lq)}{j:Nat}(h:∀R,(j,R)∉l):di l j=none:=by
 induction l with
 |nil=>rfl
 |cons p l ih=>
  obtain⟨i,R⟩:=p
  rw[di,ih (fun R hm=>h R (List.mem_cons_of_mem _ hm))]
  have:j≠i:=fun e=>h R (by rw[e];simp)
  simp[this]
theorem w9{l:List (Nat×lq)}{j:Nat}{R:lq}(h:di l j=some R):(j,R)∈l:=by
 induction l with
 |nil=>cases h
 |cons p l ih=>
  obtain⟨i,R'⟩:=p
  rw[di]at h
  cases e:di l j with
  |some R2=>rw[e]at h;cases h;exact List.mem_cons_of_mem _ (ih e)
  |none=>
   rw[e]at h
   by_cases q:j=i
   ·subst q;simp at h;subst h;simp
   ·simp[q]at h
theorem CB{l:List (Nat×lq)}{j:Nat}{R:lq}(h:(j,R)∈l):∃R',di l j=some R':=by
 induction l with
 |nil=>cases h
 |cons p l ih=>
  obtain⟨i,R'⟩:=p
  rw[di]
  rcases List.mem_cons.1 h with e|e
  ·cases e
   cases q:di l j with
   |some R2=>exact⟨R2,rfl⟩
   |none=>exact⟨R,by simp⟩
  ·obtain⟨R2,h2⟩:=ih e
   exact⟨R2,by rw[h2]⟩
section swap
variable {C:Ctx}{S:AS}
theorem az.ZF{E:Env}{a:Act}{w w':World}(h:az C S E a w){i:Nat}{T:TypeId}{cells cells':List AV}{us':List Value}{M':Mem}(hB:S.b i=some ⟨T,cells⟩)(olds:List Nat)(news:List (Nat×Row×Value))
  (hold:∀j∈olds,∃R,S.r j=.live R) (hnew:∀k R v,(k,R,v)∈news→S.r k=.un∧k<1000) (hnd:(news.map (·.1)).Nodup)
  (hM:E.M.le M') (hmn:∀b o x,M' b o=some x→E.M b o=some x∨w.heap.size≤b∨∃j∈olds,(E.ν j).ownBlock=some b) (hin:M'.cM w')
  (adJ:w'.heap[E.β i]? =some (.cells ⟨us'⟩ T (0,0))) (hnb:∀o,M' (E.β i) o=none) (wI:cO {E with M:=M',ν:=kS news E.ν} cells' us')
  (hcb:∀x∈cells',(∀j,¬x.mb j)∧∀j,x.mr j→∃R v,(j,R,v)∈news)
  (hrow:∀k R v,(k,R,v)∈news→(∃vs:List Value,w'.ownsRow 0 R.E R.sz v R.n vs∧SV.dR M' R.cells vs)∧∀g,v.ownBlock=some g→((∃j∈olds,(E.ν j).ownBlock=some g)∨w.heap.size≤g)∧(∀o,M' g o=none)∧g≠E.β i)
  (ZG:∀k R v k' R' v' g,(k,R,v)∈news→(k',R',v')∈news→v.ownBlock=some g→v'.ownBlock=some g→k=k')
  (hos:w'.os=w.os) (qQ:w'.tape=w.tape) (hout:w'.output=w.output) (hsize:w.heap.size≤w'.heap.size)
  (kQ:∀k,k<w.heap.size→k≠E.β i→(∀j∈olds,(E.ν j).ownBlock≠some k)→w'.heap[k]? =w.heap[k]?):
  az C (AS.bA (xZ olds news) (AS.fg [(i,⟨T,cells'⟩)] S)) {E with M:=M',ν:=kS news E.ν} a w':=by
 obtain⟨Ln,adK,Q3,LZ,Lo,_⟩:=h.bx i _ hB
 have agV:E.β i<w.heap.size:=(Array.getElem?_eq_some_iff.1 Lo).1
 obtain⟨n1,n2,n3,n4,n5⟩:=eM (xZ olds news) (AS.fg [(i,⟨T,cells'⟩)] S)
 have tOf:(AS.bA (xZ olds news) (AS.fg [(i,⟨T,cells'⟩)] S)).t=S.t:=n2
 have Af:∀j,(AS.bA (xZ olds news) (AS.fg [(i,⟨T,cells'⟩)] S)).b j=if j=i then some ⟨T,cells'⟩else S.b j:=fun j=>by
  rw[n3]
  by_cases e:j=i
  ·subst e;rw[if_pos rfl];exact AS.cx _ _ _
  ·rw[if_neg e];exact AS.bk _ _ _ _ e
 have ZH:∀k R v,(k,R,v)∈news→di (news.map (fun n=>(n.1,lq.live n.2.1))) k=some (.live R):=fun k R v hm=>by
  obtain⟨R',oB⟩:=CB (l:=news.map (fun n=>(n.1,lq.live n.2.1))) (j:=k) (R:=.live R) (List.mem_map.2 ⟨(k,R,v),hm,rfl⟩)
  obtain⟨⟨k2,R2,v2⟩,Mc,e⟩:=List.mem_map.1 (w9 oB)
  have e1:k2=k:=congrArg Prod.fst e
  have e2:lq.live R2=R':=congrArg Prod.snd e
  rw[e1]at Mc
  have:R2=R:=by
   have key:∀(l:List (Nat×Row×Value)),(l.map (·.1)).Nodup→(k,R2,v2)∈l→(k,R,v)∈l→R2=R:=by
    intro l
    induction l with
    |nil=>intro _ h;cases h
    |cons p l ih=>
     intro hn h1 h2
     rw[List.map_cons,List.nodup_cons]at hn
     rcases List.mem_cons.1 h1 with e1|e1<;>rcases List.mem_cons.1 h2 with e2|e2
     ·rw[←e1]at e2;cases e2;rfl
     ·exact absurd (List.mem_map.2 ⟨_,e2,by rw[←e1]⟩) hn.1
     ·exact absurd (List.mem_map.2 ⟨_,e1,by rw[←e2]⟩) hn.1
     ·exact ih hn.2 e1 e2
   exact key news hnd Mc hm
  rw[oB,←e2,this]
 have ZI:∀k R v,(k,R,v)∈news→(AS.bA (xZ olds news) (AS.fg [(i,⟨T,cells'⟩)] S)).r k=.live R:=fun k R v hm=>by
  rw[kK,xZ,sw,ZH k R v hm];rfl
 have ZJ:∀j,(∀R v,(j,R,v)∉news)→(AS.bA (xZ olds news) (AS.fg [(i,⟨T,cells'⟩)] S)).r j=if j∈olds then .dead else S.r j:=fun j hn=>by
  have e1:di (news.map (fun n=>(n.1,lq.live n.2.1))) j=none:=w8 (fun R hm=>by
   obtain⟨⟨k2,R2,v2⟩,Mc,e⟩:=List.mem_map.1 hm
   cases e;exact hn R2 v2 Mc)
  rw[kK,xZ,sw,e1]
  by_cases ho:j∈olds
  ·rw[if_pos ho]
   obtain⟨R',oB⟩:=CB (l:=olds.map (fun j=>(j,lq.dead))) (j:=j) (R:=.dead) (List.mem_map.2 ⟨j,ho,rfl⟩)
   obtain⟨j2,_,e⟩:=List.mem_map.1 (w9 oB)
   cases e
   rw[oB];rfl
  ·rw[if_neg ho,w8 (fun R hm=>by obtain⟨j2,Mc,e⟩:=List.mem_map.1 hm;cases e;exact ho Mc)];rfl
 have Ol:∀j,S.r j≠ .un→∀R v,(j,R,v)∉news:=fun j hj R v hm=>hj (hnew j R v hm).1
 have rne:∀j,S.r j≠ .un→(AS.bA (xZ olds news) (AS.fg [(i,⟨T,cells'⟩)] S)).r j≠ .un:=fun j hj=>by
  rw[ZJ j (Ol j hj)]
  split
  ·simp
  ·exact hj
 have zx:∀j∈olds,∀g,(E.ν j).ownBlock=some g→(C.w0.heap.size≤g∨C.vc g)∧(∀o,E.M g o=none)∧¬E.O g∧(∀n B,S.b n=some B→E.β n≠g)∧g<w.heap.size∧∃c e,w.heap[g]? =some (Obj.cells c e (0,0)):=fun j hj g hg=>by
  obtain⟨R,hR⟩:=hold j hj
  obtain⟨⟨us,q1,_⟩,q2⟩:=h.rx j R hR
  obtain⟨q3,q4,q5,q6⟩:=q2 g hg
  refine⟨q3,q4,q5,q6,jw h hR hg,?_⟩
  rcases q1.2 with⟨q7,_⟩|⟨g',cap,cur,q7,_,q8,_⟩
  ·rw[q7]at hg;cases hg
  ·rw[q7]at hg;cases hg;exact⟨_,_,q8⟩
 have keep:∀x:AV,(∀j,x.mr j→S.r j≠ .un)→∀v,x.holds E v→x.holds {E with M:=M',ν:=kS news E.ν} v:=fun x hx v hv=>
  AV.cc (E:=E) (E':={E with M:=M',ν:=kS news E.ν}) hM (fun _ _=>rfl) (fun j hj=>nI (Ol j (hx j hj))) hv
 have Wh:∀b,b<w.heap.size→(∀o,E.M b o=none)→(∀j∈olds,(E.ν j).ownBlock≠some b)→∀o,M' b o=none:=fun b h1 h2 h3 o=>by
  cases e:M' b o with
  |none=>rfl
  |some v=>
   rcases hmn b o v e with q|q|⟨j,q1,q2⟩
   ·rw[h2 o]at q;cases q
   ·omega
   ·exact absurd q2 (h3 j q1)
 have live:∀j R,(AS.bA (xZ olds news) (AS.fg [(i,⟨T,cells'⟩)] S)).r j=.live R→(∃v,(j,R,v)∈news)∨((∀R v,(j,R,v)∉news)∧j∉olds∧S.r j=.live R):=fun j R hj=>by
  by_cases hn:∃R v,(j,R,v)∈news
  ·obtain⟨R',v,hm⟩:=hn
   rw[ZI j R' v hm]at hj;cases hj;exact .inl ⟨v,hm⟩
  ·have hn:∀R v,(j,R,v)∉news:=fun R v hm=>hn ⟨R,v,hm⟩
   rw[ZJ j hn]at hj
   by_cases ho:j∈olds
   ·rw[if_pos ho]at hj;cases hj
   ·rw[if_neg ho]at hj;exact .inr ⟨hn,ho,hj⟩
 have ZK:∀j R,S.r j=.live R→j∉olds→∀g,(E.ν j).ownBlock=some g→∀j'∈olds,(E.ν j').ownBlock≠some g:=fun j R hR ho g hg j' hj' e=>by
  obtain⟨R',oB⟩:=hold j' hj'
  have:=h.ff j j' R R' hR oB g hg e
  subst this;exact ho hj'
 exact{
  wf:=by
   refine⟨fun s j hj=>?_,fun s j hj=>?_,fun j B fj x hx m hm=>?_,fun j B fj x hx m hm=>?_⟩
   ·rw[tOf]at hj
    obtain⟨B,fj⟩:=h.wf.tb s j hj
    rw[Af]
    by_cases e:j=i
    ·exact⟨_,if_pos e⟩
    ·exact⟨B,by rw[if_neg e];exact fj⟩
   ·rw[tOf]at hj
    exact rne j (h.wf.tr s j hj)
   ·rw[Af]at fj⊢
    by_cases e:j=i
    ·rw[if_pos e]at fj;cases fj;exact absurd hm ((hcb x hx).1 m)
    ·rw[if_neg e]at fj
     obtain⟨B2,hB2⟩:=h.wf.bb j B fj x hx m hm
     by_cases e2:m=i
     ·exact⟨_,if_pos e2⟩
     ·exact⟨B2,by rw[if_neg e2];exact hB2⟩
   ·rw[Af]at fj
    by_cases e:j=i
    ·rw[if_pos e]at fj;cases fj
     obtain⟨R,v,Mc⟩:=(hcb x hx).2 m hm
     rw[ZI m R v Mc];simp
    ·rw[if_neg e]at fj;exact rne m (h.wf.br j B fj x hx m hm)
  marks:=by
   obtain⟨ds,d1,d2,d3⟩:=h.marks
   refine⟨ds,d1,d2,fun r hr=>?_⟩
   obtain⟨p1,p2,p3⟩:=d3 r hr
   refine⟨p1,p2,?_⟩
   rw[kQ r (Array.getElem?_eq_some_iff.1 p3).1 (fun e=>by rw[e,Lo]at p3;cases p3) (fun j hj e=>by
    obtain⟨_,_,_,_,_,c,e2,q⟩:=zx j hj r e
    rw[q]at p3;cases p3)]
   exact p3
  size:=by rw[n1];exact h.size
  os:=hos.trans h.os
  tape:=qQ.trans h.tape
  output:=hout.trans h.output
  grown:=Nat.le_trans h.grown hsize
  frame:=fun k hk hown=>by
   rw[kQ k (Nat.lt_of_lt_of_le hk h.grown) (fun e=>by
    rcases Ln with q|q
    ·omega
    ·exact hown (C.Dk _ (by rw[e];exact q))) (fun j hj e=>by
    rcases(zx j hj k e).1 with q|q
    ·omega
    ·exact hown (C.Dk _ q))]
   exact h.frame k hk hown
  m0:=Mem.le_trans h.m0 hM
  ez:=fun b o v e=>by
   rcases hmn b o v e with q|q|⟨j,q1,q2⟩
   ·exact h.ez b o v q
   ·exact .inr (.inl (Nat.le_trans h.grown q))
   ·rcases(zx j q1 b q2).1 with q|q
    ·exact .inr (.inl q)
    ·exact .inr (.inr (C.Dk _ q))
  cM:=hin
  tm:=fun s=>by rw[tOf];exact keep _ (h.wf.tr s) _ (h.tm s)
  bx:=fun j B fj=>by
   rw[Af]at fj
   by_cases e:j=i
   ·rw[if_pos e]at fj;cases fj;subst e
    exact⟨Ln,hnb,Q3,us',adJ,wI⟩
   ·rw[if_neg e]at fj
    obtain⟨p1,p2,p3,vs,p4,p5⟩:=h.bx j B fj
    have hlt:=(Array.getElem?_eq_some_iff.1 p4).1
    have hno:∀j'∈olds,(E.ν j').ownBlock≠some (E.β j):=fun j' hj' q=>(zx j' hj' _ q).2.2.2.1 j B fj rfl
    refine⟨p1,Wh _ hlt p2 hno,p3,vs,?_,p5.imp (fun x hx v hv=>keep x (h.wf.br j B fj x hx) v hv)⟩
    show w'.heap[E.β j]? =_
    rw[kQ _ hlt (fun q=>e (h.inj j i B _ fj hB q)) hno];exact p4
  inj:=fun j j' B B' h1 h2 e=>by
   have key:∀n B,(AS.bA (xZ olds news) (AS.fg [(i,⟨T,cells'⟩)] S)).b n=some B→∃B',S.b n=some B':=fun n B hn=>by
    rw[Af]at hn
    by_cases e:n=i
    ·subst e;exact⟨_,hB⟩
    ·rw[if_neg e]at hn;exact⟨B,hn⟩
   obtain⟨B1,p1⟩:=key j B h1
   obtain⟨B2,p2⟩:=key j' B' h2
   exact h.inj j j' B1 B2 p1 p2 e
  rx:=fun j R hj=>by
   have boxes:∀g,(∀n B,S.b n=some B→E.β n≠g)→∀n B,(AS.bA (xZ olds news) (AS.fg [(i,⟨T,cells'⟩)] S)).b n=some B→E.β n≠g:=fun g hg n B hn=>by
    rw[Af]at hn
    by_cases e:n=i
    ·subst e;exact hg _ _ hB
    ·rw[if_neg e]at hn;exact hg n B hn
   rcases live j R hj with⟨v,hm⟩|⟨hn,ho,hR⟩
   ·rw[show({E with M:=M',ν:=kS news E.ν}:Env).ν j=v from iU hnd hm]
    obtain⟨p1,p2⟩:=hrow j R v hm
    refine⟨p1,fun g hg=>?_⟩
    obtain⟨p3,p4,p5⟩:=p2 g hg
    rcases p3 with⟨j',q1,q2⟩|p3
    ·obtain⟨o1,o2,o3,o4,_⟩:=zx j' q1 g q2
     exact⟨o1,p4,o3,boxes g o4⟩
    ·refine⟨.inl (Nat.le_trans h.grown p3),p4,fun q=>?_,boxes g (fun n B hn q=>?_)⟩
     ·have:=(h.kV g q).1;omega
     ·obtain⟨_,_,_,vs,q4,_⟩:=h.bx n B hn
      have:=(Array.getElem?_eq_some_iff.1 q4).1
      omega
   ·rw[show({E with M:=M',ν:=kS news E.ν}:Env).ν j=E.ν j from nI hn]
    obtain⟨⟨us,p1,p2⟩,p3⟩:=h.rx j R hR
    refine⟨⟨us,cX p1 fun g hg=>kQ g (jw h hR hg) (fun e=>(p3 g hg).2.2.2 i _ hB e.symm) (ZK j R hR ho g hg),p2.mono hM⟩,fun g hg=>?_⟩
    obtain⟨p4,p5,p6,p7⟩:=p3 g hg
    exact⟨p4,Wh g (jw h hR hg) p5 (ZK j R hR ho g hg),p6,boxes g p7⟩
  ff:=fun j j' R R' h1 h2 g e1 e2=>by
   have mixed:∀j R v j' R' g,(j,R,v)∈news→S.r j'=.live R'→j'∉olds→v.ownBlock=some g→(E.ν j').ownBlock=some g→False:=fun j R v j' R' g hm oB ho e1 e2=>by
    rcases((hrow j R v hm).2 g e1).1 with⟨j2,q1,q2⟩|q
    ·exact ZK j' R' oB ho g e2 j2 q1 q2
    ·have:=jw h oB e2;omega
   rcases live j R h1 with⟨v,hm⟩|⟨hn,ho,hR⟩<;>rcases live j' R' h2 with⟨v',hm'⟩|⟨hn',ho',oB⟩
   ·rw[show({E with M:=M',ν:=kS news E.ν}:Env).ν j=v from iU hnd hm]at e1
    rw[show({E with M:=M',ν:=kS news E.ν}:Env).ν j'=v' from iU hnd hm']at e2
    exact ZG j R v j' R' v' g hm hm' e1 e2
   ·rw[show({E with M:=M',ν:=kS news E.ν}:Env).ν j=v from iU hnd hm]at e1
    rw[show({E with M:=M',ν:=kS news E.ν}:Env).ν j'=E.ν j' from nI hn']at e2
    exact(mixed j R v j' R' g hm oB ho' e1 e2).elim
   ·rw[show({E with M:=M',ν:=kS news E.ν}:Env).ν j=E.ν j from nI hn]at e1
    rw[show({E with M:=M',ν:=kS news E.ν}:Env).ν j'=v' from iU hnd hm']at e2
    exact(mixed j' R' v' j R g hm' hR ho e2 e1).elim
   ·rw[show({E with M:=M',ν:=kS news E.ν}:Env).ν j=E.ν j from nI hn]at e1
    rw[show({E with M:=M',ν:=kS news E.ν}:Env).ν j'=E.ν j' from nI hn']at e2
    exact h.ff j j' R R' hR oB g e1 e2
  gQ:=h.gQ
  dS:=fun k v e=>by
   rw[show({E with M:=M',ν:=kS news E.ν}:Env).ν k=E.ν k from nI (fun R v hm=>by have:=(hnew k R v hm).2;have:=C.KO k _ e;omega)]
   exact h.dS k v e
  kV:=fun b hb=>by
   obtain⟨p1,p2,p3⟩:=h.kV b hb
   exact⟨Nat.lt_of_lt_of_le p1 hsize,Wh b p1 p2 (fun j hj e=>(zx j hj b e).2.2.1 hb),p3⟩
  jj:=by
   have hj:=C.jf S.g S.go E.O E.M M' w w' h.jj hM hin (fun b o v e=>by
    rcases hmn b o v e with q|q|⟨j,q1,q2⟩
    ·exact .inl q
    ·exact .inr ⟨.inl (Nat.le_trans h.grown q),fun q2=>by have:=(h.kV b q2).1;omega⟩
    ·obtain⟨o1,_,o3,_⟩:=zx j q1 b q2
     exact .inr ⟨o1,o3⟩) (fun b hb=>by
    have hlt:b<w.heap.size∨w.heap.size≤b:=Nat.lt_or_ge _ _
    have hb':b<w.heap.size:=by
     rcases hb with⟨q,_⟩|q
     ·exact Nat.lt_of_lt_of_le q h.grown
     ·exact(h.kV b q).1
    refine kQ b hb' (fun e=>?_) (fun j hj e=>?_)
    ·subst e
     rcases hb with⟨q1,q2⟩|q
     ·rcases Ln with p|p
      ·omega
      ·exact q2 p
     ·exact Q3 q
    ·obtain⟨o1,_,o3,_⟩:=zx j hj b e
     rcases hb with⟨q1,q2⟩|q
     ·rcases o1 with p|p
      ·omega
      ·exact q2 p
     ·exact o3 q) hos qQ hout hsize
   rw[n4,n5];exact hj}
end swap
end Go.Fw
namespace Go.Fw
open Go.RowKit
inductive Oc where
 |s (x:SV)
 |r (R:Row)
def oU(M:Mem)(w:World):List Oc→List Value→Prop
 |[],[]=>True
 |.s x::l,v::vs=>x.h M v∧oU M w l vs
 |.r R::l,v::vs=>(∃us:List Value,w.ownsRow 0 R.E R.sz v R.n us∧SV.dR M R.cells us)∧oU M w l vs
 |_,_=>False
def rowsOf:List Oc→List Row
 |[]=>[]
 |.s _::l=>rowsOf l
 |.r R::l=>R::rowsOf l
def bz:List Oc→List Value→List (Row×Value)
 |.s _::l,_::vs=>bz l vs
 |.r R::l,v::vs=>(R,v)::bz l vs
 |_,_=>[]
def dU(c:List Oc)(us:List Value)(g:Nat):Prop:=∃p∈bz c us,p.2.ownBlock=some g
def bN:List Nat→List Oc→List AV
 |ids,.s x::l=>.sv x::bN ids l
 |i::ids,.r _::l=>.row i::bN ids l
 |[],.r _::l=>.sv .any::bN [] l
 |_,[]=>[]
def Ho(l:List (Row×Value)):Prop:=l.Pairwise fun p q=>∀g,p.2.ownBlock=some g→q.2.ownBlock≠some g
structure pX (M:Mem) (w:World) (β:Nat) (T:TypeId) (c:List Oc) (us:List Value):Prop where
 hp:w.heap[β]? =some (.cells ⟨us⟩ T (0,0))
 al:oU M w c us
 nb:∀o,M β o=none
 nr:∀g,dU c us g→g≠β∧∀o,M g o=none
 ap:Ho (bz c us)
theorem iA{M:Mem}{w:World}:∀{c:List Oc} {us:List Value},oU M w c us→(bz c us).map (·.1)=rowsOf c
 |[],[],_=>rfl
 |.s _::l,_::vs,h=>iA (c:=l) (us:=vs) h.2
 |.r R::l,v::vs,h=>congrArg (R:: ·) (iA (c:=l) (us:=vs) h.2)
 |[],_::_,h=>h.elim
 |.s _::_,[],h=>h.elim
 |.r _::_,[],h=>h.elim
theorem kT{M:Mem}{w:World}:∀{c:List Oc} {us:List Value},oU M w c us→∀p∈bz c us,∃vs:List Value,w.ownsRow 0 p.1.E p.1.sz p.2 p.1.n vs∧SV.dR M p.1.cells vs
 |[],[],_,p,hp=>by cases hp
 |.s _::l,_::vs,h,p,hp=>kT (c:=l) (us:=vs) h.2 p hp
 |.r R::l,v::vs,h,p,hp=>by
  rcases List.mem_cons.1 hp with rfl|hp
  ·exact h.1
  ·exact kT (c:=l) (us:=vs) h.2 p hp
 |[],_::_,h,_,_=>h.elim
 |.s _::_,[],h,_,_=>h.elim
 |.r _::_,[],h,_,_=>h.elim
theorem jt{α β:Type}:∀{l:List α} {k:List β} {a:α} {b:β},(a,b)∈l.zip k→a∈l∧b∈k
 |_::_,_::_,_,_,h=>by
  rw[List.zip_cons_cons]at h
  rcases List.mem_cons.1 h with e|e
  ·cases e;simp
  ·have:=jt e;exact⟨List.mem_cons_of_mem _ this.1,List.mem_cons_of_mem _ this.2⟩
 |[],_,_,_,h=>by simp at h
 |_::_,[],_,_,h=>by simp at h
theorem AZ{α β:Type}:∀{l:List α} {k:List β},l.length=k.length→(l.zip k).map (·.1)=l
 |[],[],_=>rfl
 |_::l,_::k,h=>by rw[List.zip_cons_cons,List.map_cons,AZ (by simpa using h)]
 |[],_::_,h=>by simp at h
 |_::_,[],h=>by simp at h
theorem zy:∀{ids:List Nat} {l:List (Row×Value)},ids.Nodup→Ho l→∀k R v k' R' v' g,(k,R,v)∈ids.zip l→(k',R',v')∈ids.zip l→v.ownBlock=some g→v'.ownBlock=some g→k=k'
 |i::ids,p::l,hn,ha,k,R,v,k',R',v',g,h1,h2,e1,e2=>by
  rw[List.zip_cons_cons]at h1 h2
  rw[List.nodup_cons]at hn
  obtain⟨ha1,ha2⟩:=List.pairwise_cons.1 ha
  rcases List.mem_cons.1 h1 with q1|q1<;>rcases List.mem_cons.1 h2 with q2|q2
  ·cases q1;cases q2;rfl
  ·cases q1;exact absurd e2 (ha1 (R',v') (jt q2).2 g e1)
  ·cases q2;exact absurd e1 (ha1 (R,v) (jt q1).2 g e2)
  ·exact zy hn.2 ha2 k R v k' R' v' g q1 q2 e1 e2
 |[],_,_,_,_,_,_,_,_,_,_,h1,_,_,_=>by simp at h1
 |_::_,[],_,_,_,_,_,_,_,_,_,h1,_,_,_=>by simp at h1
theorem oV{E:Env}{w:World}:∀{ids:List Nat} {c:List Oc} {us:List Value},ids.length=(rowsOf c).length→oU E.M w c us→(∀i p,(i,p)∈ids.zip (bz c us)→E.ν i=p.2)→cO E (bN ids c) us
 |ids,[],[],_,_,_=>by cases ids<;>exact trivial
 |ids,.s x::l,v::vs,hl,h,hv=>by
  have ih:=oV (E:=E) (w:=w) (ids:=ids) (c:=l) (us:=vs) hl h.2 hv
  cases ids<;>exact⟨h.1,ih⟩
 |i::ids,.r R::l,v::vs,hl,h,hv=>by
  refine⟨(hv i (R,v) (by rw[bz,List.zip_cons_cons];simp)).symm,oV (w:=w) (ids:=ids) (c:=l) (us:=vs) (by simpa[rowsOf]using hl) h.2 (fun j p hm=>hv j p ?_)⟩
  rw[bz,List.zip_cons_cons];exact List.mem_cons_of_mem _ hm
 |[],.r R::l,_::_,hl,_,_=>by simp[rowsOf]at hl
 |_,[],_::_,_,h,_=>h.elim
 |_,.s _::_,[],_,h,_=>h.elim
 |_,.r _::_,[],_,h,_=>h.elim
theorem oW:∀{ids:List Nat} {c:List Oc} (x:AV),x∈bN ids c→(∀j,¬x.mb j)∧∀j,x.mr j→j∈ids
 |ids,[],x,h=>by cases ids<;>simp[bN]at h
 |ids,.s y::l,x,h=>by
  have h':x∈AV.sv y::bN ids l:=by cases ids<;>exact h
  rcases List.mem_cons.1 h' with rfl|h'
  ·exact⟨fun j e=>e,fun j e=>e.elim⟩
  ·exact oW x h'
 |i::ids,.r _::l,x,h=>by
  rcases List.mem_cons.1 (show x∈AV.row i::bN ids l from h)with rfl|h'
  ·exact⟨fun j e=>e,fun j e=>by cases e;simp⟩
  ·obtain⟨h1,h2⟩:=oW x h'
   exact⟨h1,fun j e=>List.mem_cons_of_mem _ (h2 j e)⟩
 |[],.r _::l,x,h=>by
  rcases List.mem_cons.1 (show x∈AV.sv .any::bN [] l from h)with rfl|h'
  ·exact⟨fun j e=>e,fun j e=>e.elim⟩
  ·exact oW x h'
def Lv(S:AS):List Nat→List Row→Prop
 |[],[]=>True
 |j::js,R::Rs=>S.r j=.live R∧Lv S js Rs
 |_,_=>False
theorem Lv.len{S:AS}:∀{js:List Nat} {Rs:List Row},Lv S js Rs→js.length=Rs.length
 |[],[],_=>rfl
 |_::_,_::_,h=>congrArg (· +1) (Lv.len h.2)
 |[],_::_,h=>h.elim
 |_::_,[],h=>h.elim
theorem Lv.mem{S:AS}:∀{js:List Nat} {Rs:List Row},Lv S js Rs→∀j∈js,∃R,S.r j=.live R
 |j::js,R::Rs,h,k,hk=>by
  rcases List.mem_cons.1 hk with rfl|hk
  ·exact⟨R,h.1⟩
  ·exact Lv.mem h.2 k hk
 |[],_,_,k,hk=>by cases hk
 |_::_,[],h,_,_=>h.elim
theorem uB{C:Ctx}{S:AS}{E:Env}{a:Act}{w:World}(h:az C S E a w):∀{js:List Nat} {c:List Oc} {us:List Value},Lv S js (rowsOf c)→cO E (bN js c) us→oU E.M w c us∧bz c us=(rowsOf c).zip (js.map E.ν)
 |[],[],[],_,_=>⟨trivial,rfl⟩
 |js,.s x::l,v::vs,hL,hv=>by
  have vH:cO E (AV.sv x::bN js l) (v::vs):=by cases js<;>exact hv
  obtain⟨h1,h2⟩:=uB h (js:=js) (c:=l) (us:=vs) hL vH.2
  exact⟨⟨vH.1,h1⟩,h2⟩
 |j::js,.r R::l,v::vs,hL,hv=>by
  have hL:S.r j=.live R∧Lv S js (rowsOf l):=hL
  have vH:cO E (AV.row j::bN js l) (v::vs):=hv
  obtain⟨h1,h2⟩:=uB h (js:=js) (c:=l) (us:=vs) hL.2 vH.2
  have e:v=E.ν j:=vH.1
  obtain⟨q1,_⟩:=h.rx j R hL.1
  rw[←e]at q1
  refine⟨⟨q1,h1⟩,?_⟩
  rw[bz,h2,e];rfl
 |[],.r _::_,_,hL,_=>hL.elim
 |_::_,[],_,hL,_=>hL.elim
 |[],[],_::_,_,hv=>by simp[bN]at hv;exact hv.elim
 |js,.s x::l,[],_,hv=>by
  have vH:cO E (AV.sv x::bN js l) []:=by cases js<;>exact hv
  exact vH.elim
 |_::_,.r _::_,[],_,hv=>hv.elim
theorem uC{α β:Type}:∀{l:List α} {k:List β} {b:β},l.length=k.length→b∈k→∃a,(a,b)∈l.zip k
 |a::l,c::k,b,h,hb=>by
  rcases List.mem_cons.1 hb with rfl|hb
  ·exact⟨a,by rw[List.zip_cons_cons];simp⟩
  ·obtain⟨a',h'⟩:=uC (l:=l) (k:=k) (by simpa using h) hb
   exact⟨a',by rw[List.zip_cons_cons];exact List.mem_cons_of_mem _ h'⟩
 |[],[],_,_,hb=>by cases hb
 |[],_::_,_,h,_=>by simp at h
theorem qR{C:Ctx}{S:AS}{E:Env}{a:Act}{w:World}(h:az C S E a w){i:Nat}{T:TypeId}{js:List Nat}{c:List Oc}(hB:S.b i=some ⟨T,bN js c⟩)(hL:Lv S js (rowsOf c))(hn:js.Nodup):
  ∃us,pX E.M w (E.β i) T c us∧(∀g,dU c us g↔∃j∈js,(E.ν j).ownBlock=some g):=by
 obtain⟨_,q1,_,us,q2,q3⟩:=h.bx i _ hB
 obtain⟨p1,p2⟩:=uB h hL q3
 have hlen:=hL.len
 have EY:∀g,dU c us g↔∃j∈js,(E.ν j).ownBlock=some g:=fun g=>by
  unfold dU
  rw[p2]
  constructor
  ·rintro⟨⟨R,v⟩,hm,hg⟩
   obtain⟨j,hj,rfl⟩:=List.mem_map.1 (jt hm).2
   exact⟨j,hj,hg⟩
  ·rintro⟨j,hj,hg⟩
   obtain⟨R,hR⟩:=uC (l:=rowsOf c) (k:=js.map E.ν) (by simp[hlen]) (List.mem_map.2 ⟨j,hj,rfl⟩)
   exact⟨(R,E.ν j),hR,hg⟩
 refine⟨us,⟨q2,p1,q1,fun g hg=>?_,?_⟩,EY⟩
 ·obtain⟨j,hj,zT⟩:=(EY g).1 hg
  obtain⟨R,hR⟩:=hL.mem j hj
  obtain⟨_,q4⟩:=h.rx j R hR
  obtain⟨_,q5,_,q6⟩:=q4 g zT
  exact⟨fun e=>q6 i _ hB e.symm,q5⟩
 ·rw[p2]
  have key:∀(js:List Nat) (Rs:List Row),Lv S js Rs→js.Nodup→Ho (Rs.zip (js.map E.ν)):=by
   intro js
   induction js with
   |nil=>intro Rs hL _;cases Rs with|nil=>exact List.Pairwise.nil|cons _ _=>exact hL.elim
   |cons j js ih=>
    intro Rs hL hn
    cases Rs with
    |nil=>exact hL.elim
    |cons R Rs=>
     rw[List.nodup_cons]at hn
     rw[List.map_cons,List.zip_cons_cons]
     refine List.pairwise_cons.2 ⟨fun p hp g e1 e2=>?_,ih Rs hL.2 hn.2⟩
     obtain⟨R',v'⟩:=p
     obtain⟨j',hj',rfl⟩:=List.mem_map.1 (jt hp).2
     obtain⟨R2,hR2⟩:=hL.2.mem j' hj'
     have:=h.ff j j' R R2 hL.1 hR2 g e1 e2
     subst this;exact hn.1 hj'
  exact key js _ hL hn
def oX(M:Mem)(β:Nat):Env:=⟨fun _=>β,fun _=>.nilIface,fun _=>False,M⟩
def Fc.oy:Fc→Bool
 |.val _=>true
 |.box i=>Nat.beq i 1000
 |.row _=>false
def AV.oy:AV→Bool
 |.sv _=>true
 |.ptr i _=>Nat.beq i 1000
 |.cmp _ js=>js.all Fc.oy
 |_=>false
def Fc.Te(i:Nat):Fc→Fc
 |.box _=>.box i
 |c=>c
def AV.Te(i:Nat):AV→AV
 |.ptr _ o=>.ptr i o
 |.cmp t js=>.cmp t (js.map (Fc.Te i))
 |x=>x
theorem Lp{E:Env}{i:Nat}{x:AV}{v:Value}(hx:x.oy=true)(h:(x.Te i).holds E v):x.holds (oX E.M (E.β i)) v:=by
 cases x with
 |sv s=>exact h
 |ptr k o=>exact h
 |cmp t js=>
  obtain⟨vs,rfl,h⟩:=h
  refine⟨vs,rfl,?_⟩
  have key:∀(l:List Fc) (vs:List Value),(l.all Fc.oy)=true→xA E (l.map (Fc.Te i)) vs→xA (oX E.M (E.β i)) l vs:=by
   intro l
   induction l with
   |nil=>intro vs _ h;cases vs with|nil=>trivial|cons _ _=>exact h.elim
   |cons c l ih=>
    intro vs ho h
    rw[List.all_cons,Bool.and_eq_true]at ho
    cases vs with
    |nil=>exact h.elim
    |cons u vs=>
     refine⟨?_,ih vs ho.2 h.2⟩
     cases c with
     |val s=>exact h.1
     |box k=>exact h.1
     |row k=>exact(Bool.false_ne_true ho.1).elim
  exact key js vs hx h
 |_=>exact(Bool.false_ne_true hx).elim
theorem A0{E:Env}{i:Nat}:∀{l:List AV} {vs:List Value},(l.all AV.oy)=true→cO E (l.map (AV.Te i)) vs→cO (oX E.M (E.β i)) l vs
 |[],[],_,_=>trivial
 |x::l,v::vs,h,hv=>by
  rw[List.all_cons,Bool.and_eq_true]at h
  exact⟨Lp h.1 hv.1,A0 h.2 hv.2⟩
 |[],_::_,_,h=>h.elim
 |_::_,[],_,h=>h.elim
def Q4(P:Program)(f:FuncId)(args:List AV)(T:TypeId)(c0:List Oc)(res:SV)(c1:List Oc):Prop:=
 ∀(M:Mem) (w:World) (β:Nat) (vs us:List Value),M.cM w→pX M w β T c0 us→cO (oX M β) args vs→
  Calls P f ⟨vs⟩ w fun e w'=>∃v M' us',e=.returned v∧M.le M'∧(∀b o x,M' b o=some x→M b o=some x∨w.heap.size≤b∨dU c0 us b)∧M'.cM w'∧res.h M' v∧
   pX M' w' β T c1 us'∧(∀g,dU c1 us' g→dU c0 us g∨w.heap.size≤g)∧w'.os=w.os∧w'.tape=w.tape∧w'.output=w.output∧w.heap.size≤w'.heap.size∧
   ∀k,k<w.heap.size→k≠β→¬dU c0 us k→w'.heap[k]? =w.heap[k]?
def Wi(w:World)(M:Mem)(β:Nat)(c:List Oc)(us:List Value):Ctx:={w0:=w,M0:=M,own:=fun k=>k=β∨dU c us k,vc:=fun k=>k=β∨dU c us k,gQ:=fun i=>bif Nat.beq i 1000 then some β else none,dS:=fun _=>none,ro:=none,J:=fun _ _ _ _ _=>True,Dk:=fun _ h=>h,KO:=fun _ _ h=>(by cases h),jf:=fun _ _ _ _ _ _ _ _ _ _ _ _ _ _ _ _=>trivial}
theorem ya{M:Mem}{w:World}:∀{ids:List Nat} {c:List Oc} {us:List Value},oU M w c us→∀{i:Nat} {R:Row},(i,R)∈ids.zip (rowsOf c)→∃v,(i,R,v)∈ids.zip (bz c us)
 |ids,.s x::l,v::vs,h,i,R,hm=>by
  have hm':(i,R)∈ids.zip (rowsOf l):=hm
  exact ya (c:=l) (us:=vs) h.2 hm'
 |k::ids,.r R'::l,v::vs,h,i,R,hm=>by
  have hm':(i,R)∈(k,R')::ids.zip (rowsOf l):=hm
  rw[bz,List.zip_cons_cons]
  rcases List.mem_cons.1 hm' with e|e
  ·cases e;exact⟨v,by simp⟩
  ·obtain⟨v',h'⟩:=ya (ids:=ids) (c:=l) (us:=vs) h.2 e
   exact⟨v',List.mem_cons_of_mem _ h'⟩
 |[],.r _::_,_::_,_,_,_,hm=>by simp at hm
 |_,[],[],_,_,_,hm=>by simp[rowsOf]at hm
 |_,[],_::_,h,_,_,_=>h.elim
 |_,.s _::_,[],h,_,_,_=>h.elim
 |_,.r _::_,[],h,_,_,_=>h.elim
theorem J0{n:Nat}{args:List AV}{T:TypeId}{c:List Oc}{M:Mem}{w:World}{β:Nat}{vs us:List Value}(ids:List Nat)(hM:M.cM w)(ho:pX M w β T c us)(hv:cO (oX M β) args vs)(J1:args.all AV.oy=true)(hn:args.length≤n)(Dn:ids.Nodup)(Tf:ids.length=(rowsOf c).length):
  az (Wi w M β c us) (AS.Dh n args [(1000,⟨T,bN ids c⟩)] (ids.zip (rowsOf c))) ⟨fun _=>β,kS (ids.zip (bz c us)) (fun _=>.nilIface),fun _=>False,M⟩ {tmps:=⟨vs⟩++Array.replicate (n-(⟨vs⟩:Array Value).size) undef,defers:=[]} w:=by
 have hl:=hv.length
 have X5:(bz c us).length=(rowsOf c).length:=by rw[←iA ho.al,List.length_map]
 have hnd:((ids.zip (bz c us)).map (·.1)).Nodup:=by rw[AZ (by omega)];exact Dn
 have Tg:∀s,(rG args s).oy=true:=fun s=>by
  rcases xH (l:=args) (k:=s)with e|e
  ·rw[e];rfl
  ·exact List.all_eq_true.1 J1 _ e
 have oyB:∀x:AV,x.oy=true→(∀j,x.mb j→j=1000)∧∀j,¬x.mr j:=fun x hx=>by
  cases x with
  |sv s=>exact⟨fun j e=>e.elim,fun j e=>e⟩
  |ptr k o=>exact⟨fun j e=>by cases e;exact Nat.eq_of_beq_eq_true hx,fun j e=>e⟩
  |cmp t js=>
   refine⟨fun j e=>?_,fun j e=>?_⟩
   ·exact Nat.eq_of_beq_eq_true (List.all_eq_true.1 hx _ e)
   ·exact Bool.false_ne_true (List.all_eq_true.1 hx _ e)
  |_=>exact(Bool.false_ne_true hx).elim
 have hall:cO ⟨fun _=>β,kS (ids.zip (bz c us)) (fun _=>.nilIface),fun _=>False,M⟩ args vs:=by
  refine hv.imp (fun x hx v hh=>?_)
  exact AV.cc (E:=oX M β) (E':=⟨fun _=>β,kS (ids.zip (bz c us)) (fun _=>.nilIface),fun _=>False,M⟩) (Mem.le_refl _) (fun _ _=>rfl) (fun j hj=>absurd hj ((oyB x (List.all_eq_true.1 J1 x hx)).2 j)) hh
 have live:∀j R,(AS.Dh n args [(1000,⟨T,bN ids c⟩)] (ids.zip (rowsOf c))).r j=.live R→(j,R)∈ids.zip (rowsOf c):=fun j R hj=>by
  have hj:(match Df (ids.zip (rowsOf c)) j with|some R=>lq.live R|none=>.un)=.live R:=hj
  cases e:Df (ids.zip (rowsOf c)) j with
  |none=>rw[e]at hj;cases hj
  |some R'=>rw[e]at hj;cases hj;exact AP e
 have isLive:∀j∈ids,(AS.Dh n args [(1000,⟨T,bN ids c⟩)] (ids.zip (rowsOf c))).r j≠ .un:=fun j hj=>by
  have key:∀(ids:List Nat) (Rs:List Row),ids.length=Rs.length→j∈ids→∃R,Df (ids.zip Rs) j=some R:=by
   intro ids
   induction ids with
   |nil=>intro _ _ h;cases h
   |cons k ids ih=>
    intro Rs hl hm
    cases Rs with
    |nil=>simp at hl
    |cons R Rs=>
     rw[List.zip_cons_cons,Df]
     by_cases e:j=k
     ·subst e;exact⟨R,by simp⟩
     ·rw[bH e]
      rcases List.mem_cons.1 hm with q|q
      ·exact absurd q e
      ·exact ih Rs (by simpa using hl) q
  obtain⟨R,hR⟩:=key ids _ Tf hj
  show(match Df (ids.zip (rowsOf c)) j with|some R=>lq.live R|none=>.un)≠ .un
  rw[hR];simp
 have box:∀j B,(AS.Dh n args [(1000,⟨T,bN ids c⟩)] (ids.zip (rowsOf c))).b j=some B→j=1000∧B=⟨T,bN ids c⟩:=fun j B h=>by
  have:=pQ h
  simpa using this
 have MA:(AS.Dh n args [(1000,⟨T,bN ids c⟩)] (ids.zip (rowsOf c))).b 1000=some ⟨T,bN ids c⟩:=rfl
 exact{
  wf:=by
   refine⟨fun s j hj=>?_,fun s j hj=>?_,fun i B hB x hx j hj=>?_,fun i B hB x hx j hj=>?_⟩
   ·have:=(oyB _ (Tg s)).1 j hj
    subst this;exact⟨_,MA⟩
   ·exact absurd hj ((oyB _ (Tg s)).2 j)
   ·obtain⟨rfl,rfl⟩:=box i B hB
    exact absurd hj ((oW x hx).1 j)
   ·obtain⟨rfl,rfl⟩:=box i B hB
    exact isLive j ((oW x hx).2 j hj)
  marks:=⟨[],rfl,List.nodup_nil,by simp⟩
  size:=by simp[AS.Dh];omega
  os:=rfl
  tape:=rfl
  output:=rfl
  grown:=Nat.le_refl _
  frame:=fun _ _ _=>rfl
  m0:=Mem.le_refl _
  ez:=fun _ _ _ e=>.inl e
  cM:=hM
  tm:=fun s=>IL hall s
  bx:=fun i B h=>by
   obtain⟨rfl,rfl⟩:=box i B h
   refine⟨.inr (.inl rfl),ho.nb,fun h=>h,us,ho.hp,?_⟩
   exact oV (w:=w) Tf ho.al (fun j p hm=>iU (R:=p.1) (v:=p.2) hnd hm)
  inj:=fun i j B1 B2 hi hj _=>by rw[(box i B1 hi).1,(box j B2 hj).1]
  rx:=fun j R hj=>by
   obtain⟨v,hm⟩:=ya ho.al (live j R hj)
   have hν:kS (ids.zip (bz c us)) (fun _=>Value.nilIface) j=v:=iU hnd hm
   show(∃vs:List Value,w.ownsRow 0 R.E R.sz (kS (ids.zip (bz c us)) (fun _=>.nilIface) j) R.n vs∧SV.dR M R.cells vs)∧_
   rw[hν]
   refine⟨kT ho.al (R,v) (jt hm).2,fun g hg=>?_⟩
   have hg:v.ownBlock=some g:=by rw[←hν];exact hg
   have hb:dU c us g:=⟨(R,v),(jt hm).2,hg⟩
   obtain⟨q1,q2⟩:=ho.nr g hb
   refine⟨.inr (.inr hb),q2,fun h=>h,fun k B _ e=>q1 e.symm⟩
  ff:=fun j j' R R' h1 h2 g e1 e2=>by
   obtain⟨v,hm⟩:=ya ho.al (live j R h1)
   obtain⟨v',hm'⟩:=ya ho.al (live j' R' h2)
   have hν:kS (ids.zip (bz c us)) (fun _=>Value.nilIface) j=v:=iU hnd hm
   have adO:kS (ids.zip (bz c us)) (fun _=>Value.nilIface) j'=v':=iU hnd hm'
   exact zy Dn ho.ap j R v j' R' v' g hm hm' (by rw[←hν];exact e1) (by rw[←adO];exact e2)
  gQ:=fun i b e=>by
   simp only[Wi]at e
   cases h:Nat.beq i 1000 with
   |false=>rw[h]at e;cases e
   |true=>rw[h]at e;cases e;rfl
  dS:=fun i v e=>by cases e
  kV:=fun b e=>e.elim
  jj:=trivial}
theorem CC{P:Program}{f:FuncId}{fn:Func}{code:Code}{args:List AV}{T:TypeId}{c0 c1:List Oc}{res:SV}(ids:List Nat)(hf:P.funcs[f]? =some fn)(hb:fn.body=some code)(hn:args.length≤fn.ntmps)(J1:args.all AV.oy=true)(Dn:ids.Nodup)(Tf:ids.length=(rowsOf c0).length)
  (h:∀(w:World) (M:Mem) (β:Nat) (us:List Value),Ok P (Wi w M β c0 us) code (AS.Dh fn.ntmps args [(1000,⟨T,bN ids c0⟩)] (ids.zip (rowsOf c0))) (fun e S=>(e=.normal∨e=.ret)∧Mi P S fn.results.toList res∧∃ks:List Nat,S.b 1000=some ⟨T,bN ks c1⟩∧Lv S ks (rowsOf c1)∧ks.Nodup)):Q4 P f args T c0 res c1:=by
 intro M w β vs us hM ho hv
 refine gG rfl hf hb (J0 ids hM ho hv J1 hn Dn Tf) (h w M β us) ?_
 rintro S' E a w' ⟨hr,ks,hB,hL,hk⟩ hh
 obtain⟨v,hv,hx⟩:=(Ag.sv hr).run hh
 have hβ:E.β 1000=β:=hh.gQ 1000 β rfl
 obtain⟨us',ho',kQ⟩:=qR hh hB hL hk
 rw[hβ]at ho'
 refine⟨v,hv,v,E.M,us',rfl,hh.m0,fun b o x e=>?_,hh.cM,hx,ho',fun g hg=>?_,hh.os,hh.tape,hh.output,hh.grown,fun k hk hne hno=>hh.frame k hk (fun e=>e.elim hne hno)⟩
 ·rcases hh.ez b o x e with q|q|q|q
  ·exact .inl q
  ·exact .inr (.inl q)
  ·rw[show b=β from q,ho'.nb o]at e;cases e
  ·exact .inr (.inr q)
 ·obtain⟨j,hj,zT⟩:=(kQ g).1 hg
  obtain⟨R,hR⟩:=hL.mem j hj
  obtain⟨_,q⟩:=hh.rx j R hR
  rcases(q g zT).1 with q1|q1|q1
  ·exact .inr q1
  ·exact absurd q1 (ho'.nr g hg).1
  ·exact .inl q1
end Go.Fw
namespace Go.Fw
open Go.RowKit
def Un(S:AS):List Nat→Prop
 |[]=>True
 |k::ks=>(S.r k=.un∧k<1000)∧Un S ks
theorem Un.mem{S:AS}:∀{ks:List Nat},Un S ks→∀k∈ks,S.r k=.un∧k<1000
 |k::ks,h,j,hj=>by
  rcases List.mem_cons.1 hj with rfl|hj
  ·exact h.1
  ·exact Un.mem h.2 j hj
 |[],_,j,hj=>by cases hj
theorem Un.congr{S S':AS}:∀{ks:List Nat},(∀k∈ks,S'.r k=S.r k)→Un S ks→Un S' ks
 |[],_,_=>trivial
 |k::ks,h,hu=>⟨by rw[h k (by simp)];exact hu.1,Un.congr (fun j hj=>h j (List.mem_cons_of_mem _ hj)) hu.2⟩
theorem Lv.congr{S S':AS}:∀{js:List Nat} {Rs:List Row},(∀k∈js,S'.r k=S.r k)→Lv S js Rs→Lv S' js Rs
 |[],[],_,_=>trivial
 |j::js,R::Rs,h,hl=>⟨by rw[h j (by simp)];exact hl.1,Lv.congr (fun k hk=>h k (List.mem_cons_of_mem _ hk)) hl.2⟩
 |[],_::_,_,h=>h.elim
 |_::_,[],_,h=>h.elim
def yc(js ks:List Nat)(c:List Oc):List (Nat×lq):=js.map (fun j=>(j,lq.dead))++(ks.zip (rowsOf c)).map (fun p=>(p.1,.live p.2))
theorem Hp:∀(ks:List Nat) (l:List (Row×Value)),(ks.zip l).map (fun n=>(n.1,lq.live n.2.1))=(ks.zip (l.map (·.1))).map (fun p=>(p.1,.live p.2))
 |[],_=>rfl
 |_::_,[]=>rfl
 |k::ks,p::l=>by rw[List.map_cons,List.zip_cons_cons,List.zip_cons_cons,List.map_cons,List.map_cons,Hp ks l]
theorem Hq{M:Mem}{w:World}{c:List Oc}{us:List Value}(h:oU M w c us)(js ks:List Nat):xZ js (ks.zip (bz c us))=yc js ks c:=by
 unfold xZ yc
 rw[Hp,iA h]
section steps
variable {P:Program}{C:Ctx}{ops:Array Oper}{S:AS}{nd:Bool}{K:List Ac→AS→Prop}{rest:List Oper}{acc:List Ac}
variable {gd:Option (Nat×Bool)}{rg:List Nat}{d:Nat}{ty:TypeId}{pos:String}{aft:Array Edge}{x y z:Operand}{T U E0:TypeId}
theorem az.Q5{E:Env}{a:Act}{w w':World}(h:az C S E a w){i:Nat}{js ks:List Nat}{c0 c1:List Oc}{us us':List Value}{M':Mem}(hB:S.b i=some ⟨T,bN js c0⟩)(hL:Lv S js (rowsOf c0))(hks:ks.Nodup)(Dr:ks.length=(rowsOf c1).length)(Q6:Un S ks)
  (CD:∀g,dU c0 us g↔∃j∈js,(E.ν j).ownBlock=some g) (hM:E.M.le M') (hn:∀b o x,M' b o=some x→E.M b o=some x∨w.heap.size≤b∨dU c0 us b) (hin:M'.cM w') (ho:pX M' w' (E.β i) T c1 us') (hg:∀g,dU c1 us' g→dU c0 us g∨w.heap.size≤g)
  (hos:w'.os=w.os) (qQ:w'.tape=w.tape) (hout:w'.output=w.output) (hsize:w.heap.size≤w'.heap.size) (kQ:∀k,k<w.heap.size→k≠E.β i→¬dU c0 us k→w'.heap[k]? =w.heap[k]?):
  ∃E':Env,E'.M=M'∧E'.β=E.β∧az C (AS.bA (yc js ks c1) (AS.fg [(i,⟨T,bN ks c1⟩)] S)) E' a w':=by
 have X5:(bz c1 us').length=(rowsOf c1).length:=by rw[←iA ho.al,List.length_map]
 have hnd:((ks.zip (bz c1 us')).map (·.1)).Nodup:=by rw[AZ (by omega)];exact hks
 rw[←Hq ho.al js ks]
 refine⟨{E with M:=M',ν:=kS (ks.zip (bz c1 us')) E.ν},rfl,rfl,h.ZF hB js (ks.zip (bz c1 us')) (fun j hj=>hL.mem j hj) (fun k R v hm=>Q6.mem k (jt hm).1) hnd hM (fun b o x e=>?_) hin ho.hp ho.nb ?_ (fun x hx=>?_) (fun k R v hm=>?_) (zy hks ho.ap) hos qQ hout hsize (fun k hk hne hno=>kQ k hk hne (fun q=>?_))⟩
 ·rcases hn b o x e with q|q|q
  ·exact .inl q
  ·exact .inr (.inl q)
  ·exact .inr (.inr ((CD b).1 q))
 ·exact oV (E:={E with M:=M',ν:=kS (ks.zip (bz c1 us')) E.ν}) (w:=w') Dr ho.al (fun j p hm=>iU (R:=p.1) (v:=p.2) hnd hm)
 ·obtain⟨q1,q2⟩:=oW x hx
  refine⟨q1,fun j hj=>?_⟩
  have hj:=q2 j hj
  have key:∀(ks:List Nat) (l:List (Row×Value)),ks.length=l.length→j∈ks→∃R v,(j,R,v)∈ks.zip l:=by
   intro ks
   induction ks with
   |nil=>intro _ _ h;cases h
   |cons k ks ih=>
    intro l hl hm
    cases l with
    |nil=>simp at hl
    |cons p l=>
     rw[List.zip_cons_cons]
     rcases List.mem_cons.1 hm with q|q
     ·subst q;exact⟨p.1,p.2,by simp⟩
     ·obtain⟨R,v,h⟩:=ih l (by simpa using hl) q
      exact⟨R,v,List.mem_cons_of_mem _ h⟩
  exact key ks _ (by omega) hj
 ·refine⟨kT ho.al (R,v) (jt hm).2,fun g Gj=>?_⟩
  have hb:dU c1 us' g:=⟨(R,v),(jt hm).2,Gj⟩
  obtain⟨q1,q2⟩:=ho.nr g hb
  refine⟨?_,q2,q1⟩
  rcases hg g hb with q|q
  ·exact .inl ((CD g).1 q)
  ·exact .inr q
 ·obtain⟨j,hj,e⟩:=(CD k).1 q
  exact hno j hj e
theorem RT.J2(hg:Gd ops S gd rg){f:FuncId}[bB P f]{g:Operand}{xs:Array Operand}{at_:Array TypeId}{args:List AV}{T:TypeId}{c0 c1:List Oc}{res:SV}(hp:Q4 P f args T c0 res c1)(i:Nat)(js ks:List Nat)(hB:S.b i=some ⟨T,bN js c0⟩)(hL:Lv S js (rowsOf c0))(Th:js.Nodup)(hks:ks.Nodup)(Dr:ks.length=(rowsOf c1).length)(Q6:Un S ks)
  (J1:args.all AV.oy=true) (hf:S.ev g=.sv (.v (.func (.func f) #[] #[]))) (hargs:wK S xs.toList (args.map (AV.Te i))) (hd:d<S.n)
  (next:RunT P C ops nd K rest (⟨rg++(au g++xs.toList.flatMap au),[i],js++ks,⟨some (d,.sv res),[(i,⟨T,bN ks c1⟩)],yc js ks c1⟩⟩::acc) ((AS.bA (yc js ks c1) (AS.fg [(i,⟨T,bN ks c1⟩)] S)).set d (.sv res))):RunT P C ops nd K (⟨some d,.call ⟨.value g,xs,at_⟩,ty,pos,aft,gd⟩::rest) acc S:=by
 refine .inl ⟨_,[i],js++ks,_,?_,next⟩
 rintro S' hn ht hb hr k a w L Q ho ⟨E,h⟩ ZL
 refine bX (C:=C) ho (hg.wanted h (fun s hs=>ht s (List.mem_append_left _ hs)) rfl) ?_
 have tC:a.eval g=.func (.func f) #[] ⟨[]⟩:=by
  have h1:=h.ev g;rw[aH (fun _ h=>List.mem_append_right _ (List.mem_append_left _ h)) ht,hf]at h1;exact h1
 have hall:=A0 J1 (wK.vals h hargs (fun s hs=>ht s (List.mem_append_right _ (List.mem_append_right _ hs))))
 have fj:S'.b i=some ⟨T,bN js c0⟩:=by rw[hb i (by simp)];exact hB
 have Ti:Lv S' js (rowsOf c0):=hL.congr (fun k hk=>hr k (List.mem_append_left _ hk))
 have adP:Un S' ks:=Q6.congr (fun k hk=>hr k (List.mem_append_right _ hk))
 obtain⟨us,Q7,CD⟩:=qR h fj Ti Th
 refine bR (C:=C) (by intro c h;cases h) (nm tC) ?_
 rw[List.append_nil]
 refine⟨fun h=>by simp at h,gC ((hp E.M w (E.β i) _ us h.cM Q7 hall).mono ?_)⟩
 rintro e w' ⟨v,M',us',rfl,hM,hnew,hin,hv,J3,Qh,hos,qQ,hout,hsize,kQ⟩
 obtain⟨E',e1,e2,h1⟩:=h.Q5 fj Ti hks Dr adP CD hM hnew hin J3 Qh hos qQ hout hsize kQ
 refine ZL _ _ ⟨_,h1.put (x:=.sv res) (v:=v) (by show res.h E'.M v;rw[e1];exact hv) ?_ eR⟩
 rw[(eM _ _).1];show d<S'.n;omega
theorem RT.ei(hg:Gd ops S gd rg){i o:Nat}(hx:S.ev x=.ptr i o)(hd:d<S.n)
  (next:RunT P C ops nd K rest (⟨rg++au x,[],[],⟨some (d,.ptr i o),[],[]⟩⟩::acc) (S.set d (.ptr i o))):RunT P C ops nd K (⟨some d,.nilCheck x,ty,pos,aft,gd⟩::rest) acc S:=
 RT.value hg (au x) [] [] (.ptr i o) hd (by intro c h;cases h) (fun S' ht _ _ E a w h=>by
  have hx':S'.ev x=.ptr i o:=by rw[aH (fun _ h=>h) ht,hx]
  have h1:=h.ev x
  rw[hx']at h1
  have h2:a.eval x=.pointer (some ⟨E.β i,o,none⟩):=h1
  exact⟨a.eval x,by simp[execOp,h2],h1,lC h.wf hx'⟩) next
class z8 (P:Program) (T:TypeId):Prop where
 u:P.underlying T=some (.pointer (P.pointee T))
theorem RT.Om(hg:Gd ops S gd rg)[tT:z8 P T]{i o:Nat}(hx:S.ev x=.ptr i o)(hy:S.ev y=.sv (.v (.pointer none)))(hd:d<S.n)
  (next:RunT P C ops nd K rest (⟨rg++(au x++au y),[],[],⟨some (d,.sv (.v (.bool false))),[],[]⟩⟩::acc) (S.set d (.sv (.v (.bool false))))):RunT P C ops nd K (⟨some d,.binOp .eql T x y U,ty,pos,aft,gd⟩::rest) acc S:=
 RT.value hg (au x++au y) [] [] (.sv (.v (.bool false))) hd (by intro c h;cases h) (fun S' ht _ _ E a w h=>by
  have h1:=h.ev x
  rw[aH (fun _ h=>List.mem_append_left _ h) ht,hx]at h1
  have h2:=h.ev y
  rw[aH (fun _ h=>List.mem_append_right _ h) ht,hy]at h2
  have h1:a.eval x=.pointer (some ⟨E.β i,o,none⟩):=h1
  have h2:a.eval y=.pointer none:=h2
  have e:=run_eql_pointer_nil (P:=P) w T (some ⟨E.β i,o,none⟩) tT.u
  refine⟨.bool false,?_,rfl,eR⟩
  simp[execOp,h1,h2,eqGuard,e]) next
def Fc.av:Fc→AV
 |.val s=>.sv s
 |.box i=>.ptr i 0
 |.row i=>.row i
theorem RT.yd(hg:Gd ops S gd rg){i:Nat}{js:List Fc}{s:Fc}(hx:S.ev x=.cmp .vW js)(hi:js[i]? =some s)(hd:d<S.n)
  (next:RunT P C ops nd K rest (⟨rg++au x,[],[],⟨some (d,s.av),[],[]⟩⟩::acc) (S.set d s.av)):RunT P C ops nd K (⟨some d,.extract x i,ty,pos,aft,gd⟩::rest) acc S:=
 RT.value hg (au x) [] [] s.av hd (by intro c h;cases h) (fun S' ht _ _ E a w h=>by
  have hx':S'.ev x=.cmp .vW js:=by rw[aH (fun _ h=>h) ht,hx]
  have h1:=h.ev x
  rw[hx']at h1
  obtain⟨l1,l2⟩:=lC h.wf hx'
  obtain⟨vs,hv,hall⟩:=h1
  have hv:a.eval x=.tuple ⟨vs⟩:=hv
  obtain⟨u,hu,hs⟩:=hall.get hi
  have hm:=List.mem_of_getElem? hi
  refine⟨u,by simp[execOp,hv,Instr.extract,hu],?_,fun j e=>?_,fun j e=>?_⟩
  ·cases s<;>exact hs
  ·cases s with
   |val s=>exact e.elim
   |box k=>have e:j=k:=e;subst e;exact l1 j hm
   |row k=>exact e.elim
  ·cases s with
   |val s=>exact e.elim
   |box k=>exact e.elim
   |row k=>have e:j=k:=e;subst e;exact l2 j hm) next
def adQ(tp:Bool)(p:Value)(rs:List Value):Value:=bif tp then .tuple ⟨p::rs⟩else p
def Lq(P:Program)(f:FuncId)(args:List SV)(tp:Bool)(rest:List SV)(T:TypeId)(c:List Oc):Prop:=
 ∀(M:Mem) (w:World) (vs:List Value),M.cM w→SV.dR M args vs→
  Calls P f ⟨vs⟩ w fun e w'=>∃β rs M' us,e=.returned (adQ tp (.pointer (some ⟨β,0,none⟩)) rs)∧M.le M'∧(∀b o x,M' b o=some x→M b o=some x∨w.heap.size≤b)∧M'.cM w'∧SV.dR M' rest rs∧
   pX M' w' β T c us∧w.heap.size≤β∧(∀g,dU c us g→w.heap.size≤g)∧Below w.heap.size w w'
theorem Hr{w:World}{M:Mem}{S':AS}{E:Env}{a:Act}{w':World}{k:Nat}{ks:List Nat}{c:List Oc}(hB:S'.b k=some ⟨T,bN ks c⟩)(hL:Lv S' ks (rowsOf c))(hk:ks.Nodup)(hh:az (Gx w M) S' E a w'):
  ∃us,M.le E.M∧(∀b o x,E.M b o=some x→M b o=some x∨w.heap.size≤b)∧E.M.cM w'∧pX E.M w' (E.β k) T c us∧w.heap.size≤E.β k∧(∀g,dU c us g→w.heap.size≤g)∧Below w.heap.size w w':=by
 obtain⟨us,ho,kQ⟩:=qR hh hB hL hk
 refine⟨us,hh.m0,fun b o x e=>?_,hh.cM,ho,(hh.bx k _ hB).1.elim id (fun h=>h.elim),fun g hg=>?_,hh.os,hh.tape,hh.output,hh.grown,fun k hk=>hh.frame k hk (fun h=>h)⟩
 ·rcases hh.ez b o x e with h|h|h
  ·exact .inl h
  ·exact .inr h
  ·exact h.elim
 ·obtain⟨j,hj,zT⟩:=(kQ g).1 hg
  obtain⟨R,hR⟩:=hL.mem j hj
  exact((hh.rx j R hR).2 g zT).1.elim id (fun h=>h.elim)
theorem Hs{f:FuncId}{fn:Func}{code:Code}{args:List SV}{c:List Oc}(hf:P.funcs[f]? =some fn)(hb:fn.body=some code)(hn:args.length≤fn.ntmps)
  (h:∀(w:World) (M:Mem) (vs:List Value),SV.dR M args vs→Ok P (Gx w M) code (AS.init fn.ntmps args) (fun e S=>(e=.normal∨e=.ret)∧∃(k:Nat) (ks:List Nat),Ag P S fn.results.toList (.ptr k 0)∧S.b k=some ⟨T,bN ks c⟩∧Lv S ks (rowsOf c)∧ks.Nodup)):Lq P f args false [] T c:=by
 intro M w vs hM hvs
 refine gG rfl hf hb (kP hM hvs hn) (h w M vs hvs) ?_
 rintro S' E a w' ⟨k,ks,hr,hB,hL,hk⟩ hh
 obtain⟨v,hv,hx⟩:=hr.run hh
 obtain rfl:v=.pointer (some ⟨E.β k,0,none⟩):=hx
 obtain⟨us,q1,q2,q3,q4,q5,q6,q7⟩:=Hr hB hL hk hh
 exact⟨_,hv,E.β k,[],E.M,us,rfl,q1,q2,q3,trivial,q4,q5,q6,q7⟩
theorem Ht{f:FuncId}{fn:Func}{code:Code}{args:List SV}{s:SV}{c:List Oc}{t1 t2:Nat}(hf:P.funcs[f]? =some fn)(hb:fn.body=some code)(hn:args.length≤fn.ntmps)(hres:fn.results=#[.tmp t1,.tmp t2])
  (h:∀(w:World) (M:Mem) (vs:List Value),SV.dR M args vs→Ok P (Gx w M) code (AS.init fn.ntmps args) (fun e S=>(e=.normal∨e=.ret)∧∃(k:Nat) (ks:List Nat),S.t t1=.ptr k 0∧S.t t2=.sv s∧S.b k=some ⟨T,bN ks c⟩∧Lv S ks (rowsOf c)∧ks.Nodup)):Lq P f args true [s] T c:=by
 intro M w vs hM hvs
 refine gG rfl hf hb (kP hM hvs hn) (h w M vs hvs) ?_
 rintro S' E a w' ⟨k,ks,Wj,ZM,hB,hL,hk⟩ hh
 have h1:=hh.tm t1
 rw[Wj]at h1
 have h1:a.tmps.getD t1 undef=.pointer (some ⟨E.β k,0,none⟩):=h1
 have h2:=hh.tm t2
 rw[ZM]at h2
 obtain⟨us,q1,q2,q3,q4,q5,q6,q7⟩:=Hr hB hL hk hh
 refine⟨.tuple #[.pointer (some ⟨E.β k,0,none⟩),a.tmps.getD t2 undef],?_,E.β k,[a.tmps.getD t2 undef],E.M,us,rfl,q1,q2,q3,⟨h2,trivial⟩,q4,q5,q6,q7⟩
 rw[Array.getD_eq_getD_getElem?]at h1
 simp[results,hres,h1]
theorem az.J4{a:Act}{w:World}:∀(ks:List Nat) (l:List (Row×Value)) {S:AS} {E:Env},az C S E a w→ks.length=l.length→ks.Nodup→Un S ks→(∀p∈l,∃vs:List Value,w.ownsRow 0 p.1.E p.1.sz p.2 p.1.n vs∧SV.dR E.M p.1.cells vs)→Ho l→(∀p∈l,∀g,p.2.ownBlock=some g→KS C S E g)→
  ∃E':Env,E'.M=E.M∧E'.β=E.β∧E'.O=E.O∧(∀i p,(i,p)∈ks.zip l→E'.ν i=p.2)∧(∀i,i∉ks→E'.ν i=E.ν i)∧az C (AS.bA ((ks.zip l).map (fun n=>(n.1,.live n.2.1))) S) E' a w
 |[],[],S,E,h,_,_,_,_,_,_=>⟨E,rfl,rfl,rfl,fun i p hm=>(by simp at hm),fun _ _=>rfl,h⟩
 |k::ks,p::l,S,E,h,hl,hn,hu,ho,ha,hf=>by
  obtain⟨R,v⟩:=p
  rw[List.nodup_cons]at hn
  obtain⟨ha1,ha2⟩:=List.pairwise_cons.1 ha
  obtain⟨vs,Q7,J3⟩:=ho (R,v) (by simp)
  have h1:=h.EX hu.1.1 hu.1.2 [] none (.inl ⟨rfl,rfl⟩) (R':=R) Q7 J3 (fun g hg=>.inr (hf (R,v) (by simp) g hg)) (rH w none)
  have hu':Un (AS.bA ([]++[(k,.live R)]) S) ks:=hu.2.congr (fun j hj=>by
   show(AS.qg S k _).r j=_
   exact AS.kM _ _ _ _ (fun e=>hn.1 (e▸hj)))
  obtain⟨E',q1,q2,q3,q4,q5,q6⟩:=az.J4 ks l h1 (by simpa using hl) hn.2 hu' (fun p hp=>ho p (List.mem_cons_of_mem _ hp)) ha2 (fun p hp g hg=>by
   obtain⟨f1,f2,f3,f4,f5⟩:=hf p (List.mem_cons_of_mem _ hp) g hg
   refine⟨f1,f2,f3,f4,fun j R' oB e=>?_⟩
   have oB:(AS.qg S k (.live R)).r j=.live R':=oB
   by_cases ej:j=k
   ·subst ej
    have e:(if j=j then v else E.ν j).ownBlock=some g:=e
    rw[if_pos rfl]at e
    exact ha1 p hp g e hg
   ·rw[AS.kM _ _ _ _ ej]at oB
    have e:(if j=k then v else E.ν j).ownBlock=some g:=e
    rw[if_neg ej]at e
    exact f5 j R' oB e)
  refine⟨E',q1,q2,q3,fun i p hm=>?_,fun i hi=>?_,q6⟩
  ·rw[List.zip_cons_cons]at hm
   rcases List.mem_cons.1 hm with e|e
   ·cases e
    rw[q5 k hn.1]
    show(if k=k then v else E.ν k)=v
    rw[if_pos rfl]
   ·exact q4 i p e
  ·rw[q5 i (fun hm=>hi (List.mem_cons_of_mem _ hm))]
   show(if i=k then v else E.ν i)=E.ν i
   rw[if_neg (fun e=>hi (by rw[e];simp))]
 |[],_::_,_,_,_,hl,_,_,_,_,_=>by simp at hl
 |_::_,[],_,_,_,hl,_,_,_,_,_=>by simp at hl
theorem CE(i:Nat)(B:om):∀(l:List (Nat×lq)) (S:AS),AS.bA l (S.jV i B)=(AS.bA l S).jV i B
 |[],_=>rfl
 |(j,R)::l,S=>CE i B l (S.qg j R)
theorem uD{α β:Type}:∀{l:List α} {k:List β} {a:α},l.length=k.length→a∈l→∃b,(a,b)∈l.zip k
 |a::l,c::k,b,h,hb=>by
  rcases List.mem_cons.1 hb with rfl|hb
  ·exact⟨c,by rw[List.zip_cons_cons];simp⟩
  ·obtain⟨a',h'⟩:=uD (l:=l) (k:=k) (by simpa using h) hb
   exact⟨a',by rw[List.zip_cons_cons];exact List.mem_cons_of_mem _ h'⟩
 |[],_,_,_,hb=>by cases hb
 |_::_,[],_,h,_=>by simp at h
theorem az.newObj{E:Env}{a:Act}{w w':World}(h:az C S E a w){i:Nat}(hi:S.b i=none)(hp:C.gQ i=none){ks:List Nat}{c:List Oc}{us:List Value}{M':Mem}{β:Nat}(hks:ks.Nodup)(Dr:ks.length=(rowsOf c).length)(Q6:Un S ks)
  (hM:E.M.le M') (hn:∀b o x,M' b o=some x→E.M b o=some x∨w.heap.size≤b) (hin:M'.cM w') (ho:pX M' w' β T c us) (hβ:w.heap.size≤β) (hg:∀g,dU c us g→w.heap.size≤g) (QA:Below w.heap.size w w'):
  ∃E':Env,E'.M=M'∧E'.β i=β∧az C (AS.bA (yc [] ks c) (AS.fg [(i,⟨T,bN ks c⟩)] S)) E' a w':=by
 have X5:(bz c us).length=(rowsOf c).length:=by rw[←iA ho.al,List.length_map]
 have h0:=h.grow hM hn hin QA
 obtain⟨E1,q1,q2,q3,q4,q5,h1⟩:=az.J4 ks (bz c us) h0 (by omega) hks Q6 (kT ho.al) ho.ap (fun p hp g Gj=>h.AR (hg g ⟨p,hp,Gj⟩) (ho.nr g ⟨p,hp,Gj⟩).2)
 have hS1:AS.bA ((ks.zip (bz c us)).map (fun n=>(n.1,.live n.2.1))) S=AS.bA (yc [] ks c) S:=by rw[←Hq ho.al [] ks];rfl
 rw[hS1]at h1
 obtain⟨f1,f2,f3,f4,f5⟩:=h.AR (M':=M') hβ ho.nb
 have hi1:(AS.bA (yc [] ks c) S).b i=none:=by rw[(eM _ _).2.2.1];exact hi
 have hfree:KS C (AS.bA (yc [] ks c) S) E1 β:=by
  refine⟨f1,by rw[q1];exact f2,by rw[q3];exact f3,fun j B hB=>?_,fun j R hR e=>?_⟩
  ·rw[(eM _ _).2.2.1]at hB;rw[q2];exact f4 j B hB
  ·by_cases hj:j∈ks
   ·obtain⟨p,hm⟩:=uD (l:=ks) (k:=bz c us) (by omega) hj
    rw[q4 j p hm]at e
    exact(ho.nr β ⟨p,(jt hm).2,e⟩).1 rfl
   ·rw[kK,w8 (fun R hm=>by
     obtain⟨x,hx,e⟩:=List.mem_map.1 (show(j,R)∈(ks.zip (rowsOf c)).map (fun p=>(p.1,lq.live p.2))from hm)
     obtain⟨k,R2⟩:=x
     have e:k=j:=congrArg Prod.fst e
     exact hj (e▸(jt hx).1))]at hR
    rw[q5 j hj]at e
    exact f5 j R hR e
 have h2:=h1.JN hi1 hp hfree ho.hp (oV (w:=w') Dr (by rw[q1];exact ho.al) q4) (fun x hx=>by
  obtain⟨p1,p2⟩:=oW x hx
  refine⟨fun j e=>absurd e (p1 j),fun j e=>?_⟩
  obtain⟨R,hm⟩:=uD (l:=ks) (k:=rowsOf c) Dr (p2 j e)
  obtain⟨R',oB⟩:=CB (l:=yc [] ks c) (j:=j) (R:=.live R) (List.mem_map.2 ⟨(j,R),hm,rfl⟩)
  rw[kK,oB]
  obtain⟨x,hx,e⟩:=List.mem_map.1 (show(j,R')∈(ks.zip (rowsOf c)).map (fun p=>(p.1,lq.live p.2))from w9 oB)
  rw[←show lq.live x.2=R' from congrArg Prod.snd e]
  simp)
 refine⟨{E1 with β:=fun j=>if j=i then β else E1.β j},q1,?_,?_⟩
 rotate_left 1
 ·rw[show AS.fg [(i,(⟨T,bN ks c⟩:om))] S=S.jV i ⟨T,bN ks c⟩from rfl,CE]
  exact h2
 ·show(if i=i then β else E1.β i)=β
  rw[if_pos rfl]
theorem RT.On(hg:Gd ops S gd rg){f:FuncId}[bB P f]{g:Operand}{xs:Array Operand}{at_:Array TypeId}{args:List SV}{T:TypeId}{c:List Oc}(hp:Lq P f args false [] T c)(ks:List Nat)(hks:ks.Nodup)(Dr:ks.length=(rowsOf c).length)(Q6:Un S ks)(hf:S.ev g=.sv (.v (.func (.func f) #[] #[])))(hargs:gw S xs.toList args)(hd:d<S.n)(hdb:S.b d=none)(IP:C.gQ d=none)
  (next:RunT P C ops nd K rest (⟨rg++(au g++xs.toList.flatMap au),[d],ks,⟨some (d,.ptr d 0),[(d,⟨T,bN ks c⟩)],yc [] ks c⟩⟩::acc) ((AS.bA (yc [] ks c) (AS.fg [(d,⟨T,bN ks c⟩)] S)).set d (.ptr d 0))):RunT P C ops nd K (⟨some d,.call ⟨.value g,xs,at_⟩,ty,pos,aft,gd⟩::rest) acc S:=by
 refine .inl ⟨_,[d],ks,_,?_,next⟩
 rintro S' hn ht hb hr i a w L Q ho ⟨E,h⟩ hL
 refine bX (C:=C) ho (hg.wanted h (fun s hs=>ht s (List.mem_append_left _ hs)) rfl) ?_
 have tC:a.eval g=.func (.func f) #[] ⟨[]⟩:=by
  have h1:=h.ev g;rw[aH (fun _ h=>List.mem_append_right _ (List.mem_append_left _ h)) ht,hf]at h1;exact h1
 have hall:=gw.vals h hargs (fun s hs=>ht s (List.mem_append_right _ (List.mem_append_right _ hs)))
 have hdn:S'.b d=none:=by rw[hb d (by simp)];exact hdb
 refine bR (C:=C) (by intro c h;cases h) (nm tC) ?_
 rw[List.append_nil]
 refine⟨fun h=>by simp at h,gC ((hp E.M w _ h.cM hall).mono ?_)⟩
 rintro e w' ⟨β,rs,M',us,rfl,hM,hnew,hin,X6,J3,hβ,Qh,QA⟩
 obtain⟨E',e1,e2,h1⟩:=h.newObj hdn IP hks Dr (Q6.congr hr) hM hnew hin J3 hβ Qh QA
 refine hL _ _ ⟨_,h1.put (x:=.ptr d 0) (v:=.pointer (some ⟨β,0,none⟩)) (by show _=Value.pointer (some ⟨E'.β d,0,none⟩);rw[e2]) ?_ ⟨fun j e=>?_,fun j e=>e.elim⟩⟩
 ·rw[(eM _ _).1];show d<S'.n;omega
 ·have e:j=d:=e
  subst e
  rw[(eM _ _).2.2.1]
  exact⟨_,AS.cx _ _ _⟩
theorem RT.J5(hg:Gd ops S gd rg){f:FuncId}[bB P f]{g:Operand}{xs:Array Operand}{at_:Array TypeId}{args:List SV}{T:TypeId}{c:List Oc}{s:SV}(hp:Lq P f args true [s] T c)(ks:List Nat)(hks:ks.Nodup)(Dr:ks.length=(rowsOf c).length)(Q6:Un S ks)(hf:S.ev g=.sv (.v (.func (.func f) #[] #[])))(hargs:gw S xs.toList args)(hd:d<S.n)(hdb:S.b d=none)(IP:C.gQ d=none)
  (next:RunT P C ops nd K rest (⟨rg++(au g++xs.toList.flatMap au),[d],ks,⟨some (d,.cmp .vW [.box d,.val s]),[(d,⟨T,bN ks c⟩)],yc [] ks c⟩⟩::acc) ((AS.bA (yc [] ks c) (AS.fg [(d,⟨T,bN ks c⟩)] S)).set d (.cmp .vW [.box d,.val s]))):RunT P C ops nd K (⟨some d,.call ⟨.value g,xs,at_⟩,ty,pos,aft,gd⟩::rest) acc S:=by
 refine .inl ⟨_,[d],ks,_,?_,next⟩
 rintro S' hn ht hb hr i a w L Q ho ⟨E,h⟩ hL
 refine bX (C:=C) ho (hg.wanted h (fun s hs=>ht s (List.mem_append_left _ hs)) rfl) ?_
 have tC:a.eval g=.func (.func f) #[] ⟨[]⟩:=by
  have h1:=h.ev g;rw[aH (fun _ h=>List.mem_append_right _ (List.mem_append_left _ h)) ht,hf]at h1;exact h1
 have hall:=gw.vals h hargs (fun s hs=>ht s (List.mem_append_right _ (List.mem_append_right _ hs)))
 have hdn:S'.b d=none:=by rw[hb d (by simp)];exact hdb
 refine bR (C:=C) (by intro c h;cases h) (nm tC) ?_
 rw[List.append_nil]
 refine⟨fun h=>by simp at h,gC ((hp E.M w _ h.cM hall).mono ?_)⟩
 rintro e w' ⟨β,rs,M',us,rfl,hM,hnew,hin,X6,J3,hβ,Qh,QA⟩
 obtain⟨E',e1,e2,h1⟩:=h.newObj hdn IP hks Dr (Q6.congr hr) hM hnew hin J3 hβ Qh QA
 match rs,X6 with
 |[r],X6=>
  refine hL _ _ ⟨_,h1.put (x:=.cmp .vW [.box d,.val s]) (v:=.tuple #[.pointer (some ⟨β,0,none⟩),r]) ⟨[.pointer (some ⟨β,0,none⟩),r],rfl,by show _=Value.pointer (some ⟨E'.β d,0,none⟩);rw[e2],by show s.h E'.M r;rw[e1];exact X6.1,trivial⟩ ?_ ⟨fun j e=>?_,fun j e=>?_⟩⟩
  ·rw[(eM _ _).1];show d<S'.n;omega
  ·have e:j=d:=by simpa[AV.mb]using e
   subst e
   rw[(eM _ _).2.2.1]
   exact⟨_,AS.cx _ _ _⟩
  ·simp[AV.mr]at e
end steps
end Go.Fw
namespace Go.Fw
open Go.RowKit
def zA(P:Program)(f:FuncId)(args:List AV)(T:TypeId)(c:List Oc)(res:SV):Prop:=
 ∀(M:Mem) (w:World) (β:Nat) (vs us:List Value),M.cM w→pX M w β T c us→cO (oX M β) args vs→
  Calls P f ⟨vs⟩ w fun e w'=>∃v M',e=.returned v∧M.le M'∧(∀b o x,M' b o=some x→M b o=some x∨w.heap.size≤b)∧M'.cM w'∧res.h M' v∧
   pX M' w' β T c us∧w'.os=w.os∧w'.tape=w.tape∧w'.output=w.output∧w.heap.size≤w'.heap.size∧∀k,k<w.heap.size→k≠β→¬dU c us k→w'.heap[k]? =w.heap[k]?
def X7:List (Nat×Row×Value)→Nat→Option Value
 |[],_=>none
 |(k,_,v)::l,j=>if j=k then some v else X7 l j
theorem FA:∀{l:List (Nat×Row×Value)} {j:Nat} {v:Value},X7 l j=some v→∃R,(j,R,v)∈l
 |(k,R,u)::l,j,v,h=>by
  rw[X7]at h
  by_cases e:j=k
  ·rw[if_pos e]at h;cases h;subst e;exact⟨R,by simp⟩
  ·rw[if_neg e]at h
   obtain⟨R',hm⟩:=FA h
   exact⟨R',List.mem_cons_of_mem _ hm⟩
 |[],_,_,h=>by cases h
theorem Oo:∀{l:List (Nat×Row×Value)} {j:Nat} {R:Row} {v:Value},(l.map (·.1)).Nodup→(j,R,v)∈l→X7 l j=some v
 |(k,R',v')::l,j,R,v,hn,h=>by
  rw[List.map_cons,List.nodup_cons]at hn
  rw[X7]
  rcases List.mem_cons.1 h with e|e
  ·cases e;rw[if_pos rfl]
  ·have:j≠k:=fun q=>hn.1 (List.mem_map.2 ⟨(j,R,v),e,q⟩)
   rw[if_neg this];exact Oo hn.2 e
theorem Wk{ids:List Nat}(h:(ids.all fun i=>Nat.ble 1000 i)=true):∀i∈ids,1000≤i:=fun i hi=>Nat.le_of_ble_eq_true (List.all_eq_true.1 h i hi)
def Q8(w:World)(M:Mem)(β:Nat)(c:List Oc)(us:List Value)(ids:List Nat)(Dn:(ids.all fun i=>Nat.ble 1000 i)=true):Ctx:={w0:=w,M0:=M,own:=fun k=>k=β∨dU c us k,vc:=fun k=>k=β∨dU c us k,gQ:=fun i=>bif Nat.beq i 1000 then some β else none,dS:=X7 (ids.zip (bz c us)),ro:=none,J:=fun _ _ _ _ _=>True,Dk:=fun _ h=>h,KO:=fun _ _ h=>(by obtain⟨R,hm⟩:=FA h;exact Wk Dn _ (jt hm).1),jf:=fun _ _ _ _ _ _ _ _ _ _ _ _ _ _ _ _=>trivial}
def Oc.cst:Oc→Prop
 |.s x=>∃v,x=.v v
 |.r _=>True
def FB:List Oc→Prop
 |[]=>True
 |c::l=>c.cst∧FB l
theorem FC{M M':Mem}{w w':World}:∀{c:List Oc} {us us':List Value},FB c→oU M w c us→oU M' w' c us'→bz c us=bz c us'→us=us'
 |[],[],[],_,_,_,_=>rfl
 |.s x::l,v::vs,v'::vs',hc,h,h',e=>by
  obtain⟨y,rfl⟩:=hc.1
  have e1:v=y:=h.1
  have e2:v'=y:=h'.1
  rw[e1,e2,FC hc.2 h.2 h'.2 e]
 |.r R::l,v::vs,v'::vs',hc,h,h',e=>by
  rw[bz,bz]at e
  have e1:=(List.cons.inj e).1
  have e2:=(List.cons.inj e).2
  rw[FC hc.2 h.2 h'.2 e2]
  rw[(Prod.mk.inj e1).2]
 |[],[],_::_,_,_,h,_=>h.elim
 |[],_::_,_,_,h,_,_=>h.elim
 |.s _::_,[],_,_,h,_,_=>h.elim
 |.r _::_,[],_,_,h,_,_=>h.elim
 |.s _::_,_::_,[],_,_,h,_=>h.elim
 |.r _::_,_::_,[],_,_,h,_=>h.elim
section steps
variable {P:Program}{C:Ctx}{ops:Array Oper}{S:AS}{nd:Bool}{K:List Ac→AS→Prop}{rest:List Oper}{acc:List Ac}
variable {gd:Option (Nat×Bool)}{rg:List Nat}{d:Nat}{ty:TypeId}{pos:String}{aft:Array Edge}{x y z:Operand}{T U E0:TypeId}
theorem az.J6{E:Env}{a:Act}{w w':World}(h:az C S E a w){i:Nat}{js:List Nat}{c:List Oc}{us:List Value}{M':Mem}(hB:S.b i=some ⟨T,bN js c⟩)(hL:Lv S js (rowsOf c))(Th:js.Nodup)(AN:pX E.M w (E.β i) T c us)
  (hM:E.M.le M') (hn:∀b o x,M' b o=some x→E.M b o=some x∨w.heap.size≤b) (hin:M'.cM w') (ho:pX M' w' (E.β i) T c us)
  (hos:w'.os=w.os) (qQ:w'.tape=w.tape) (hout:w'.output=w.output) (hsize:w.heap.size≤w'.heap.size) (kQ:∀k,k<w.heap.size→k≠E.β i→¬dU c us k→w'.heap[k]? =w.heap[k]?):
  az C S {E with M:=M'} a w':=by
 obtain⟨Ln,adK,Q3,Q9,Lo,ZN⟩:=h.bx i _ hB
 obtain rfl:Q9=us:=by
  rw[AN.hp]at Lo
  have:=Option.some.inj Lo
  injection this with e
  injection e with e
  exact e.symm
 obtain⟨_,X5⟩:=uB h hL ZN
 have hlen:=hL.len
 have EY:∀g,dU c Q9 g↔∃j∈js,(E.ν j).ownBlock=some g:=fun g=>by
  unfold dU
  rw[X5]
  constructor
  ·rintro⟨⟨R,v⟩,hm,hg⟩
   obtain⟨j,hj,rfl⟩:=List.mem_map.1 (jt hm).2
   exact⟨j,hj,hg⟩
  ·rintro⟨j,hj,hg⟩
   obtain⟨R,hR⟩:=uC (l:=rowsOf c) (k:=js.map E.ν) (by simp[hlen]) (List.mem_map.2 ⟨j,hj,rfl⟩)
   exact⟨(R,E.ν j),hR,hg⟩
 have zx:∀g,dU c Q9 g→(C.w0.heap.size≤g∨C.vc g)∧¬E.O g∧(∀n B,S.b n=some B→E.β n≠g)∧∃c e,w.heap[g]? =some (Obj.cells c e (0,0)):=fun g hg=>by
  obtain⟨j,hj,zT⟩:=(EY g).1 hg
  obtain⟨R,hR⟩:=hL.mem j hj
  obtain⟨⟨us,q1,_⟩,q2⟩:=h.rx j R hR
  obtain⟨q3,q4,q5,q6⟩:=q2 g zT
  refine⟨q3,q5,q6,?_⟩
  rcases q1.2 with⟨q7,_⟩|⟨g',cap,cur,q7,_,q8,_⟩
  ·rw[q7]at zT;cases zT
  ·rw[q7]at zT;cases zT;exact⟨_,_,q8⟩
 have keep:∀x:AV,∀v,x.holds E v→x.holds {E with M:=M'} v:=fun x v hv=>AV.cc (E:=E) (E':={E with M:=M'}) hM (fun _ _=>rfl) (fun _ _=>rfl) hv
 have Wh:∀b,b<w.heap.size→(∀o,E.M b o=none)→∀o,M' b o=none:=fun b h1 h2 o=>by
  cases e:M' b o with
  |none=>rfl
  |some v=>
   rcases hn b o v e with q|q
   ·rw[h2 o]at q;cases q
   ·omega
 exact{
  wf:=h.wf
  marks:=by
   obtain⟨ds,d1,d2,d3⟩:=h.marks
   refine⟨ds,d1,d2,fun r hr=>?_⟩
   obtain⟨p1,p2,p3⟩:=d3 r hr
   refine⟨p1,p2,?_⟩
   rw[kQ r (Array.getElem?_eq_some_iff.1 p3).1 (fun e=>by rw[e,Lo]at p3;cases p3) (fun e=>by
    obtain⟨_,_,_,c,e2,q⟩:=zx r e
    rw[q]at p3;cases p3)]
   exact p3
  size:=h.size
  os:=hos.trans h.os
  tape:=qQ.trans h.tape
  output:=hout.trans h.output
  grown:=Nat.le_trans h.grown hsize
  frame:=fun k hk hown=>by
   rw[kQ k (Nat.lt_of_lt_of_le hk h.grown) (fun e=>by
    rcases Ln with q|q
    ·omega
    ·exact hown (C.Dk _ (by rw[e];exact q))) (fun e=>by
    rcases(zx k e).1 with q|q
    ·omega
    ·exact hown (C.Dk _ q))]
   exact h.frame k hk hown
  m0:=Mem.le_trans h.m0 hM
  ez:=fun b o v e=>by
   rcases hn b o v e with q|q
   ·exact h.ez b o v q
   ·exact .inr (.inl (Nat.le_trans h.grown q))
  cM:=hin
  tm:=fun s=>keep _ _ (h.tm s)
  bx:=fun j B fj=>by
   obtain⟨p1,p2,p3,vs,p4,p5⟩:=h.bx j B fj
   have hlt:=(Array.getElem?_eq_some_iff.1 p4).1
   by_cases e:j=i
   ·subst e
    rw[hB]at fj;cases fj
    refine⟨p1,ho.nb,p3,Q9,ho.hp,?_⟩
    exact ZN.imp (fun x _ v hv=>keep x v hv)
   ·refine⟨p1,Wh _ hlt p2,p3,vs,?_,p5.imp (fun x _ v hv=>keep x v hv)⟩
    show w'.heap[E.β j]? =_
    rw[kQ _ hlt (fun q=>e (h.inj j i B _ fj hB q)) (fun q=>(zx _ q).2.2.1 j B fj rfl)];exact p4
  inj:=h.inj
  rx:=fun j R hR=>by
   obtain⟨⟨vs,p1,p2⟩,p3⟩:=h.rx j R hR
   by_cases hj:j∈js
   ·have hz:(R,E.ν j)∈bz c Q9:=by
     rw[X5]
     have key:∀(js:List Nat) (Rs:List Row),Lv S js Rs→j∈js→(R,E.ν j)∈Rs.zip (js.map E.ν):=by
      intro js
      induction js with
      |nil=>intro _ _ h;cases h
      |cons k js ih=>
       intro Rs hl hm
       cases Rs with
       |nil=>exact hl.elim
       |cons R' Rs=>
        rw[List.map_cons,List.zip_cons_cons]
        rcases List.mem_cons.1 hm with q|q
        ·subst q
         have:=hl.1
         rw[hR]at this;cases this
         simp
        ·exact List.mem_cons_of_mem _ (ih Rs hl.2 q)
     exact key js _ hL hj
    refine⟨kT ho.al _ hz,fun g hg=>?_⟩
    obtain⟨p4,p5,p6,p7⟩:=p3 g hg
    exact⟨p4,(ho.nr g ⟨_,hz,hg⟩).2,p6,p7⟩
   ·have ZK:∀g,(E.ν j).ownBlock=some g→¬dU c Q9 g:=fun g hg q=>by
     obtain⟨j',hj',e⟩:=(EY g).1 q
     obtain⟨R',oB⟩:=hL.mem j' hj'
     have:=h.ff j j' R R' hR oB g hg e
     subst this;exact hj hj'
    refine⟨⟨vs,cX p1 fun g hg=>kQ g (jw h hR hg) (fun e=>(p3 g hg).2.2.2 i _ hB e.symm) (ZK g hg),p2.mono hM⟩,fun g hg=>?_⟩
    obtain⟨p4,p5,p6,p7⟩:=p3 g hg
    exact⟨p4,Wh g (jw h hR hg) p5,p6,p7⟩
  ff:=h.ff
  gQ:=h.gQ
  dS:=h.dS
  kV:=fun b hb=>by
   obtain⟨p1,p2,p3⟩:=h.kV b hb
   exact⟨Nat.lt_of_lt_of_le p1 hsize,Wh b p1 p2,p3⟩
  jj:=C.jf S.g S.go E.O E.M M' w w' h.jj hM hin (fun b o v e=>by
    rcases hn b o v e with q|q
    ·exact .inl q
    ·exact .inr ⟨.inl (Nat.le_trans h.grown q),fun q2=>by have:=(h.kV b q2).1;omega⟩) (fun b hb=>by
    have hb':b<w.heap.size:=by
     rcases hb with⟨q,_⟩|q
     ·exact Nat.lt_of_lt_of_le q h.grown
     ·exact(h.kV b q).1
    refine kQ b hb' (fun e=>?_) (fun e=>?_)
    ·subst e
     rcases hb with⟨q1,q2⟩|q
     ·rcases Ln with p|p
      ·omega
      ·exact q2 p
     ·exact Q3 q
    ·obtain⟨o1,o3,_⟩:=zx b e
     rcases hb with⟨q1,q2⟩|q
     ·rcases o1 with p|p
      ·omega
      ·exact q2 p
     ·exact o3 q) hos qQ hout hsize}
theorem RT.jQ(hg:Gd ops S gd rg){f:FuncId}[bB P f]{g:Operand}{xs:Array Operand}{at_:Array TypeId}{args:List AV}{T:TypeId}{c:List Oc}{res:SV}(hp:zA P f args T c res)(i:Nat)(js:List Nat)(hB:S.b i=some ⟨T,bN js c⟩)(hL:Lv S js (rowsOf c))(Th:js.Nodup)
  (J1:args.all AV.oy=true) (hf:S.ev g=.sv (.v (.func (.func f) #[] #[]))) (hargs:wK S xs.toList (args.map (AV.Te i))) (hd:d<S.n)
  (next:RunT P C ops nd K rest (⟨rg++(au g++xs.toList.flatMap au),[i],js,⟨some (d,.sv res),[],[]⟩⟩::acc) (S.set d (.sv res))):RunT P C ops nd K (⟨some d,.call ⟨.value g,xs,at_⟩,ty,pos,aft,gd⟩::rest) acc S:=by
 refine .inl ⟨_,[i],js,_,?_,next⟩
 rintro S' hn ht hb hr k a w L Q ho ⟨E,h⟩ ZL
 refine bX (C:=C) ho (hg.wanted h (fun s hs=>ht s (List.mem_append_left _ hs)) rfl) ?_
 have tC:a.eval g=.func (.func f) #[] ⟨[]⟩:=by
  have h1:=h.ev g;rw[aH (fun _ h=>List.mem_append_right _ (List.mem_append_left _ h)) ht,hf]at h1;exact h1
 have hall:=A0 J1 (wK.vals h hargs (fun s hs=>ht s (List.mem_append_right _ (List.mem_append_right _ hs))))
 have fj:S'.b i=some ⟨T,bN js c⟩:=by rw[hb i (by simp)];exact hB
 have Ti:Lv S' js (rowsOf c):=hL.congr (fun k hk=>hr k hk)
 obtain⟨us,Q7,CD⟩:=qR h fj Ti Th
 refine bR (C:=C) (by intro c h;cases h) (nm tC) ?_
 rw[List.append_nil]
 refine⟨fun h=>by simp at h,gC ((hp E.M w (E.β i) _ us h.cM Q7 hall).mono ?_)⟩
 rintro e w' ⟨v,M',rfl,hM,hnew,hin,hv,J3,hos,qQ,hout,hsize,kQ⟩
 have h1:=h.J6 fj Ti Th Q7 hM hnew hin J3 hos qQ hout hsize kQ
 exact ZL _ _ ⟨_,h1.put (x:=.sv res) (v:=v) hv (by show d<S'.n;omega) eR⟩
end steps
end Go.Fw
namespace Go.Fw
open Go.RowKit
section
variable {P:Program}
def Wm(P:Program)(f:FuncId)(args:List SV)(c:List Oc):Prop:=
 ∀(M:Mem) (w:World) (vs:List Value),M.cM w→SV.dR M args vs→
  Calls P f ⟨vs⟩ w fun e w'=>∃us M',e=.returned (.agg ⟨us⟩)∧M.le M'∧(∀b o x,M' b o=some x→M b o=some x∨w.heap.size≤b)∧M'.cM w'∧oU M' w' c us∧
   (∀g,dU c us g→w.heap.size≤g∧∀o,M' g o=none)∧Ho (bz c us)∧Below w.heap.size w w'
theorem Wm.w{f:FuncId}{args args':List SV}{c:List Oc}(h:Wm P f args c)(hi:bQ args' args):Wm P f args' c:=fun M w vs hM hv=>h M w vs hM (hi.holds hv)
end
section
variable {P:Program}{C:Ctx}{ops:Array Oper}{S:AS}{nd:Bool}{K:List Ac→AS→Prop}{rest:List Oper}{acc:List Ac}
variable {gd:Option (Nat×Bool)}{rg:List Nat}{d:Nat}{ty:TypeId}{pos:String}{aft:Array Edge}{x y z:Operand}{T U E0:TypeId}
inductive CF (S:AS):List (Nat×Operand)→List (Nat×Fc)→Prop
 |nil:CF S [] []
 |one {i:Nat} {x:Operand} {s:SV} {ps:List (Nat×Operand)} {qs:List (Nat×Fc)} [o:One s] (h:S.ev x=.sv s) (t:CF S ps qs):CF S ((i,x)::ps) ((i,.val s)::qs)
 |row {i j:Nat} {x:Operand} {R:Row} {ps:List (Nat×Operand)} {qs:List (Nat×Fc)} (h:S.ev x=.row j) (hR:S.r j=.live R) (t:CF S ps qs):CF S ((i,x)::ps) ((i,.row j)::qs)
end
end Go.Fw
namespace Go.Proofs.YtningmnklfpfjaaGreat
open Go.Fw
noncomputable def ot(x0:Lr):Option (Sz):=match x0 with|⟨aB,aC,aJ,aL⟩=>(some (aC.length:Int)).bind fun x7=>(some (aJ.length:Int)).bind fun dm=>(some (aL.length:Int)).bind fun fB=>some ⟨aB,x7,dm,fB⟩
noncomputable def iL(x0:Lr):Option (Bool):=match x0 with|⟨aB,aC,aJ,aL⟩=>(ot ⟨aB,aC,aJ,aL⟩).bind fun⟨DG,G5,DH,Fv⟩=>cm (fun(Oq:Bool)=>(bif Oq then some false else cm (fun(Jh:Bool)=>(bif Jh then some false else cm (fun(Tj:Bool)=>some Tj) fun K16=>(kR aC).bind fun oC=>(some (decide ((oC:Int)≤DG))).bind fun tg=>(bif tg then(kR aJ).bind fun vn=>(some (decide ((vn:Int)≤DG))).bind fun vp=>some vp else some false).bind fun Ot=>K16 Ot)) fun L1=>(some (decide ((128:Int)<DH))).bind fun lI=>(bif lI then some true else(some (decide ((Fv:Int)≠DH))).bind fun iD=>some iD).bind fun Ou=>L1 Ou)) fun Tk=>(some (decide ((DG:Int)<0))).bind fun x8=>(bif x8 then some true else(some (decide ((64:Int)<DG))).bind fun dB=>some dB).bind fun Ov=>(bif Ov then some true else(some (decide ((G5:Int)<1))).bind fun eT=>some eT).bind fun Wn=>(bif Wn then some true else(some (decide ((4:Int)<G5))).bind fun iP=>some iP).bind fun Wo=>Tk Wo
noncomputable def wz(x0:Lr)(x1:List Qr):Option (List Qr):=match x0 with|⟨aB,aC,aJ,aL⟩=>(j0 aC x1).bind fun x8=>some x8
noncomputable def oY(x0:Lr)(x1:List Qr):Option (List Qr):=match x0 with|⟨aB,aC,aJ,aL⟩=>(lH (fun(k:Nat) (mS:(List Qr))=>(show Option ((List Qr))from(some ((Lr.rows ⟨aB,aC,aJ,aL⟩).getD k [])).bind fun p10=>(some ((Lr.bounds ⟨aB,aC,aJ,aL⟩).getD k (⟨⟨false,[]⟩,⟨false,[]⟩⟩:Qr))).bind fun⟨⟨Hf,Hg⟩,⟨Hh,Hi⟩⟩=>(jX p10 x1).bind fun⟨⟨jz,jA⟩,⟨z6,z7⟩⟩=>(jO ⟨⟨Hf,Hg⟩,⟨Hh,Hi⟩⟩ ⟨⟨jz,jA⟩,⟨z6,z7⟩⟩).bind fun⟨⟨kY,kZ⟩,⟨oR,oS⟩⟩=>(xy 64 mS [⟨⟨kY,kZ⟩,⟨oR,oS⟩⟩]).bind fun kW=>some kW)) ((Lr.rows ⟨aB,aC,aJ,aL⟩).length) []).bind fun mS=>some mS
noncomputable def lS(x0:Lr)(x1:List Qr):Option (List Qr):=match x0 with|⟨aB,aC,aJ,aL⟩=>(qo aC x1).bind fun x8=>some x8
end Go.Proofs.YtningmnklfpfjaaGreat
namespace Go.Proofs.YtningmnklfpfjaaGreat
open Go.Fw Go.Fw.Z Go.RowKit
instance:St4 Tryz.prog 97 3:=⟨by kernel_rfl,by kernel_rfl,by kernel_rfl,by kernel_rfl⟩
theorem ye(p:Lr):Pure Tryz.prog 85 [.agg (Gm p)] (gS 126 [ref [.v (.int .i64 p.vars),(slc 1 (List.map (eS 4 eQ) p.pK)),(slc 1 (List.map (eS 4 eQ) p.rows)),(slc 4 (List.map eQ p.bounds))]]):=by
 refine ay Tryz.func85 rfl (Nat.le_of_ble_eq_true rfl) (fun cG M vs hvs=>?_)
 refine sr<|bx rfl<|ag rfl<|dn<|sr<|RT.makeFunc .none (.box rfl (.nil)) T<|an (s:=.ey _ _) rfl<|dn ?_
 refine bh (gz (i:=1) rfl [.v (.int .i64 p.vars),(slc 1 (List.map (eS 4 eQ) p.pK)),(slc 1 (List.map (eS 4 eQ) p.rows)),(slc 4 (List.map eQ p.bounds))] (.cons rfl (.cons rfl (.cons rfl (.cons rfl .nil)))) .any 0 [(2,.ey 126 [.val (ref [.v (.int .i64 p.vars),(slc 1 (List.map (eS 4 eQ) p.pK)),(slc 1 (List.map (eS 4 eQ) p.rows)),(slc 4 (List.map eQ p.bounds))])])] (fun _ _ _=>trivial) (qy.h (l:=[.v (.int .i64 p.vars),(slc 1 (List.map (eS 4 eQ) p.pK)),(slc 1 (List.map (eS 4 eQ) p.rows)),(slc 4 (List.map eQ p.bounds))])) ⟨@FT.ey _ _ _ _ _ 2 126 [.box 1] rfl,trivial⟩)<|bh (E4 2 (gS 126 [ref [.v (.int .i64 p.vars),(slc 1 (List.map (eS 4 eQ) p.pK)),(slc 1 (List.map (eS 4 eQ) p.rows)),(slc 4 (List.map eQ p.bounds))]]) (fun _ _ h=>E5 h)) ?_
 exact aj<|⟨.inr rfl,EZ (.tmp rfl (.nil)) rfl⟩
theorem yf(p:Lr):Iter Tryz.prog 126 [ref [.v (.int .i64 p.vars),(slc 1 (List.map (eS 4 eQ) p.pK)),(slc 1 (List.map (eS 4 eQ) p.rows)),(slc 4 (List.map eQ p.bounds))]] p.rows.length (fun k=>[(slc 4 (List.map eQ (p.rows.getD k []))),.agg (eQ (p.bounds.getD k (⟨⟨false,[]⟩,⟨false,[]⟩⟩:Qr)))]):=by
 refine rI Tryz.func126 rfl rfl (Nat.le_of_ble_eq_true rfl) (fun cG M O l J hJ yT hr=>?_)
 obtain⟨oI,yT⟩:=yT
 have hla:p.rows.length≤9223372036854775807:=by cases oI with|nil=>exact yT.elim|cons _ oI=>exact Oj yT.1
 refine aO ?_
 refine af ?_
 refine RT.aT .none rfl (tl rfl) rfl ?_
 refine RT.cV .none rfl rfl (tl rfl) ?_
 refine RT.len .none rfl (tl rfl) ?_
 refine RT.mv .none rfl (tl rfl) ?_
 refine RT.done ?_
 refine ae.n ?_
 refine ak ?_
 refine xE (I:=fun x:{i:Nat//i≤p.rows.length}=>AS.bG 30 [(0,.sv (.v (.func (.yield l) #[] #[]))),(1,.sv (ref [.v (.int .i64 p.vars),(slc 1 (List.map (eS 4 eQ) p.pK)),(slc 1 (List.map (eS 4 eQ) p.rows)),(slc 4 (List.map eQ p.bounds))])),(7,.sv ((slc 1 (List.map (eS 4 eQ) p.rows)))),(8,.sv (.v (.int .i64 ((p.rows.length:Nat):Int)))),(9,.sv (.v (.int .i64 ((x.1:Nat):Int))))] [] [] (x.1)) (μ:=fun x=>p.rows.length-x.1) ⟨0,by omega⟩ (by(try dsimp only);exact cH id rfl rfl rfl rfl rfl ⟨.sv (by first|exact SV.aa _|exact SV.aq (by omega)|exact SV.aq (by push_cast;omega)|exact SV.aq (by dsimp only;omega)|exact SV.imp_eq (by simp)),.sv (by first|exact SV.aa _|exact SV.aq (by omega)|exact SV.aq (by push_cast;omega)|exact SV.aq (by dsimp only;omega)|exact SV.imp_eq (by simp)),.sv (by first|exact SV.aa _|exact SV.aq (by omega)|exact SV.aq (by push_cast;omega)|exact SV.aq (by dsimp only;omega)|exact SV.imp_eq (by simp)),.sv (SV.aq (by simp)),.sv (by first|exact SV.aa _|exact SV.aq (by omega)|exact SV.aq (by push_cast;omega)|exact SV.aq (by dsimp only;omega)|exact SV.imp_eq (by simp)),trivial⟩ trivial trivial (fun _ _=>rfl)) ?_
 rintro⟨i,U0⟩
 try dsimp only
 rcases Jg p.rows p.bounds i U0 with⟨hi,hb⟩|⟨hi,hb⟩|hi
 ·
  refine aO ?_
  refine af ?_
  refine RT.lss .none (true) rfl rfl (tl rfl) (by simp;omega) ?_
  refine RT.done ?_
  refine ae.n ?_
  refine aO ?_
  refine cj rfl ?_
  refine aE ?_
  refine ae.n ?_
  refine aO ?_
  refine ak ?_
  refine aO ?_
  refine af ?_
  refine RT.mv .none rfl (tl rfl) ?_
  refine RT.Ms .none [(slc 4 (List.map eQ (p.rows.getD i [])))] (Int.natCast_nonneg i) (by rw[Int.toNat_natCast,List.getElem?_map,dZ hi];rfl) rfl rfl (tl rfl) ?_
  refine RT.cV .none rfl rfl (tl rfl) ?_
  refine RT.Br .none rfl (tl rfl) ?_
  refine RT.Br .none rfl (tl rfl) ?_
  refine RT.done ?_
  refine ae.n ?_
  refine aO ?_
  refine af ?_
  refine RT.rK .none (cs:=eQ ⟨⟨false,[]⟩,⟨false,[]⟩⟩) (by exact⟨SV.aa _,imp_nil,SV.aa _,imp_nil,trivial⟩) rfl (tl rfl) rfl rfl ?_
  refine RT.done ?_
  refine ae.n ?_
  refine aO ?_
  refine aO ?_
  refine af ?_
  refine RT.mv .none rfl (tl rfl) ?_
  refine RT.aT .none rfl (tl rfl) rfl ?_
  refine RT.cV .none rfl rfl (tl rfl) ?_
  refine RT.len .none rfl (tl rfl) ?_
  refine RT.lss .none (true) rfl rfl (tl rfl) (by simp only[List.length_map];simp;omega) ?_
  refine RT.done ?_
  refine ae.n ?_
  refine cj rfl ?_
  refine af ?_
  refine RT.aT .none rfl (tl rfl) rfl ?_
  refine RT.cV .none rfl rfl (tl rfl) ?_
  refine RT.mv .none rfl (tl rfl) ?_
  refine RT.Ms .none [.v (.bool (p.bounds.getD i (⟨⟨false,[]⟩,⟨false,[]⟩⟩:Qr)).num.neg),slc 1 ((p.bounds.getD i (⟨⟨false,[]⟩,⟨false,[]⟩⟩:Qr)).num.w.map ah),.v (.bool (p.bounds.getD i (⟨⟨false,[]⟩,⟨false,[]⟩⟩:Qr)).den.neg),slc 1 ((p.bounds.getD i (⟨⟨false,[]⟩,⟨false,[]⟩⟩:Qr)).den.w.map ah)] (Int.natCast_nonneg i) (by rw[Int.toNat_natCast,List.getElem?_map,dZ hb];rfl) rfl rfl (tl rfl) ?_
  refine RT.gD .none rfl (tl rfl) (cs:=[.v (.bool (p.bounds.getD i (⟨⟨false,[]⟩,⟨false,[]⟩⟩:Qr)).num.neg),slc 1 ((p.bounds.getD i (⟨⟨false,[]⟩,⟨false,[]⟩⟩:Qr)).num.w.map ah),.v (.bool (p.bounds.getD i (⟨⟨false,[]⟩,⟨false,[]⟩⟩:Qr)).den.neg),slc 1 ((p.bounds.getD i (⟨⟨false,[]⟩,⟨false,[]⟩⟩:Qr)).den.w.map ah)]) rfl rfl ?_
  refine RT.store .none rfl rfl rfl rfl rfl ?_
  refine RT.done ?_
  refine ae.n ?_
  refine aO ?_
  refine af ?_
  refine RT.mv .none rfl (tl rfl) ?_
  refine RT.mv .none rfl (tl rfl) ?_
  refine RT.load .none rfl rfl (.cons rfl (.cons rfl (.cons rfl (.cons rfl (.nil))))) rfl (tl rfl) ?_
  refine RT.yield .none hr rfl (fun _ h=>h) rfl (i) rfl rfl hi (by exact⟨rfl,rfl,trivial⟩) (tl rfl) (fun yb=>?_)
  cases yb
  ·
   refine RT.not .none rfl (tl rfl) true rfl ?_
   refine RT.done ?_
   refine ae.n ?_
   refine cj rfl ?_
   refine aj ?_
   refine aG.r ?_
   refine ae.r ?_
   refine ae.r ?_
   refine aG.r ?_
   exact⟨.inr rfl,(fun h=>by cases h)⟩
  ·
   refine RT.not .none rfl (tl rfl) false rfl ?_
   refine RT.done ?_
   refine ae.n ?_
   refine dM rfl ?_
   refine aE ?_
   refine aG.n ?_
   refine ae.n ?_
   refine af ?_
   refine RT.add .none (((i:Nat):Int)+1) rfl rfl (tl rfl) (lG (by omega)) ?_
   refine RT.mv .none rfl (tl rfl) ?_
   refine RT.done ?_
   refine ae.n ?_
   refine⟨⟨i+1,by omega⟩,(by dsimp only;omega),?_⟩
   try dsimp only
   exact cH id rfl rfl rfl rfl rfl ⟨.sv (by first|exact SV.aa _|exact SV.aq (by omega)|exact SV.aq (by push_cast;omega)|exact SV.aq (by dsimp only;omega)|exact SV.imp_eq (by simp)),.sv (by first|exact SV.aa _|exact SV.aq (by omega)|exact SV.aq (by push_cast;omega)|exact SV.aq (by dsimp only;omega)|exact SV.imp_eq (by simp)),.sv (by first|exact SV.aa _|exact SV.aq (by omega)|exact SV.aq (by push_cast;omega)|exact SV.aq (by dsimp only;omega)|exact SV.imp_eq (by simp)),.sv (by first|exact SV.aa _|exact SV.aq (by omega)|exact SV.aq (by push_cast;omega)|exact SV.aq (by dsimp only;omega)|exact SV.imp_eq (by simp)),.sv (by first|exact SV.aa _|exact SV.aq (by omega)|exact SV.aq (by push_cast;omega)|exact SV.aq (by dsimp only;omega)|exact SV.imp_eq (by simp)),trivial⟩ trivial trivial (fun _ _=>rfl)
 ·
  refine aO ?_
  refine af ?_
  refine RT.lss .none (true) rfl rfl (tl rfl) (by simp;omega) ?_
  refine RT.done ?_
  refine ae.n ?_
  refine aO ?_
  refine cj rfl ?_
  refine aE ?_
  refine ae.n ?_
  refine aO ?_
  refine ak ?_
  refine aO ?_
  refine af ?_
  refine RT.mv .none rfl (tl rfl) ?_
  refine RT.Ms .none [(slc 4 (List.map eQ (p.rows.getD i [])))] (Int.natCast_nonneg i) (by rw[Int.toNat_natCast,List.getElem?_map,dZ hi];rfl) rfl rfl (tl rfl) ?_
  refine RT.cV .none rfl rfl (tl rfl) ?_
  refine RT.Br .none rfl (tl rfl) ?_
  refine RT.Br .none rfl (tl rfl) ?_
  refine RT.done ?_
  refine ae.n ?_
  refine aO ?_
  refine af ?_
  refine RT.rK .none (cs:=eQ ⟨⟨false,[]⟩,⟨false,[]⟩⟩) (by exact⟨SV.aa _,imp_nil,SV.aa _,imp_nil,trivial⟩) rfl (tl rfl) rfl rfl ?_
  refine RT.done ?_
  refine ae.n ?_
  refine aO ?_
  refine aO ?_
  refine af ?_
  refine RT.mv .none rfl (tl rfl) ?_
  refine RT.aT .none rfl (tl rfl) rfl ?_
  refine RT.cV .none rfl rfl (tl rfl) ?_
  refine RT.len .none rfl (tl rfl) ?_
  refine RT.lss .none (false) rfl rfl (tl rfl) (by simp only[List.length_map];simp;omega) ?_
  refine RT.done ?_
  refine ae.n ?_
  refine dM rfl ?_
  refine aE ?_
  refine ae.n ?_
  refine aO ?_
  refine af ?_
  refine RT.mv .none rfl (tl rfl) ?_
  refine RT.mv .none rfl (tl rfl) ?_
  refine RT.load .none rfl rfl (.cons rfl (.cons rfl (.cons rfl (.cons rfl (.nil))))) rfl (tl rfl) ?_
  refine RT.yield .none hr rfl (fun _ h=>h) rfl (i) rfl rfl hi (by exact⟨rfl,(by show AV.sv _=AV.sv _;rw[iy hb]),trivial⟩) (tl rfl) (fun yb=>?_)
  cases yb
  ·
   refine RT.not .none rfl (tl rfl) true rfl ?_
   refine RT.done ?_
   refine ae.n ?_
   refine cj rfl ?_
   refine aj ?_
   refine aG.r ?_
   refine ae.r ?_
   refine ae.r ?_
   refine aG.r ?_
   exact⟨.inr rfl,(fun h=>by cases h)⟩
  ·
   refine RT.not .none rfl (tl rfl) false rfl ?_
   refine RT.done ?_
   refine ae.n ?_
   refine dM rfl ?_
   refine aE ?_
   refine aG.n ?_
   refine ae.n ?_
   refine af ?_
   refine RT.add .none (((i:Nat):Int)+1) rfl rfl (tl rfl) (lG (by omega)) ?_
   refine RT.mv .none rfl (tl rfl) ?_
   refine RT.done ?_
   refine ae.n ?_
   refine⟨⟨i+1,by omega⟩,(by dsimp only;omega),?_⟩
   try dsimp only
   exact cH id rfl rfl rfl rfl rfl ⟨.sv (by first|exact SV.aa _|exact SV.aq (by omega)|exact SV.aq (by push_cast;omega)|exact SV.aq (by dsimp only;omega)|exact SV.imp_eq (by simp)),.sv (by first|exact SV.aa _|exact SV.aq (by omega)|exact SV.aq (by push_cast;omega)|exact SV.aq (by dsimp only;omega)|exact SV.imp_eq (by simp)),.sv (by first|exact SV.aa _|exact SV.aq (by omega)|exact SV.aq (by push_cast;omega)|exact SV.aq (by dsimp only;omega)|exact SV.imp_eq (by simp)),.sv (by first|exact SV.aa _|exact SV.aq (by omega)|exact SV.aq (by push_cast;omega)|exact SV.aq (by dsimp only;omega)|exact SV.imp_eq (by simp)),.sv (by first|exact SV.aa _|exact SV.aq (by omega)|exact SV.aq (by push_cast;omega)|exact SV.aq (by dsimp only;omega)|exact SV.imp_eq (by simp)),trivial⟩ trivial trivial (fun _ _=>rfl)
 ·
  subst hi
  refine aO ?_
  refine af ?_
  refine RT.lss .none (false) rfl rfl (tl rfl) (by simp) ?_
  refine RT.done ?_
  refine ae.n ?_
  refine aO ?_
  refine dM rfl ?_
  refine aZ ?_
  refine ae.x ?_
  refine ae.x ?_
  refine aG.x ?_
  exact⟨.inl rfl,(fun _=>rfl)⟩
theorem DL{x0:Lr}{r:Sz}(h:ot x0=some r):Pure Tryz.prog 83 [.agg (Gm x0)] (.agg (eSz r)):=by
 obtain⟨aB,aC,aJ,aL⟩:=x0
 refine ay Tryz.func83 rfl (Nat.le_of_ble_eq_true rfl) (fun cG M vs hvs=>?_)
 unfold ot at h
 refine sr<|bx rfl<|al (cs:=[.v (.int .i64 0),.v (.int .i64 0),.v (.int .i64 0),.v (.int .i64 0)]) (by exact⟨SV.aa _,SV.aa _,SV.aa _,SV.aa _,trivial⟩) rfl<|dn<|sr<|fa rfl rfl<|lV rfl rfl rfl<|fa rfl rfl<|lV rfl rfl rfl<|lE h fun x7 h7 h=>ln rfl h7<|fa rfl rfl<|lV rfl rfl rfl<|lE h fun dm fD h=>ln rfl fD<|fa rfl rfl ?_
 refine lV rfl rfl rfl<|lE h fun fB fT h=>ln rfl fT<|bI (cs:=[_,_,_,_]) (cs':=[.v (.int .i64 aB),.v (.int .i64 x7),.v (.int .i64 dm),.v (.int .i64 fB)]) (.one rfl (.one rfl (.one rfl (.one rfl (.nil))))) ⟨SV.aa _,SV.aa _,SV.aa _,SV.aa _,trivial⟩<|so rfl rfl rfl<|dn<|aj ?_
 obtain rfl:=O h
 exact RZ (.agg rfl rfl (.cons rfl (.cons rfl (.cons rfl (.cons rfl (.nil))))) rfl (.nil))
theorem uE{x0:Lr}{r:Bool}(h:iL x0=some r):Pure Tryz.prog 34 [.agg (Gm x0)] (.v (.bool r)):=by
 obtain⟨aB,aC,aJ,aL⟩:=x0
 refine ay Tryz.func34 rfl (Nat.le_of_ble_eq_true rfl) (fun cG M vs hvs=>?_)
 unfold iL at h
 refine sr<|bx rfl<|ag rfl<|dn<|sr<|ld rfl rfl (.cons rfl (.cons rfl (.cons rfl (.cons rfl (.nil))))) ?_
 obtain⟨⟨DG,G5,DH,Fv⟩,h5,h⟩:=bS h
 refine cl (DL h5) ⟨rfl,trivial⟩<|al (cs:=[.v (.int .i64 0),.v (.int .i64 0),.v (.int .i64 0),.v (.int .i64 0)]) (by exact⟨SV.aa _,SV.aa _,SV.aa _,SV.aa _,trivial⟩) rfl<|so rfl rfl rfl<|dn<|qq<|qq ?_
 refine aF h (fun Wp=>AS.bG 48 [(1,.ptr 1 0),(3,.ptr 3 0),(23,.sv (.v (.bool Wp)))] [(3,⟨97,[.sv (.v (.int .i64 DG)),.sv (.v (.int .i64 G5)),.sv (.v (.int .i64 DH)),.sv (.v (.int .i64 Fv))]⟩),(1,⟨25,[.sv (.v (.int .i64 aB)),.sv (slc 1 (List.map (eS 4 eQ) aC)),.sv (slc 1 (List.map (eS 4 eQ) aJ)),.sv (slc 4 (List.map eQ aL))]⟩)] []) (fun h=>?_) (fun Oq h=>?_)
 refine af<|fa rfl rfl<|lV rfl rfl rfl<|lE h fun x8 h8 h=>ls _ rfl rfl h8<|mv rfl<|bE h fun Ov vP h=>?_
 cases x8
 refine RT.fieldAddr (.some rfl rfl) rfl T rfl<|RT.tH (.some rfl rfl) rfl rfl rfl T<|lE (F vP) fun dB eI vP=>gg _ rfl rfl eI ?_
 obtain rfl:=O vP
 refine pF rfl<|mv rfl<|bE h fun adT Ls h=>?_
 cases dB
 refine RT.fieldAddr (.some rfl rfl) rfl T rfl<|RT.tH (.some rfl rfl) rfl rfl rfl T<|lE (F Ls) fun eT jD Ls=>RT.lss (.some rfl rfl) _ rfl rfl T jD ?_
 obtain rfl:=O Ls
 refine pF rfl<|mv rfl<|bE h fun Ox Ra h=>?_
 cases eT
 refine RT.fieldAddr (.some rfl rfl) rfl T rfl<|RT.tH (.some rfl rfl) rfl rfl rfl T<|lE (F Ra) fun iP mD Ra=>gg _ rfl rfl mD ?_
 obtain rfl:=O Ra
 exact pF rfl<|dn<|⟨iP,h,wR []⟩
 obtain rfl:=O (V Ra)
 exact ww<|ww<|ww<|pT rfl<|dn<|⟨true,h,wR []⟩
 obtain rfl:=O (V Ls)
 refine ww<|ww<|ww<|pT rfl<|mv rfl<|bE h fun Wq uF h=>?_
 obtain rfl:=O (V uF)
 exact ww<|ww<|ww<|pT rfl<|dn<|⟨true,h,wR []⟩
 obtain rfl:=O (V vP)
 refine ww<|ww<|ww<|pT rfl<|mv rfl<|bE h fun adU sy h=>?_
 obtain rfl:=O (V sy)
 refine ww<|ww<|ww<|pT rfl<|mv rfl<|bE h fun adV uG h=>?_
 obtain rfl:=O (V uG)
 exact ww<|ww<|ww<|pT rfl<|dn<|⟨true,h,wR []⟩
 try dsimp only
 refine ae.n ?_
 cases Oq
 refine fs<|qq<|qq ?_
 refine aF (F h) (fun Lh=>AS.bG 48 [(1,.ptr 1 0),(3,.ptr 3 0),(33,.sv (.v (.bool Lh)))] [(3,⟨97,[.sv (.v (.int .i64 DG)),.sv (.v (.int .i64 G5)),.sv (.v (.int .i64 DH)),.sv (.v (.int .i64 Fv))]⟩),(1,⟨25,[.sv (.v (.int .i64 aB)),.sv (slc 1 (List.map (eS 4 eQ) aC)),.sv (slc 1 (List.map (eS 4 eQ) aJ)),.sv (slc 4 (List.map eQ aL))]⟩)] []) (fun h=>?_) (fun Jh h=>?_)
 refine af<|fa rfl rfl<|lV rfl rfl rfl<|lE h fun lI nT h=>gt _ rfl rfl nT<|mv rfl<|bE h fun Ou kF h=>?_
 cases lI
 refine RT.fieldAddr (.some rfl rfl) rfl T rfl<|RT.tH (.some rfl rfl) rfl rfl rfl T<|RT.fieldAddr (.some rfl rfl) rfl T rfl<|RT.tH (.some rfl rfl) rfl rfl rfl T<|lE (F kF) fun iD kz kF=>gq _ rfl rfl (Gk (p:=Fv) (q:=DH) kz) ?_
 obtain rfl:=O kF
 exact pF rfl<|dn<|⟨iD,h,wR []⟩
 obtain rfl:=O (V kF)
 exact ww<|ww<|ww<|ww<|ww<|pT rfl<|dn<|⟨true,h,wR []⟩
 try dsimp only
 refine ae.n ?_
 cases Jh
 refine fs<|qq ?_
 refine aF (F h) (fun Zt=>AS.bG 48 [(2,.sv (.v (.bool Zt)))] [] []) (fun h=>?_) (fun Tj h=>?_)
 refine ai mixed<|fa rfl rfl<|lV rfl rfl rfl<|bE h fun oC pL h=>cl (uA pL) ⟨rfl,trivial⟩<|fa rfl rfl<|lV rfl rfl rfl<|lE h fun tg BX h=>RT.leq .none _ rfl rfl T BX<|mv rfl<|bE h fun Ot ju h=>?_
 cases tg
 obtain rfl:=O (F ju)
 refine ww<|ww<|ww<|ww<|ww<|ww<|pF rfl<|ag rfl ?_
 refine RT.done ⟨by kernel_rfl,?_⟩
 exact ae.n<|⟨false,h,wR []⟩
 refine RT.fieldAddr (.some rfl rfl) rfl T rfl<|RT.tH (.some rfl rfl) rfl rfl rfl T<|bE (V ju) fun vn Dj ju=>gc (uA Dj) ⟨rfl,trivial⟩<|RT.fieldAddr (.some rfl rfl) rfl T rfl<|RT.tH (.some rfl rfl) rfl rfl rfl T<|lE ju fun vp h46 ju=>RT.leq (.some rfl rfl) _ rfl rfl T h46 ?_
 obtain rfl:=O ju
 refine pT rfl<|ag rfl ?_
 refine RT.done ⟨by kernel_rfl,?_⟩
 exact ae.n<|⟨vp,h,wR []⟩
 try dsimp only
 refine ae.n<|aj ?_
 obtain rfl:=O h
 exact R1 rfl
 refine cT<|sr<|ag rfl<|dn<|aj<|ae.r ?_
 obtain rfl:=O (V h)
 exact R1 rfl
 refine cT<|sr<|ag rfl<|dn<|aj<|ae.r ?_
 obtain rfl:=O (V h)
 exact R1 rfl
theorem Hu{x0:Lr}{x1:List Qr}{r:List Qr}(h:oY x0 x1=some r):Pure Tryz.prog 48 [.agg (Gm x0),slc 4 (List.map eQ x1)] (slc 4 (List.map eQ r)):=by
 obtain⟨aB,aC,aJ,aL⟩:=x0
 refine ay Tryz.func48 rfl (Nat.le_of_ble_eq_true rfl) (fun cG M vs hvs=>?_)
 unfold oY at h
 refine sr<|bx rfl<|RT.vG .none (s:=.sv _) rfl T rfl rfl<|aI rfl (imp_nil (n:=4) (e:=eQ))<|dn<|sr<|RT.alloc .none T rfl rfl<|dn<|bh (qE 5 0 302 43 4 rfl rfl rfl T)<|qq<|sr<|ld rfl rfl (.cons rfl (.cons rfl (.cons rfl (.cons rfl (.nil)))))<|cl (ye ⟨aB,aC,aJ,aL⟩) ⟨rfl,trivial⟩<|dn<|ak<|bE h fun mS Ob Od=>?_
 obtain⟨Hj,Oe,Of,Og⟩:=gA Ob
 refine dX (yf ⟨aB,aC,aJ,aL⟩) (fun _ _ _ _ _=>trivial) rfl (fun k=>AS.bG 21 [(3,.ptr 3 0),(5,.ptr 5 0),(9,.sv (gS 126 [ref [.v (.int .i64 aB),slc 1 (List.map (eS 4 eQ) aC),slc 1 (List.map (eS 4 eQ) aJ),slc 4 (List.map eQ aL)]]))] [(5,⟨23,[.row 304]⟩),(3,⟨23,[.sv (slc 4 (List.map eQ x1))]⟩)] [(304,TR 43 4 eQ (Hj k))]) [5,3] rfl (fun _=>⟨rfl,rfl⟩) (mK rfl) (fun _=>rfl) (mL rfl) (by(try dsimp only);rw[Oe];(try dsimp only);exact cH (fun i=>bif Nat.beq i 304 then 302 else i) rfl rfl rfl rfl rfl ⟨.ptr,.ptr,.sv (SV.aa _),trivial⟩ ⟨⟨_,rfl,⟨.row rfl,trivial⟩⟩,⟨_,rfl,⟨.sv (SV.aa _),trivial⟩⟩,trivial⟩ ⟨⟨_,rfl,bQ.refl _⟩,trivial⟩ (fun i hi=>by rw[bH (show i≠304 by omega)];rfl)) (fun k hk D hD=>?_) ?_
 have h:=Of k hk
 obtain⟨mS,DC⟩:∃q,Hj k=q:=⟨_,rfl⟩
 rw[DC]at h⊢
 dsimp only[AS.IT,n8]
 try dsimp only at h
 refine lE h fun p10 adW h=>?_
 rw[adW]
 obtain⟨⟨⟨Hf,Hg⟩,⟨Hh,Hi⟩⟩,Wf,h⟩:=bS h
 rw[Option.some.inj Wf]
 refine sr<|ag rfl<|dn<|af<|al (cs:=[.v (.bool false),slc 1 (List.map ah []),.v (.bool false),slc 1 (List.map ah [])]) (by exact⟨SV.aa _,imp_nil,SV.aa _,imp_nil,trivial⟩) rfl<|so rfl rfl rfl<|RT.done ?_
 refine ae.n ⟨rfl,?_⟩
 dsimp only[AS.wL]
 refine ak<|ai mixed<|RT.dN .none (s:=.row _) rfl rfl rfl T<|ld rfl rfl (.cons rfl (.cons rfl (.cons rfl (.cons rfl (.nil)))))<|mv rfl<|lV rfl rfl rfl ?_
 obtain⟨⟨⟨jz,jA⟩,⟨z6,z7⟩⟩,iQ,h⟩:=bS h
 refine cl (w7 iQ) ⟨rfl,rfl,trivial⟩ ?_
 obtain⟨⟨⟨kY,kZ⟩,⟨oR,oS⟩⟩,jD,h⟩:=bS h
 refine cl (z5 jD) ⟨rfl,rfl,trivial⟩<|bl (l:=[⟨⟨kY,kZ⟩,⟨oR,oS⟩⟩]) (e:=eQ) (.agg rfl (.nil)) rfl rfl rfl rfl rfl rfl<|bE h fun kW kx h=>aR (k:=[⟨⟨kY,kZ⟩,⟨oR,oS⟩⟩]) (e:=eQ) rfl rfl rfl kx<|RT.gR (cells:=[_]) .none rfl rfl rfl rfl T rfl ?_
 refine RT.done ⟨by kernel_rfl,?_⟩
 refine aG.n ?_
 replace h:=Option.some.inj h
 refine⟨trivial,rfl,rfl,?_⟩
 try dsimp only
 rw[←h]
 try dsimp only
 exact cH (fun i=>bif Nat.beq i 304 then 19 else i) rfl rfl rfl rfl rfl ⟨.ptr,.ptr,.sv (SV.aa _),trivial⟩ ⟨⟨_,rfl,⟨.row rfl,trivial⟩⟩,⟨_,rfl,⟨.sv (SV.aa _),trivial⟩⟩,trivial⟩ ⟨⟨_,rfl,bQ.refl _⟩,trivial⟩ (fun i hi=>by rw[bH (show i≠304 by omega)];rfl)
 rw[Og]
 try dsimp only
 refine aG.n<|ae.n<|sr<|RT.dN .none (s:=.row _) rfl rfl rfl T<|an (s:=.row _) rfl<|dn<|bh (c8 (i:=304) (E1:=43) (n:=4) (e:=eQ) (l:=mS) rfl)<|aj ?_
 obtain rfl:=O Od
 exact R1 rfl
theorem Aw{x0:Lr}{x1:List Qr}{r:List Qr}(h:lS x0 x1=some r):Ah Tryz.prog 39 [.agg (Gm x0),slc 4 (List.map eQ x1)] (TR 43 4 eQ r):=by
 obtain⟨aB,aC,aJ,aL⟩:=x0
 refine oH Tryz.func39 rfl (Nat.le_of_ble_eq_true rfl) (fun cG M vs hvs=>?_)
 unfold lS at h
 refine sr<|bx rfl<|ag rfl<|dn<|bh (fW 4 304 43 4 rfl rfl T)<|sr<|fa rfl rfl<|lV rfl rfl rfl<|mv rfl<|bE h fun x8 h8 h=>cN (CA h8) ⟨rfl,rfl,trivial⟩<|an (s:=.row _) rfl<|dn<|aj ?_
 obtain rfl:=O h
 exact⟨.inr rfl,_,.tmp rfl,rfl⟩
end Go.Proofs.YtningmnklfpfjaaGreat
