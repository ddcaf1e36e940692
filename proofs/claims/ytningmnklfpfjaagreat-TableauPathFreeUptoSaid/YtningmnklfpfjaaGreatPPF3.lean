/- A part of the proof: the framework, the plain functions, the followed functions, the plain laws. -/
import Derived.Test.YtningmnklfpfjaaGreatPPF2
set_option linter.unusedVariables false
set_option linter.unusedSimpArgs false
namespace Go.Proofs.YtningmnklfpfjaaGreat
open Go.Fw Go.Fw.Z Go.RowKit
theorem qu{x0:List Nat}{x1:Nat}{r:Nat×List Nat}(h:iJ x0 x1=some r):Ky Tryz.prog 204 [.row 1000,.sv (.v (.int .u64 ((x1:Nat):Int)))] (TR 130 1 ah x0) (.sv (.v (.int .u64 ((r.1:Nat):Int)))) (List.flatMap ah r.2):=by
 refine xo Tryz.func204 rfl (Nat.le_of_ble_eq_true rfl) rfl rfl (fun cO M v0=>?_)
 unfold iJ at h
 refine sr<|ag rfl<|dn<|sr<|ag rfl<|dn<|qq<|sr<|mo (s:=.row _) rfl<|lE h fun x9 h9 h=>lL rfl rfl h9<|lE h fun ek gC h=>sb _ rfl rfl gC<|ag rfl<|dn<|bE h fun e8 Gr yM=>?_
 refine aT (fun(Fa:Nat×(List Nat))=>AS.bJ 34 [(5,.sv (.v (.int .u64 ((Fa.1:Nat):Int))))] [] [(1000,TR 130 1 ah Fa.2)]) (fun Fa=>Fa=e8) ?_ (fun Fa Gs=>?_)
 refine ak ?_
 refine aU Gr (fun s8=>AS.bJ 34 [(0,.row 1000),(1,.sv (.v (.int .u64 ((x1:Nat):Int)))),(5,.sv (.v (.int .u64 ((s8.1:Nat):Int)))),(6,.sv (.v (.int .i64 s8.2.1)))] [] [(1000,TR 130 1 ah s8.2.2)]) (wR []) (fun s8 y8 G8 h Gt Gu=>?_)
 obtain⟨Pf,Pg,sI⟩:=s8
 try dsimp only
 refine qq<|sr<|mv rfl<|lE h fun dW fj h=>ge _ rfl rfl fj<|dn ?_
 cases dW
 refine cF<|bf<|ae.x<|ae.x<|aK.x<|ae.n ?_
 obtain rfl:=O (F h)
 exact⟨(Pf,sI),Gu _ rfl,wR []⟩
 refine cT<|aH<|ae.n<|qq<|ak<|sr<|mv rfl<|lE (V h) fun iY kX h=>RT.shl .none _ rfl rfl T (by decide) (UK.shl (a:=Pf) (q:=32) (s:=32) rfl kX)<|mo (s:=.row _) rfl<|mv rfl<|bE h fun kS kJ h=>iR rfl rfl rfl kJ<|bE h fun gO lW h=>lR rfl rfl lW rfl<|lE h fun ik ni h=>cv _ rfl (UK.nat ni)<|lE h fun jB nS h=>RT.or .none _ rfl rfl T (UK.or (a:=iY) (b:=ik) nS)<|ag rfl<|dn<|sr<|mo (s:=.row _) rfl ?_
 refine mv rfl<|mv rfl<|mv rfl<|bE h fun lq oU h=>RT.quo .none _ rfl rfl T (nzU oU) (UK.quo oU)<|lE h fun oM sS h=>cv _ rfl (UK.nat sS)<|bE h fun iq jw h=>iR rfl rfl rfl jw<|bE h fun yC pg h=>sR oM rfl rfl rfl rfl pg<|dn<|af<|mv rfl<|mv rfl<|bE h fun iD kV h=>RT.rem .none _ rfl rfl T (nzR kV) (Nm kV)<|ag rfl<|RT.done<|aK.n<|ae.n<|af<|mv rfl<|lE h fun fg jv h=>sb _ rfl rfl jv ?_
 refine ag rfl<|RT.done ?_
 obtain rfl:=O h
 exact ae.n ⟨(iD,fg,yC),Gt _ rfl,wR []⟩
 subst Gs
 obtain⟨abq,BE⟩:=Fa
 try dsimp only
 refine ae.n<|sr<|mv rfl<|ag rfl<|dn<|aj<|bE yM fun _ hle yM=>?_
 obtain rfl:=O yM
 exact⟨.inr rfl,.sv (gL (.tmp rfl (.nil)) (SV.aa _)),(by show _=lU.live ⟨130,1,x0.length,List.flatMap ah BE⟩;rw[←jb hle];rfl)⟩
theorem pq{x0:List Nat}{x1:Nat}{r:List Nat}(h:fH x0 x1=some r):Pure Tryz.prog 211 [slc 1 (List.map ah x0),.v (.int .u64 ((x1:Nat):Int))] (slc 1 (List.map ah r)):=by
 refine ay Tryz.func211 rfl (Nat.le_of_ble_eq_true rfl) (fun cO M vs hvs=>?_)
 unfold fH at h
 refine sr<|aI rfl (imp_nil (n:=1) (e:=ah))<|dn<|sr<|RT.uu .none (cE 0) rfl ⟨rfl,trivial⟩ T rfl rfl<|an (s:=.eU _ _) rfl<|dn<|sr<|mv rfl<|lE h fun iI nh h=>ln rfl nh<|lE h fun dW fj h=>ad _ rfl rfl fj<|bE h fun iA gW h=>RT.wO (e:=ah) .none rfl rfl T rfl T gW<|an (s:=.row _) rfl<|dn<|qq<|sr<|mv rfl<|lE h fun dR fT h=>ln rfl fT ?_
 refine mv rfl<|dn<|bE h fun e8 Gr yM=>?_
 refine aT (fun(Fa:Nat×(List Nat))=>AS.bJ 35 [(5,.eU 202 [.box 9]),(6,.row 302)] [(9,⟨128,[.sv (.v (.int .u64 ((Fa.1:Nat):Int)))]⟩)] [(302,TR 130 1 ah Fa.2)]) (fun Fa=>Fa=e8) ?_ (fun Fa Gs=>?_)
 refine ak ?_
 refine aU Gr (fun s8=>AS.bJ 35 [(1,.sv (.v (.int .u64 ((x1:Nat):Int)))),(5,.eU 202 [.box 9]),(6,.row 302),(14,.sv (slc 1 (List.map ah x0))),(15,.sv (.v (.int .i64 dR))),(16,.sv (.v (.int .i64 s8.1)))] [(9,⟨128,[.sv (.v (.int .u64 ((s8.2.1:Nat):Int)))]⟩)] [(302,TR 130 1 ah s8.2.2)]) (cy (fun i=>bif Nat.beq i 302 then 13 else i) rfl rfl rfl rfl rfl ⟨.sv (SV.aa _),.eU,.row rfl,.sv (SV.aa _),.sv (SV.aa _),.sv (SV.aa _),trivial⟩ ⟨⟨_,rfl,⟨.sv (SV.aa _),trivial⟩⟩,trivial⟩ ⟨⟨_,rfl,bB.refl _⟩,trivial⟩ (fun i hi=>by rw[bp (show i≠302 by omega)];rfl)) (fun s8 y8 G8 h Gt Gu=>?_)
 obtain⟨yD,sJ,gQ⟩:=s8
 try dsimp only
 refine sr<|lE h fun gx lH h=>ls _ rfl rfl lH<|dn<|qq ?_
 cases gx
 refine cF<|bf<|ae.x<|ae.x<|aK.x<|ae.n ?_
 obtain rfl:=O (F h)
 exact⟨(sJ,gQ),Gu _ rfl,wR []⟩
 refine cT<|aH<|ae.n<|qq<|ak<|sr<|bE (V h) fun fF iM h=>ix rfl rfl iM<|lr rfl rfl<|ag rfl<|dn<|af<|mo (s:=.row _) rfl<|mo (s:=.eU _ _) rfl<|mv rfl<|lE h fun jJ qb h=>cv _ rfl (UK.nat qb)<|mv rfl<|lE h fun vS qc h=>RT.shl .none _ rfl rfl T (Int.natCast_nonneg _) (UK.shl (a:=jJ) (q:=((x1:Nat):Int)) (s:=min x1 64) rfl qc) ?_
 obtain⟨⟨lG,WY⟩,oQ,h⟩:=bS h
 refine cB (aY oQ) 9 rfl ⟨rfl,trivial⟩<|bl (l:=[lG]) (e:=ah) (.one rfl (.nil)) rfl rfl rfl rfl rfl rfl<|bE h fun oM sS h=>aR (k:=[lG]) (e:=ah) rfl rfl rfl sS<|an (s:=.row _) rfl<|RT.done<|aK.n<|ae.n<|af<|lE h fun iq jw h=>ad _ rfl rfl jw<|mv rfl<|RT.done ?_
 obtain rfl:=O h
 exact ae.n ⟨(iq,WY,oM),Gt _ rfl,cy (fun i=>bif Nat.beq i 302 then 28 else i) rfl rfl rfl rfl rfl ⟨.sv (SV.aa _),.eU,.row rfl,.sv (SV.aa _),.sv (SV.aa _),.sv (SV.aa _),trivial⟩ ⟨⟨_,rfl,⟨.sv (SV.aa _),trivial⟩⟩,trivial⟩ ⟨⟨_,rfl,bB.refl _⟩,trivial⟩ (fun i hi=>by rw[bp (show i≠302 by omega)];rfl)⟩
 subst Gs
 obtain⟨Ct,Ph⟩:=Fa
 try dsimp only
 refine ae.n<|sr<|mo (s:=.row _) rfl<|mo (s:=.eU _ _) rfl ?_
 obtain⟨⟨iD,k12⟩,kV,yM⟩:=bS yM
 refine cB (aY kV) 9 rfl ⟨rfl,trivial⟩<|bl (l:=[iD]) (e:=ah) (.one rfl (.nil)) rfl rfl rfl rfl rfl rfl<|bE yM fun m8 o9 yM=>RT.WQ (k:=[iD]) (e:=ah) .none rfl rfl rfl T rfl T o9<|ag rfl<|dn<|aj ?_
 obtain rfl:=O yM
 exact R1 rfl
theorem oN{x0:List Nat}{x1:Nat}{r:List Nat}(h:jc x0 x1=some r):F2 Tryz.prog 211 [slc 1 (List.map ah x0),.v (.int .u64 ((x1:Nat):Int))] (TR 130 1 ah r):=by
 refine Ce Tryz.func211 rfl (Nat.le_of_ble_eq_true rfl) (fun cO M vs hvs=>?_)
 unfold jc at h
 refine sr<|ag rfl<|dn<|bt (fR 4 304 130 1 rfl rfl T)<|sr<|RT.uu .none (cE 0) rfl ⟨rfl,trivial⟩ T rfl rfl<|an (s:=.eU _ _) rfl<|dn<|sr<|mv rfl<|lE h fun iI nh h=>ln rfl nh<|lE h fun dW fj h=>ad _ rfl rfl fj<|bE h fun iA gW h=>RT.wO (e:=ah) .none rfl rfl T rfl T gW<|an (s:=.row _) rfl<|dn<|qq<|sr<|mv rfl<|lE h fun dR fT h=>ln rfl fT ?_
 refine mv rfl<|dn<|bE h fun e8 Gr yM=>?_
 refine aT (fun(Fa:Nat×(List Nat))=>AS.bJ 35 [(5,.eU 202 [.box 9]),(6,.row 306)] [(9,⟨128,[.sv (.v (.int .u64 ((Fa.1:Nat):Int)))]⟩)] [(306,TR 130 1 ah Fa.2)]) (fun Fa=>Fa=e8) ?_ (fun Fa Gs=>?_)
 refine ak ?_
 refine aU Gr (fun s8=>AS.bJ 35 [(1,.sv (.v (.int .u64 ((x1:Nat):Int)))),(5,.eU 202 [.box 9]),(6,.row 306),(14,.sv (slc 1 (List.map ah x0))),(15,.sv (.v (.int .i64 dR))),(16,.sv (.v (.int .i64 s8.1)))] [(9,⟨128,[.sv (.v (.int .u64 ((s8.2.1:Nat):Int)))]⟩)] [(306,TR 130 1 ah s8.2.2)]) (cy (fun i=>bif Nat.beq i 306 then 13 else i) rfl rfl rfl rfl rfl ⟨.sv (SV.aa _),.eU,.row rfl,.sv (SV.aa _),.sv (SV.aa _),.sv (SV.aa _),trivial⟩ ⟨⟨_,rfl,⟨.sv (SV.aa _),trivial⟩⟩,trivial⟩ ⟨⟨_,rfl,bB.refl _⟩,trivial⟩ (fun i hi=>by rw[bp (show i≠306 by omega)];rfl)) (fun s8 y8 G8 h Gt Gu=>?_)
 obtain⟨yD,sJ,Gf⟩:=s8
 try dsimp only
 refine sr<|lE h fun gx lH h=>ls _ rfl rfl lH<|dn<|qq ?_
 cases gx
 refine cF<|bf<|ae.x<|ae.x<|aK.x<|ae.n ?_
 obtain rfl:=O (F h)
 exact⟨(sJ,Gf),Gu _ rfl,wR []⟩
 refine cT<|aH<|ae.n<|qq<|ak<|sr<|bE (V h) fun fF iM h=>ix rfl rfl iM<|lr rfl rfl<|ag rfl<|dn<|af<|mo (s:=.row _) rfl<|mo (s:=.eU _ _) rfl<|mv rfl<|lE h fun jJ qb h=>cv _ rfl (UK.nat qb)<|mv rfl<|lE h fun vS qc h=>RT.shl .none _ rfl rfl T (Int.natCast_nonneg _) (UK.shl (a:=jJ) (q:=((x1:Nat):Int)) (s:=min x1 64) rfl qc) ?_
 obtain⟨⟨lG,WY⟩,oQ,h⟩:=bS h
 refine cB (aY oQ) 9 rfl ⟨rfl,trivial⟩<|bl (l:=[lG]) (e:=ah) (.one rfl (.nil)) rfl rfl rfl rfl rfl rfl<|bE h fun oM sS h=>aR (k:=[lG]) (e:=ah) rfl rfl rfl sS<|an (s:=.row _) rfl<|RT.done<|aK.n<|ae.n<|af<|lE h fun iq jw h=>ad _ rfl rfl jw<|mv rfl<|RT.done ?_
 obtain rfl:=O h
 exact ae.n ⟨(iq,WY,oM),Gt _ rfl,cy (fun i=>bif Nat.beq i 306 then 28 else i) rfl rfl rfl rfl rfl ⟨.sv (SV.aa _),.eU,.row rfl,.sv (SV.aa _),.sv (SV.aa _),.sv (SV.aa _),trivial⟩ ⟨⟨_,rfl,⟨.sv (SV.aa _),trivial⟩⟩,trivial⟩ ⟨⟨_,rfl,bB.refl _⟩,trivial⟩ (fun i hi=>by rw[bp (show i≠306 by omega)];rfl)⟩
 subst Gs
 obtain⟨Ct,Pj⟩:=Fa
 try dsimp only
 refine ae.n<|sr<|mo (s:=.row _) rfl<|mo (s:=.eU _ _) rfl ?_
 obtain⟨⟨iD,k12⟩,kV,yM⟩:=bS yM
 refine cB (aY kV) 9 rfl ⟨rfl,trivial⟩<|bl (l:=[iD]) (e:=ah) (.one rfl (.nil)) rfl rfl rfl rfl rfl rfl<|bE yM fun m8 o9 yM=>aR (k:=[iD]) (e:=ah) rfl rfl rfl o9<|an (s:=.row _) rfl<|dn<|aj ?_
 obtain rfl:=O yM
 exact⟨.inr rfl,_,.tmp rfl,rfl⟩
theorem xG{x0:Nat}{r:Int}(h:gV x0=some r):Pure Tryz.prog 215 [.v (.int .u32 ((x0:Nat):Int))] (.v (.int .i64 r)):=by
 refine ay Tryz.func215 rfl (Nat.le_of_ble_eq_true rfl) (fun cO M vs hvs=>?_)
 unfold gV at h
 refine sr<|ag rfl<|dn<|qq<|sr<|mv rfl<|lE h fun x4 h4 h=>ge _ rfl rfl (leN (p:=65536) (q:=x0) h4)<|dn ?_
 refine aF h (fun j2=>AS.bJ 19 [(0,.sv (.v (.int .u32 ((j2.1:Nat):Int)))),(2,.sv (.v (.int .i64 j2.2)))] [] []) (fun h=>?_) (fun j2 h=>?_)
 cases x4
 exact fs<|⟨(x0,0),(F h),wR []⟩
 exact cT<|sr<|mv rfl<|lE (V h) fun x6 h6 h=>RT.shr .none _ rfl rfl T (by decide) (A5 (k:=.u32) (a:=x0) (q:=16) (s:=16) rfl h6)<|ag rfl<|dn<|af<|ag rfl<|dn<|⟨(x6,16),h,wR []⟩
 obtain⟨KF,Tj⟩:=j2
 try dsimp only
 refine ae.n<|qq<|sr<|mv rfl<|lE h fun x8 h8 h=>ge _ rfl rfl (leN (p:=256) (q:=KF) h8)<|dn ?_
 refine aF h (fun j4=>AS.bJ 19 [(0,.sv (.v (.int .u32 ((j4.1:Nat):Int)))),(2,.sv (.v (.int .i64 j4.2)))] [] []) (fun h=>?_) (fun j4 h=>?_)
 cases x8
 exact fs<|⟨(KF,Tj),(F h),wR []⟩
 exact cT<|sr<|mv rfl<|lE (V h) fun ek gC h=>RT.shr .none _ rfl rfl T (by decide) (A5 (k:=.u32) (a:=KF) (q:=8) (s:=8) rfl gC)<|ag rfl<|dn<|af<|mv rfl<|lE h fun dW fj h=>ad _ rfl rfl fj<|ag rfl<|dn<|⟨(ek,dW),h,wR []⟩
 obtain⟨abr,abt⟩:=j4
 try dsimp only
 refine ae.n<|sr<|mv rfl<|mv rfl<|lE h fun dR fT h=>cv _ rfl (UK.nat fT)<|bE h fun iY kX h=>?_
 refine RT.six (l:=[0,1,2,2,3,3,3,3,4,4,4,4,4,4,4,4,5,5,5,5,5,5,5,5,5,5,5,5,5,5,5,5,6,6,6,6,6,6,6,6,6,6,6,6,6,6,6,6,6,6,6,6,6,6,6,6,6,6,6,6,6,6,6,6,7,7,7,7,7,7,7,7,7,7,7,7,7,7,7,7,7,7,7,7,7,7,7,7,7,7,7,7,7,7,7,7,7,7,7,7,7,7,7,7,7,7,7,7,7,7,7,7,7,7,7,7,7,7,7,7,7,7,7,7,7,7,7,7,8,8,8,8,8,8,8,8,8,8,8,8,8,8,8,8,8,8,8,8,8,8,8,8,8,8,8,8,8,8,8,8,8,8,8,8,8,8,8,8,8,8,8,8,8,8,8,8,8,8,8,8,8,8,8,8,8,8,8,8,8,8,8,8,8,8,8,8,8,8,8,8,8,8,8,8,8,8,8,8,8,8,8,8,8,8,8,8,8,8,8,8,8,8,8,8,8,8,8,8,8,8,8,8,8,8,8,8,8,8,8,8,8,8,8,8,8,8,8,8,8,8,8,8,8,8,8,8]) .none rfl rfl T kX ?_
 refine lE h fun gx lH h=>cv _ rfl lH<|lE h fun fF iM h=>ad _ rfl rfl iM<|ag rfl<|dn<|aj ?_
 obtain rfl:=O h
 exact R1 rfl
theorem jT{x0:Nat}{r:Int}(h:dm x0=some r):Pure Tryz.prog 210 [.v (.int .u32 ((x0:Nat):Int))] (.v (.int .i64 r)):=by
 refine ay Tryz.func210 rfl (Nat.le_of_ble_eq_true rfl) (fun cO M vs hvs=>?_)
 unfold dm at h
 refine sr<|ag rfl<|dn<|sr<|mv rfl<|bE h fun x4 h4 h=>cl (xG h4) ⟨rfl,trivial⟩<|lE h fun x5 h5 h=>sb _ rfl rfl h5<|ag rfl<|dn<|aj ?_
 obtain rfl:=O h
 exact R1 rfl
theorem qw{x0:List Nat}{o0:Nat}{n0:Nat}{x1:List Nat}{r:Nat×List Nat}(h:iK x0 o0 n0 x1=some r):Ky Tryz.prog 212 [.oe 1000 (o0*1) n0,.sv (slc 1 (List.map ah x1))] (TR 130 1 ah x0) (.sv (.v (.int .u64 ((r.1:Nat):Int)))) (List.flatMap ah r.2):=by
 refine xo Tryz.func212 rfl (Nat.le_of_ble_eq_true rfl) rfl rfl (fun cO M v0=>?_)
 unfold iK at h
 refine sr<|ag rfl<|dn<|sr<|mv rfl<|lE h fun dW fj h=>ln rfl fj<|ag rfl<|dn<|qq<|ai mixed<|mo (s:=.oe _ _ _) rfl<|mv rfl<|bE h fun dR fT h=>RT.Is .none rfl rfl T fT<|bE h fun iY kX h=>lR rfl rfl kX rfl<|lE h fun gx lH h=>cv _ rfl (UK.nat lH)<|lE h fun fF iM h=>RT.shl .none _ rfl rfl T (by decide) (UK.shl (a:=gx) (q:=32) (s:=32) rfl iM)<|mo (s:=.oe _ _ _) rfl ?_
 refine mv rfl<|lE h fun ik ni h=>sb _ rfl rfl ni<|bE h fun jB nS h=>RT.Is .none rfl rfl T nS<|bE h fun jJ qb h=>lR rfl rfl qb rfl<|lE h fun ir mP h=>cv _ rfl (UK.nat mP)<|lE h fun vS qc h=>RT.or .none _ rfl rfl T (UK.or (a:=fF) (b:=ir) qc)<|ag rfl ?_
 refine RT.done ⟨by kernel_rfl,?_⟩
 refine ae.n<|qq<|ai mixed<|mv rfl<|mv rfl<|lE h fun oM sS h=>sb _ rfl rfl sS<|bE h fun iq jw h=>ix rfl rfl jw<|lr rfl rfl<|lE h fun rf xC h=>cv _ rfl (UK.nat xC)<|mv rfl<|mv rfl<|lE h fun m8 o9 h=>sb _ rfl rfl o9<|bE h fun ow xD h=>ix rfl rfl xD<|lr rfl rfl<|lE h fun sK yN h=>cv _ rfl (UK.nat yN)<|ag rfl<|ag rfl ?_
 refine RT.done ⟨by kernel_rfl,?_⟩
 refine ae.n<|qq<|ai mixed<|mv rfl<|mv rfl<|bE h fun lO oc h=>RT.quo .none _ rfl rfl T (nzU oc) (UK.quo oc)<|mv rfl<|mv rfl<|bE h fun tJ BF h=>RT.rem .none _ rfl rfl T (nzR BF) (Nm BF)<|ag rfl<|ag rfl ?_
 refine RT.done ⟨by kernel_rfl,?_⟩
 refine ae.n<|qq<|bE h fun PI Gj A7=>?_
 refine aT (fun(Nr:Nat)=>AS.bJ 71 [(9,.sv (.v (.int .u64 ((Nr:Nat):Int))))] [] [(1000,TR 130 1 ah x0)]) (fun Nr=>Nr=PI) ?_ (fun Nr Gk=>?_)
 refine ak ?_
 refine aU Gj (fun Gg=>AS.bJ 71 [(0,.oe 1000 (o0*1) n0),(5,.sv (.v (.int .i64 dW))),(7,.sv (.v (.int .u64 ((rf:Nat):Int)))),(8,.sv (.v (.int .u64 ((sK:Nat):Int)))),(9,.sv (.v (.int .u64 ((Gg.1:Nat):Int)))),(10,.sv (.v (.int .u64 ((Gg.2:Nat):Int))))] [] [(1000,TR 130 1 ah x0)]) (wR []) (fun Gg y10 G10 h Gl CH=>?_)
 obtain⟨Em,EY⟩:=Gg
 try dsimp only
 refine qq<|qq ?_
 refine aF h (fun Nz=>AS.bJ 71 [(0,.oe 1000 (o0*1) n0),(5,.sv (.v (.int .i64 dW))),(7,.sv (.v (.int .u64 ((rf:Nat):Int)))),(8,.sv (.v (.int .u64 ((sK:Nat):Int)))),(9,.sv (.v (.int .u64 ((Em:Nat):Int)))),(10,.sv (.v (.int .u64 ((EY:Nat):Int)))),(61,.sv (.v (.bool Nz)))] [] [(1000,TR 130 1 ah x0)]) (fun h=>?_) (fun KG h=>?_)
 refine af<|mv rfl<|lE h fun xA Gp h=>RT.shr .none _ rfl rfl T (by decide) (A5 (k:=.u64) (a:=Em) (q:=32) (s:=32) rfl Gp)<|lE h fun vU h46 h=>ne _ rfl rfl (neN (p:=xA) (q:=0) h46)<|mv rfl<|bE h fun Pk dZ h=>?_
 cases vU
 refine gm rfl<|gm rfl<|lE (F dZ) fun ri A8 dZ=>RT.mul (.some rfl rfl) _ rfl rfl T (UK.mul (a:=Em) (b:=sK) A8)<|gm rfl<|lE dZ fun uc yL dZ=>RT.shl (.some rfl rfl) _ rfl rfl T (by decide) (UK.shl (a:=EY) (q:=32) (s:=32) rfl yL)<|RT.move (.some rfl rfl) (s:=.oe _ _ _) rfl T<|gm rfl<|lE dZ fun wA IJ dZ=>RT.sub (.some rfl rfl) _ rfl rfl T IJ<|bE dZ fun D5 Ep dZ=>RT.Is (.some rfl rfl) rfl rfl T Ep<|bE dZ fun SC Xr dZ=>RT.Np (.some rfl rfl) rfl rfl Xr rfl T ?_
 refine lE dZ fun SD h58 dZ=>RT.conv (.some rfl rfl) _ rfl T (UK.nat h58)<|lE dZ fun KE Tl dZ=>RT.or (.some rfl rfl) _ rfl rfl T (UK.or (a:=uc) (b:=SD) Tl)<|lE dZ fun EX KT dZ=>gg _ rfl rfl (ltN (p:=KE) (q:=ri) KT) ?_
 obtain rfl:=O dZ
 exact pF rfl<|dn<|⟨EX,h,wR []⟩
 obtain rfl:=O (V dZ)
 exact ww<|ww<|ww<|ww<|ww<|ww<|ww<|ww<|ww<|ww<|ww<|ww<|ww<|pT rfl<|dn<|⟨true,h,wR []⟩
 try dsimp only
 refine ae.n ?_
 cases KG
 refine cF<|bf<|ae.x<|ae.x<|aK.x<|ae.n ?_
 obtain rfl:=O (F h)
 exact⟨Em,CH _ rfl,wR []⟩
 refine cT<|aH<|ae.n<|ak<|sr<|mv rfl<|lE (V h) fun x63 h63 h=>sb _ rfl rfl (UK.sub (a:=Em) (b:=1) h63)<|ag rfl<|dn<|sr<|mv rfl<|mv rfl<|lE h fun Kj Xs h=>ad _ rfl rfl (UK.add (a:=EY) (b:=rf) Xs)<|ag rfl<|dn<|sr<|mv rfl<|lE h fun KH Xt h=>RT.shr .none _ rfl rfl T (by decide) (A5 (k:=.u64) (a:=Kj) (q:=32) (s:=32) rfl Xt)<|lE h fun Md Tm h=>ne _ rfl rfl (neN (p:=KH) (q:=0) Tm) ?_
 refine dn ?_
 cases Md
 refine cF<|aH<|aK.n ?_
 obtain rfl:=O (F h)
 exact ae.n ⟨(x63,Kj),Gl _ rfl,wR []⟩
 refine cT<|bf<|aK.y (by decide)<|ae.x<|aK.x<|ae.n ?_
 obtain rfl:=O (V h)
 exact⟨x63,CH _ rfl,wR []⟩
 subst Gk
 try dsimp only
 refine ae.n<|sr<|mv rfl<|ag rfl<|dn<|aj<|bE A7 fun _ hle A7=>?_
 obtain rfl:=O A7
 exact⟨.inr rfl,.sv (gL (.tmp rfl (.nil)) (SV.aa _)),(by show _=lU.live ⟨130,1,x0.length,List.flatMap ah x0⟩;rw[←jb hle];rfl)⟩
theorem kR{x0:List Nat}{o0:Nat}{n0:Nat}{x1:List Nat}{x2:Nat}{r:Bool×List Nat}(h:cY x0 o0 n0 x1 x2=some r):Ky Tryz.prog 213 [.oe 1000 (o0*1) n0,.sv (slc 1 (List.map ah x1)),.sv (.v (.int .u64 ((x2:Nat):Int)))] (TR 130 1 ah x0) (.sv (.v (.bool r.1))) (List.flatMap ah r.2):=by
 refine xo Tryz.func213 rfl (Nat.le_of_ble_eq_true rfl) rfl rfl (fun cO M v0=>?_)
 unfold cY at h
 refine sr<|ag rfl<|dn<|sr<|ag rfl<|dn<|sr<|RT.uu .none (cE 0) rfl ⟨rfl,trivial⟩ T rfl rfl<|an (s:=.eU _ _) rfl<|dn<|qq<|sr<|mo (s:=.oe _ _ _) rfl<|lE h fun fg jv h=>RT.WV .none rfl T jv<|mv rfl<|dn<|bE h fun Pn Gv jK=>?_
 refine aT (fun(rK:Nat×(List Nat))=>AS.bJ 51 [(7,.sv (.v (.int .u64 ((rK.1:Nat):Int))))] [] [(1000,TR 130 1 ah rK.2)]) (fun rK=>rK=Pn) ?_ (fun rK KV=>?_)
 refine ak ?_
 refine aU Gv (fun yE=>AS.bJ 51 [(0,.oe 1000 (o0*1) n0),(1,.sv (slc 1 (List.map ah x1))),(2,.sv (.v (.int .u64 ((x2:Nat):Int)))),(7,.sv (.v (.int .u64 ((yE.1:Nat):Int)))),(8,.eU 202 [.box 12]),(14,.sv (.v (.int .i64 fg))),(15,.sv (.v (.int .i64 yE.2.1)))] [(12,⟨128,[.sv (.v (.int .u64 ((yE.2.2.1:Nat):Int)))]⟩)] [(1000,TR 130 1 ah yE.2.2.2)]) (wR []) (fun yE y12 G12 h KW KX=>?_)
 obtain⟨Ns,yF,Gh,vV⟩:=yE
 try dsimp only
 refine sr<|lE h fun iY kX h=>ls _ rfl rfl kX<|dn<|qq ?_
 cases iY
 refine cF<|bf<|ae.x<|ae.x<|aK.x<|ae.n ?_
 obtain rfl:=O (F h)
 exact⟨(Ns,vV),KX _ rfl,wR []⟩
 refine cT<|aH<|ae.n<|qq<|ak<|sr<|mv rfl<|ag rfl<|dn<|sr<|ag rfl<|dn<|qq<|sr<|mv rfl<|mv rfl<|lE (V h) fun gO lW h=>ln rfl lW<|lE h fun ik ni h=>ls _ rfl rfl ni<|dn ?_
 refine aF h (fun j14=>AS.bJ 51 [(0,.oe 1000 (o0*1) n0),(1,.sv (slc 1 (List.map ah x1))),(2,.sv (.v (.int .u64 ((x2:Nat):Int)))),(7,.sv (.v (.int .u64 ((Ns:Nat):Int)))),(8,.eU 202 [.box 12]),(9,.sv (.v (.int .i64 yF))),(10,.sv (.v (.int .u64 ((j14:Nat):Int)))),(14,.sv (.v (.int .i64 fg))),(15,.sv (.v (.int .i64 yF)))] [(12,⟨128,[.sv (.v (.int .u64 ((Gh:Nat):Int)))]⟩)] [(1000,TR 130 1 ah vV)]) (fun h=>?_) (fun Pm h=>?_)
 cases ik
 exact fs<|⟨0,(F h),wR []⟩
 exact cT<|af<|mv rfl<|mv rfl<|bE (V h) fun ir mP h=>ix rfl rfl mP<|lr rfl rfl<|lE h fun lG oQ h=>cv _ rfl (UK.nat oQ)<|mv rfl<|lE h fun oM sS h=>RT.mul .none _ rfl rfl T (UK.mul (a:=lG) (b:=x2) sS)<|ag rfl<|dn<|⟨oM,h,wR []⟩
 try dsimp only
 refine ae.n<|qq<|ai mixed<|mo (s:=.oe _ _ _) rfl<|mv rfl<|bE h fun rf xC h=>RT.Is .none rfl rfl T xC<|bE h fun iD kV h=>lR rfl rfl kV rfl<|lE h fun sL sV h=>cv _ rfl (UK.nat sV)<|mo (s:=.eU _ _) rfl<|mv rfl ?_
 obtain⟨⟨oP,k16⟩,qe,h⟩:=bS h
 refine cB (aY qe) 12 rfl ⟨rfl,trivial⟩<|lE h fun sK yN h=>cv _ rfl (UK.nat yN)<|lE h fun yB Gn h=>sb _ rfl rfl (UK.sub (a:=sL) (b:=sK) Gn)<|mv rfl<|lE h fun lO oc h=>sb _ rfl rfl (UK.sub (a:=yB) (b:=Ns) oc)<|ag rfl ?_
 refine RT.done ⟨by kernel_rfl,?_⟩
 refine ae.n<|sr<|mo (s:=.oe _ _ _) rfl<|mv rfl<|mv rfl<|lE h fun zS A9 h=>cv _ rfl (UK.nat A9)<|bE h fun xA Gp h=>RT.Is .none rfl rfl T Gp<|bE h fun l18 abE h=>sR zS rfl rfl rfl rfl abE<|dn<|af<|mv rfl<|lE h fun uC xF h=>RT.shr .none _ rfl rfl T (by decide) (A5 (k:=.u64) (a:=lO) (q:=63) (s:=63) rfl xF)<|ag rfl<|RT.done<|aK.n<|ae.n<|af<|lE h fun rI h48 h=>ad _ rfl rfl h48<|mv rfl<|RT.done ?_
 obtain rfl:=O h
 exact ae.n ⟨(uC,rI,k16,l18),KW _ rfl,wR []⟩
 subst KV
 obtain⟨Po,yG⟩:=rK
 try dsimp only
 refine ae.n<|sr<|mv rfl<|lE jK fun ri A8 jK=>ne _ rfl rfl (neN (p:=Po) (q:=0) A8)<|ag rfl<|dn<|aj<|bE jK fun _ hle jK=>?_
 obtain rfl:=O jK
 exact⟨.inr rfl,.sv (gL (.tmp rfl (.nil)) (SV.aa _)),(by show _=lU.live ⟨130,1,x0.length,List.flatMap ah yG⟩;rw[←jb hle];rfl)⟩
set_option maxHeartbeats 4000000 in
theorem zY{x0:List Nat}{x1:List Nat}{r:(List Nat)×(List Nat)}(h:fM x0 x1=some r):Pure Tryz.prog 205 [slc 1 (List.map ah x0),slc 1 (List.map ah x1)] (.wm [slc 1 (List.map ah r.1),slc 1 (List.map ah r.2)]):=by
 refine ay Tryz.func205 rfl (Nat.le_of_ble_eq_true rfl) (fun cO M vs hvs=>?_)
 unfold fM at h
 refine sr<|ag rfl<|ag rfl<|dn<|bt (fR 4 306 130 1 rfl rfl T)<|bt (fR 5 308 130 1 rfl rfl T)<|sr<|mv rfl<|lE h fun gx lH h=>ln rfl lH<|ag rfl<|dn<|sr<|mv rfl<|mv rfl<|lE h fun gO lW h=>sb _ rfl rfl lW<|bE h fun ik ni h=>ix rfl rfl ni<|lr rfl rfl<|bE h fun jJ qb h=>cl (jT qb) ⟨rfl,trivial⟩ ?_
 refine lE h fun ir mP h=>cv _ rfl (UK.conv mP)<|ag rfl<|dn<|qq<|ai mixed<|mv rfl<|mv rfl<|bE h fun lq oU h=>cN (oN oU) ⟨rfl,rfl,trivial⟩<|mv rfl<|mv rfl<|bE h fun uB uJ h=>cl (pq uJ) ⟨rfl,rfl,trivial⟩<|mv rfl<|bE h fun iD kV h=>RT.F8 .none 0 gx rfl rfl ⟨_,rfl⟩ T kV<|an (s:=.row _) rfl<|ag rfl ?_
 refine RT.done ⟨by kernel_rfl,?_⟩
 refine ae.n<|sr<|mv rfl<|lE h fun m8 o9 h=>ln rfl o9<|mv rfl<|lE h fun oP qe h=>sb _ rfl rfl qe<|lE h fun sK yN h=>ad _ rfl rfl yN<|bE h fun yB Gn h=>RT.kW (n:=1) (e:=ah) .none rfl rfl T rfl T (by rfl) (by decide) (by exact⟨SV.aa _,trivial⟩) Gn<|an (s:=.row _) rfl<|dn<|qq<|sr<|mv rfl<|lE h fun lO oc h=>ln rfl oc<|mv rfl<|lE h fun oZ xE h=>sb _ rfl rfl xE ?_
 refine ag rfl<|dn<|bE h fun e36 Xu KY=>?_
 refine aT (fun(zZ:(List Nat)×(List Nat))=>AS.bJ 141 [(4,.row 38),(6,.sv (.v (.int .i64 gx))),(7,.sv (.v (.int .u64 ((ir:Nat):Int)))),(8,.row 27)] [] [(38,TR 130 1 ah zZ.1),(27,TR 130 1 ah zZ.2)]) (fun zZ=>zZ=e36) ?_ (fun zZ Xv=>?_)
 refine ak ?_
 refine aU Xu (fun Nt=>AS.bJ 141 [(4,.row 38),(6,.sv (.v (.int .i64 gx))),(7,.sv (.v (.int .u64 ((ir:Nat):Int)))),(8,.row 27),(9,.sv (slc 1 (List.map ah iD))),(10,.sv (.v (.int .i64 Nt.1)))] [] [(38,TR 130 1 ah Nt.2.1),(27,TR 130 1 ah Nt.2.2)]) (wR []) (fun Nt y36 G36 h Xw Xx=>?_)
 obtain⟨gD,nc,qQ⟩:=Nt
 try dsimp only
 refine qq<|sr<|mv rfl<|lE h fun zS A9 h=>ge _ rfl rfl A9<|dn ?_
 cases zS
 refine cF<|bf<|ae.x<|ae.x<|aK.x<|ae.n ?_
 obtain rfl:=O (F h)
 exact⟨(nc,qQ),Xx _ rfl,wR []⟩
 refine cT<|aH<|ae.n<|qq<|ak<|sr<|mo (s:=.row _) rfl<|mv rfl<|mv rfl<|mv rfl<|lE (V h) fun Gc Gq h=>ad _ rfl rfl Gq<|lE h fun uc yL h=>ad _ rfl rfl yL ?_
 obtain⟨⟨o53,n53⟩,NA,h⟩:=bS h
 refine RT.Td .none gD uc rfl rfl ⟨_,rfl⟩ ⟨_,rfl⟩ T NA<|mv rfl ?_
 obtain⟨⟨wA,Ol⟩,IJ,h⟩:=bS h
 refine bE h fun _ Xy h=>cR (l:=qQ) (l':=Ol) (e:=ah) (qw IJ) (jb Xy) 27 rfl (.cons rfl (.cons rfl (.nil)))<|ag rfl<|dn<|qq<|sr<|mo (s:=.row _) rfl<|mv rfl<|mv rfl<|mv rfl<|lE h fun EX KT h=>ad _ rfl rfl KT<|lE h fun D6 KU h=>ad _ rfl rfl KU ?_
 obtain⟨⟨o62,n62⟩,h62,h⟩:=bS h
 refine RT.Td .none gD D6 rfl rfl ⟨_,rfl⟩ ⟨_,rfl⟩ T h62<|mv rfl<|mv rfl ?_
 obtain⟨⟨Ve,Nu⟩,h65,h⟩:=bS h
 refine bE h fun _ Xz h=>cR (l:=Ol) (l':=Nu) (e:=ah) (kR h65) (jb Xz) 27 rfl (.cons rfl (.cons rfl (.cons rfl (.nil))))<|dn ?_
 refine aF h (fun Nv=>AS.bJ 141 [(4,.row 38),(6,.sv (.v (.int .i64 gx))),(7,.sv (.v (.int .u64 ((ir:Nat):Int)))),(8,.row 27),(9,.sv (slc 1 (List.map ah iD))),(10,.sv (.v (.int .i64 gD))),(11,.sv (.v (.int .u64 ((Nv.1:Nat):Int))))] [] [(38,TR 130 1 ah nc),(27,TR 130 1 ah Nv.2)]) (fun h=>?_) (fun Nv h=>?_)
 cases Ve
 exact fs<|⟨(wA,Nu),(F h),wR []⟩
 refine cT<|sr<|mv rfl<|lE (V h) fun Om XA h=>sb _ rfl rfl (UK.sub (a:=wA) (b:=1) XA)<|ag rfl<|dn<|sr<|RT.uu .none (cE 0) rfl ⟨rfl,trivial⟩ T rfl rfl<|an (s:=.eU _ _) rfl<|dn<|qq<|sr<|mv rfl<|lE h fun D7 Tn h=>ln rfl Tn<|mv rfl<|dn<|bE h fun e65 XB kf=>?_
 refine aT (fun(z4:Nat×(List Nat))=>AS.bJ 141 [(4,.row 38),(6,.sv (.v (.int .i64 gx))),(7,.sv (.v (.int .u64 ((ir:Nat):Int)))),(8,.row 27),(9,.sv (slc 1 (List.map ah iD))),(10,.sv (.v (.int .i64 gD))),(11,.sv (.v (.int .u64 ((Om:Nat):Int)))),(12,.eU 202 [.box 68])] [(68,⟨128,[.sv (.v (.int .u64 ((z4.1:Nat):Int)))]⟩)] [(38,TR 130 1 ah nc),(27,TR 130 1 ah z4.2)]) (fun z4=>z4=e65) ?_ (fun z4 XC=>?_)
 refine ak ?_
 refine aU XB (fun Nw=>AS.bJ 141 [(4,.row 38),(6,.sv (.v (.int .i64 gx))),(7,.sv (.v (.int .u64 ((ir:Nat):Int)))),(8,.row 27),(9,.sv (slc 1 (List.map ah iD))),(10,.sv (.v (.int .i64 gD))),(11,.sv (.v (.int .u64 ((Om:Nat):Int)))),(12,.eU 202 [.box 68]),(69,.sv (slc 1 (List.map ah iD))),(70,.sv (.v (.int .i64 D7))),(71,.sv (.v (.int .i64 Nw.1)))] [(68,⟨128,[.sv (.v (.int .u64 ((Nw.2.1:Nat):Int)))]⟩)] [(38,TR 130 1 ah nc),(27,TR 130 1 ah Nw.2.2)]) (wR []) (fun Nw y65 G65 h XD XE=>?_)
 obtain⟨xB,rJ,sM⟩:=Nw
 try dsimp only
 refine sr<|lE h fun KJ To h=>ls _ rfl rfl To<|dn<|qq ?_
 cases KJ
 refine cF<|bf<|ae.x<|ae.x<|aK.x<|ae.n ?_
 obtain rfl:=O (F h)
 exact⟨(rJ,sM),XE _ rfl,wR []⟩
 refine cT<|aH<|ae.n<|qq<|ak<|sr<|mv rfl<|bE (V h) fun x74 h74 h=>ix rfl rfl h74<|lr rfl rfl<|ag rfl<|ag rfl<|dn<|af<|mo (s:=.row _) rfl<|mv rfl<|mv rfl<|lE h fun Iy Tp h=>ad _ rfl rfl Tp<|mo (s:=.eU _ _) rfl<|mo (s:=.row _) rfl<|mv rfl<|mv rfl<|lE h fun Pp h84 h=>ad _ rfl rfl h84<|bE h fun x85 h85 h=>iR rfl rfl rfl h85 ?_
 refine bE h fun Pq XF h=>lR rfl rfl XF rfl<|lE h fun Iz XG h=>cv _ rfl (UK.nat XG)<|mv rfl<|lE h fun x89 h89 h=>cv _ rfl (UK.nat h89)<|lE h fun SE XH h=>ad _ rfl rfl (UK.add (a:=Iz) (b:=x89) XH) ?_
 obtain⟨⟨x91,k68⟩,h91,h⟩:=bS h
 refine cB (aY h91) 68 rfl ⟨rfl,trivial⟩<|bE h fun x92 h92 h=>iR rfl rfl rfl h92<|bE h fun Tk IK h=>sR x91 rfl rfl rfl rfl IK<|RT.done<|aK.n<|ae.n<|af<|lE h fun Me XI h=>ad _ rfl rfl XI<|mv rfl<|RT.done ?_
 obtain rfl:=O h
 exact ae.n ⟨(Me,k68,Tk),XD _ rfl,wR []⟩
 subst XC
 obtain⟨Cw,zT⟩:=z4
 try dsimp only
 refine ae.n<|af<|mo (s:=.row _) rfl<|mv rfl<|mv rfl<|lE kf fun x97 h97 kf=>ad _ rfl rfl h97<|mo (s:=.eU _ _) rfl<|mo (s:=.row _) rfl<|mv rfl<|mv rfl<|lE kf fun KK PR kf=>ad _ rfl rfl PR<|bE kf fun KL PS kf=>iR rfl rfl rfl PS<|bE kf fun W0 XJ kf=>lR rfl rfl XJ rfl<|lE kf fun W2 XK kf=>cv _ rfl (UK.nat XK) ?_
 obtain⟨⟨IA,k72⟩,PT,kf⟩:=bS kf
 exact cB (aY PT) 68 rfl ⟨rfl,trivial⟩<|bE kf fun W4 XL kf=>iR rfl rfl rfl XL<|bE kf fun l73 PU kf=>sR IA rfl rfl rfl rfl PU<|dn<|⟨(Om,l73),kf,wR []⟩
 obtain⟨KI,Cu⟩:=Nv
 try dsimp only
 refine ae.n<|af<|mo (s:=.row _) rfl<|mv rfl<|mv rfl<|lE h fun Cv PW h=>cv _ rfl (UK.nat PW)<|bE h fun WZ XM h=>iR rfl rfl rfl XM<|bE h fun l55 PX h=>sR Cv rfl rfl rfl rfl PX<|RT.done<|aK.n<|ae.n<|af<|mv rfl<|lE h fun vU h46 h=>sb _ rfl rfl h46<|ag rfl<|RT.done ?_
 obtain rfl:=O h
 exact ae.n ⟨(vU,l55,Cu),Xw _ rfl,wR []⟩
 subst Xv
 obtain⟨sN,uD⟩:=zZ
 try dsimp only
 refine ae.n<|sr<|mv rfl<|bE KY fun W5 XN KY=>RT.kW (n:=1) (e:=ah) .none rfl rfl T rfl T (by rfl) (by decide) (by exact⟨SV.aa _,trivial⟩) XN<|an (s:=.row _) rfl<|dn<|qq<|sr<|mv rfl<|mv rfl<|dn<|bE KY fun e81 XO XP=>?_
 refine aT (fun(kI:(List Nat))=>AS.bJ 141 [(4,.row 38),(5,.row 114)] [] [(38,TR 130 1 ah sN),(114,TR 130 1 ah kI)]) (fun kI=>kI=e81) ?_ (fun kI XQ=>?_)
 refine ak ?_
 refine aU XO (fun Pr=>AS.bJ 141 [(4,.row 38),(5,.row 114),(7,.sv (.v (.int .u64 ((ir:Nat):Int)))),(8,.row 27),(115,.sv (.v (.int .i64 gx))),(116,.sv (.v (.int .i64 Pr.1)))] [] [(38,TR 130 1 ah sN),(114,TR 130 1 ah Pr.2),(27,TR 130 1 ah uD)]) (wR []) (fun Pr y81 G81 h XR XS=>?_)
 obtain⟨sO,sP⟩:=Pr
 try dsimp only
 refine sr<|lE h fun Eo PY h=>ls _ rfl rfl PY<|dn<|qq ?_
 cases Eo
 refine cF<|bf<|ae.x<|ae.x<|aK.x<|ae.n ?_
 obtain rfl:=O (F h)
 exact⟨sP,XS _ rfl,wR []⟩
 refine cT<|aH<|ae.n<|qq<|ak<|sr<|mv rfl<|ag rfl<|dn<|ai mixed<|mo (s:=.row _) rfl<|mv rfl<|mo (s:=.row _) rfl<|mv rfl<|bE (V h) fun W6 XT h=>iR rfl rfl rfl XT<|bE h fun W7 PZ h=>lR rfl rfl PZ rfl<|lE h fun Cx P0 h=>cv _ rfl (UK.nat P0)<|mo (s:=.row _) rfl<|mv rfl<|lE h fun Nx h128 h=>ad _ rfl rfl h128<|bE h fun KM P1 h=>?_
 refine iR rfl rfl rfl P1<|bE h fun W8 XU h=>lR rfl rfl XU rfl<|lE h fun Ps XV h=>cv _ rfl (UK.nat XV)<|lE h fun Pt XW h=>RT.shl .none _ rfl rfl T (by decide) (UK.shl (a:=Ps) (q:=32) (s:=32) rfl XW)<|lE h fun IB P2 h=>RT.or .none _ rfl rfl T (UK.or (a:=Cx) (b:=Pt) P2)<|mv rfl<|lE h fun Ny P3 h=>RT.shr .none _ rfl rfl T (Int.natCast_nonneg _) (A5 (k:=.u64) (a:=IB) (q:=((ir:Nat):Int)) (s:=min ir 64) rfl P3)<|lE h fun IC P4 h=>cv _ rfl (UK.nat P4) ?_
 refine bE h fun KN P5 h=>iR rfl rfl rfl P5<|bE h fun l83 P6 h=>sR IC rfl rfl rfl rfl P6 ?_
 refine RT.done ⟨by kernel_rfl,?_⟩
 refine aK.n<|ae.n<|af<|lE h fun Pu XX h=>ad _ rfl rfl XX<|mv rfl<|RT.done ?_
 obtain rfl:=O h
 exact ae.n ⟨(Pu,l83),XR _ rfl,wR []⟩
 subst XQ
 try dsimp only
 refine ae.n<|sr<|mo (s:=.row _) rfl<|mo (s:=.row _) rfl<|an (s:=.row _) rfl<|an (s:=.row _) rfl<|dn<|bt (dD (i:=38) (E1:=130) (n:=1) (e:=ah) (l:=sN) rfl)<|bt (dD (i:=114) (E1:=130) (n:=1) (e:=ah) (l:=kI) rfl)<|aj ?_
 obtain rfl:=O XP
 exact R2 rfl rfl
theorem qx{x0:List Nat}{x1:List Nat}{r:(List Nat)×(List Nat)}(h:dY x0 x1=some r):Pure Tryz.prog 193 [slc 1 (List.map ah x0),slc 1 (List.map ah x1)] (.wm [slc 1 (List.map ah r.1),slc 1 (List.map ah r.2)]):=by
 refine ay Tryz.func193 rfl (Nat.le_of_ble_eq_true rfl) (fun cO M vs hvs=>?_)
 unfold dY at h
 refine sr<|ag rfl<|aI rfl (imp_nil (n:=1) (e:=ah))<|dn<|bt (fR 4 304 130 1 rfl rfl T)<|qq<|ak<|sr<|mv rfl<|mv rfl<|bE h fun dW fj h=>cl (dG fj) ⟨rfl,rfl,trivial⟩<|lE h fun iA gW h=>ls _ rfl rfl gW<|ag rfl<|dn ?_
 cases iA
 refine cF<|sr<|mv rfl<|lE (F h) fun fF iM h=>ln rfl iM<|lE h fun kS kJ h=>RT.leq .none _ rfl rfl T kJ<|ag rfl<|dn ?_
 cases kS
 refine cF<|sr<|mv rfl<|lE (F h) fun oP qe h=>ln rfl qe<|lE h fun sK yN h=>eq _ rfl rfl (ua (p:=oP) (q:=1) yN)<|ag rfl<|dn ?_
 cases sK
 refine cF<|aH<|aK.n<|ae.n<|sr<|mv rfl<|mv rfl ?_
 obtain⟨⟨W9,Xa⟩,yL,h⟩:=bS (F h)
 refine cl (zY yL) ⟨rfl,rfl,trivial⟩<|ex rfl rfl<|ex rfl rfl<|ag rfl<|ag rfl<|dn<|aj ?_
 obtain rfl:=O h
 exact R2 rfl rfl
 refine cT<|sr<|mv rfl<|bE (V h) fun tX CM h=>cN (nf CM) ⟨rfl,trivial⟩<|an (s:=.row _) rfl<|dn<|sr<|mo (s:=.row _) rfl<|mv rfl<|bE h fun oZ xE h=>ix rfl rfl xE<|lr rfl rfl<|lE h fun zS A9 h=>cv _ rfl (UK.nat A9) ?_
 obtain⟨⟨xA,l5⟩,Gp,h⟩:=bS h
 refine bE h fun _ he5 h=>cR (l:=tX) (l':=l5) (e:=ah) (qu Gp) (jb he5) 39 rfl (.cons rfl (.cons rfl (.nil)))<|ag rfl<|dn<|sr<|mo (s:=.row _) rfl<|mv rfl<|lE h fun rI h48 h=>cv _ rfl (UK.nat h48)<|bl (l:=[rI]) (e:=ah) (.one rfl (.nil)) rfl rfl rfl rfl rfl rfl<|an (s:=.row _) rfl<|ag rfl<|dn<|bt (dD (i:=39) (E1:=130) (n:=1) (e:=ah) (l:=l5) rfl)<|aj ?_
 refine aK.r<|ae.r ?_
 obtain rfl:=O h
 exact R2 rfl rfl
 refine cT<|sr<|mv rfl<|bE (V h) fun ik ni h=>cl (dz ni) ⟨rfl,trivial⟩<|mv rfl<|bE h fun jJ qb h=>cl (dz qb) ⟨rfl,trivial⟩<|ag rfl<|ag rfl<|dn<|qq<|ai mixed<|mv rfl<|mv rfl<|bE h fun lG oQ h=>RT.quo .none _ rfl rfl T (nzU oQ) (UK.quo oQ) ?_
 obtain⟨⟨Vf,Pw⟩,oU,h⟩:=bS h
 refine cl (ke oU) ⟨rfl,rfl,trivial⟩<|fl rfl rfl<|mv rfl<|mv rfl<|bE h fun rf xC h=>RT.rem .none _ rfl rfl T (nzR xC) (Nm xC) ?_
 obtain⟨⟨nO,mS⟩,kV,h⟩:=bS h
 refine cl (ke kV) ⟨rfl,rfl,trivial⟩<|fl rfl rfl<|ag rfl<|ag rfl ?_
 refine RT.done ⟨by kernel_rfl,?_⟩
 refine ae.n<|aj<|aK.r<|ae.r ?_
 obtain rfl:=O h
 exact R2 rfl rfl
 refine cT<|sr<|mv rfl<|bE (V h) fun dR fT h=>cl (oz fT) ⟨rfl,trivial⟩<|ag rfl<|ag rfl<|dn<|bt (fR 4 310 130 1 rfl rfl T)<|bt (dD (i:=310) (E1:=130) (n:=1) (e:=ah) (l:=[]) rfl)<|aj<|aK.r<|ae.r ?_
 obtain rfl:=O h
 exact R2 rfl rfl
end Go.Proofs.YtningmnklfpfjaaGreat
namespace Go.Proofs.YtningmnklfpfjaaGreat
open Go.Fw Go.Fw.Z Go.RowKit
theorem dS{x0:Int}{r:Zr}(h:bD x0=some r):Pure Tryz.prog 90 [.v (.int .i64 x0)] (.agg (eZ r)):=by
 refine ay Tryz.func90 rfl (Nat.le_of_ble_eq_true rfl) (fun cO M vs hvs=>?_)
 unfold bD at h
 refine sr<|al (cs:=[.v (.bool false),slc 1 (List.map ah [])]) (by exact⟨SV.aa _,imp_nil,trivial⟩) rfl<|dn<|sr<|mv rfl<|lE h fun x5 h5 h=>cv _ rfl (UK.conv h5)<|ag rfl<|dn<|qq<|sr<|mv rfl<|lE h fun x7 h7 h=>ls _ rfl rfl h7<|dn ?_
 refine aF h (fun j2=>AS.bJ 14 [(0,.sv (.v (.int .i64 x0))),(2,.ptr 2 0),(3,.sv (.v (.int .u64 ((j2:Nat):Int))))] [(2,⟨41,[.sv (.v (.bool false)),.sv (slc 1 (List.map ah []))]⟩)] []) (fun h=>?_) (fun Xb h=>?_)
 cases x7
 exact fs<|⟨x5,(F h),wR []⟩
 exact cT<|af<|mv rfl<|lE (V h) fun x9 h9 h=>RT.neg .none _ rfl T (UK.neg h9)<|ag rfl<|dn<|⟨x9,h,wR []⟩
 try dsimp only
 refine ae.n<|sr<|mv rfl<|lE h fun iI nh h=>ls _ rfl rfl nh<|mv rfl ?_
 obtain⟨⟨EZ,E4⟩,gW,h⟩:=bS h
 refine cl (ke gW) ⟨rfl,rfl,trivial⟩<|so rfl rfl rfl<|dn<|aj ?_
 obtain rfl:=O h
 exact RZ (.agg rfl rfl (.cons rfl (.cons rfl (.nil))) rfl (.nil))
theorem cV{x0:Zr}{r:Int×Bool}(h:dx x0=some r):Pure Tryz.prog 166 [.agg (eZ x0)] (.wm [.v (.int .i64 r.1),.v (.bool r.2)]):=by
 obtain⟨aC,aD⟩:=x0
 refine ay Tryz.func166 rfl (Nat.le_of_ble_eq_true rfl) (fun cO M vs hvs=>?_)
 unfold dx at h
 refine sr<|bx rfl<|ag rfl<|ag rfl<|dn<|sr<|fa rfl rfl<|lV rfl rfl rfl<|bE h fun x8 h8 h=>cl (aQ h8) ⟨rfl,trivial⟩<|ag rfl<|dn<|qq<|sr<|mv rfl<|lE h fun ek gC h=>ln rfl gC<|lE h fun iI nh h=>gt _ rfl rfl nh<|dn ?_
 cases iI
 refine fs<|sr<|mv rfl<|bE (F h) fun iA gW h=>cl (dz gW) ⟨rfl,trivial⟩<|ag rfl<|dn<|qq<|sr<|fa rfl rfl<|lV rfl rfl rfl<|dn ?_
 cases aC
 refine fs<|qq<|sr<|mv rfl<|lE (F h) fun jB nS h=>ge _ rfl rfl (leN (p:=9223372036854775808) (q:=iA) nS)<|dn ?_
 cases jB
 refine fs<|sr<|mv rfl<|lE (F h) fun ir mP h=>cv _ rfl mP<|ag rfl<|ag rfl<|dn<|aj ?_
 obtain rfl:=O h
 exact R2 rfl rfl
 refine cT<|sr<|ag rfl<|ag rfl<|dn<|aj<|ae.r ?_
 obtain rfl:=O (V h)
 exact R2 rfl rfl
 refine cT<|qq<|sr<|mv rfl<|lE (V h) fun gx lH h=>gt _ rfl rfl (ltN (p:=9223372036854775808) (q:=iA) lH)<|dn ?_
 cases gx
 refine fs<|sr<|mv rfl<|lE (F h) fun kS kJ h=>RT.neg .none _ rfl T (UK.neg kJ)<|lE h fun gO lW h=>cv _ rfl lW<|ag rfl<|ag rfl<|dn<|aj<|ae.r ?_
 obtain rfl:=O h
 exact R2 rfl rfl
 refine cT<|sr<|ag rfl<|ag rfl<|dn<|aj<|ae.r<|ae.r ?_
 obtain rfl:=O (V h)
 exact R2 rfl rfl
 refine cT<|sr<|ag rfl<|ag rfl<|dn<|aj<|ae.r ?_
 obtain rfl:=O (V h)
 exact R2 rfl rfl
theorem pz{x0:Bool}{x1:List Nat}{x2:Bool}{x3:List Nat}{r:Zr}(h:cw x0 x1 x2 x3=some r):Pure Tryz.prog 203 [.v (.bool x0),slc 1 (List.map ah x1),.v (.bool x2),slc 1 (List.map ah x3)] (.agg (eZ r)):=by
 refine ay Tryz.func203 rfl (Nat.le_of_ble_eq_true rfl) (fun cO M vs hvs=>?_)
 unfold cw at h
 refine sr<|al (cs:=[.v (.bool false),slc 1 (List.map ah [])]) (by exact⟨SV.aa _,imp_nil,trivial⟩) rfl<|dn<|qq<|sr<|mv rfl<|mv rfl<|lE h fun iI nh h=>RT.aaO .none _ rfl rfl T nh<|dn ?_
 cases iI
 refine fs<|qq<|sr<|mv rfl<|mv rfl<|bE (F h) fun kS kJ h=>cl (dG kJ) ⟨rfl,rfl,trivial⟩<|lE h fun gO lW h=>ls _ rfl rfl lW<|dn ?_
 cases gO
 refine fs<|sr<|mv rfl<|mv rfl<|mv rfl<|bE (F h) fun iq jw h=>cl (me jw) ⟨rfl,rfl,trivial⟩ ?_
 obtain⟨⟨o5,o6⟩,uJ,h⟩:=bS h
 refine cl (fz uJ) ⟨rfl,rfl,trivial⟩<|so rfl rfl rfl<|dn<|aj ?_
 obtain rfl:=O h
 exact RZ (.agg rfl rfl (.cons rfl (.cons rfl (.nil))) rfl (.nil))
 refine cT<|sr<|mv rfl<|mv rfl<|mv rfl<|bE (V h) fun ir mP h=>cl (me mP) ⟨rfl,rfl,trivial⟩ ?_
 obtain⟨⟨iL,iB⟩,qc,h⟩:=bS h
 refine cl (fz qc) ⟨rfl,rfl,trivial⟩<|so rfl rfl rfl<|dn<|aj<|ae.r ?_
 obtain rfl:=O h
 exact RZ (.agg rfl rfl (.cons rfl (.cons rfl (.nil))) rfl (.nil))
 refine cT<|sr<|mv rfl<|mv rfl<|mv rfl<|bE (V h) fun dR fT h=>cl (qt fT) ⟨rfl,rfl,trivial⟩ ?_
 obtain⟨⟨nP,nQ⟩,kX,h⟩:=bS h
 refine cl (fz kX) ⟨rfl,rfl,trivial⟩<|so rfl rfl rfl<|dn<|aj<|ae.r ?_
 obtain rfl:=O h
 exact RZ (.agg rfl rfl (.cons rfl (.cons rfl (.nil))) rfl (.nil))
theorem Gw{x0:Zr}{x1:Zr}{r:Zr}(h:j1 x0 x1=some r):Pure Tryz.prog 188 [.agg (eZ x0),.agg (eZ x1)] (.agg (eZ r)):=by
 obtain⟨aC,aD⟩:=x0
 obtain⟨bN,bL⟩:=x1
 refine ay Tryz.func188 rfl (Nat.le_of_ble_eq_true rfl) (fun cO M vs hvs=>?_)
 unfold j1 at h
 refine sr<|bx rfl<|bx rfl<|al (cs:=[.v (.bool false),slc 1 (List.map ah [])]) (by exact⟨SV.aa _,imp_nil,trivial⟩) rfl<|dn<|sr<|ld rfl rfl (.cons rfl (.cons rfl (.nil))) ?_
 obtain⟨⟨yH,Cy⟩,fj,h⟩:=bS h
 refine cl (cV fj) ⟨rfl,trivial⟩<|mv rfl<|ex rfl rfl<|ex rfl rfl<|ag rfl<|ag rfl<|dn<|sr<|ld rfl rfl (.cons rfl (.cons rfl (.nil))) ?_
 obtain⟨⟨zU,Cz⟩,lH,h⟩:=bS h
 refine cl (cV lH) ⟨rfl,trivial⟩<|mv rfl<|ex rfl rfl<|ex rfl rfl<|ag rfl<|ag rfl<|dn<|qq<|qq ?_
 refine aF h (fun j3=>AS.bJ 48 [(2,.ptr 2 0),(3,.ptr 3 0),(4,.ptr 4 0),(5,.sv (.v (.int .i64 yH))),(7,.sv (.v (.int .i64 zU))),(23,.sv (.v (.bool j3)))] [(4,⟨41,[.sv (.v (.bool false)),.sv (slc 1 (List.map ah []))]⟩),(3,⟨41,[.sv (.v (.bool bN)),.sv (slc 1 (List.map ah bL))]⟩),(2,⟨41,[.sv (.v (.bool aC)),.sv (slc 1 (List.map ah aD))]⟩)] []) (fun h=>?_) (fun o7 h=>?_)
 refine af<|mv rfl<|mv rfl<|bE h fun CA Ba h=>?_
 cases Cy
 obtain rfl:=O (F Ba)
 exact ww<|pF rfl<|dn<|⟨false,h,wR []⟩
 refine gm rfl ?_
 obtain rfl:=O (V Ba)
 exact pT rfl<|dn<|⟨Cz,h,wR []⟩
 try dsimp only
 refine ae.n ?_
 refine aF h (fun j5=>AS.bJ 48 [(2,.ptr 2 0),(3,.ptr 3 0),(4,.ptr 4 0)] [(4,⟨41,[.sv (.v (.bool false)),.sv (slc 1 (List.map ah []))]⟩),(3,⟨41,[.sv (.v (.bool bN)),.sv (slc 1 (List.map ah bL))]⟩),(2,⟨41,[.sv (.v (.bool aC)),.sv (slc 1 (List.map ah aD))]⟩)] []) (fun h=>?_) (fun j5 h=>?_)
 cases o7
 exact fs<|⟨(),(F h),wR []⟩
 refine cT<|sr<|mv rfl<|mv rfl<|lE (V h) fun lG oQ h=>ad _ rfl rfl oQ<|ag rfl<|dn<|sr<|mv rfl<|mv rfl<|lE h fun iq jw h=>RT.xor .none _ rfl rfl T jw<|mv rfl<|mv rfl<|lE h fun iD kV h=>RT.xor .none _ rfl rfl T kV<|lE h fun sL sV h=>RT.and .none _ rfl rfl T sV<|lE h fun m8 o9 h=>ge _ rfl rfl o9<|dn ?_
 cases m8
 exact fs<|⟨(),(F h),wR []⟩
 refine cT<|sr<|mv rfl ?_
 obtain⟨⟨uE,uF⟩,qe,h⟩:=bS (V h)
 refine cl (dS qe) ⟨rfl,trivial⟩<|so rfl rfl rfl<|dn<|aj<|ae.r<|ae.r ?_
 obtain rfl:=O h
 exact RZ (.agg rfl rfl (.cons rfl (.cons rfl (.nil))) rfl (.nil))
 try dsimp only
 refine ae.n<|qq<|ai mixed<|fa rfl rfl<|lV rfl rfl rfl<|fa rfl rfl<|lV rfl rfl rfl<|bE h fun tG zX h=>cl (aQ zX) ⟨rfl,trivial⟩<|fa rfl rfl<|lV rfl rfl rfl<|fa rfl rfl<|lV rfl rfl rfl<|bE h fun vU h46 h=>cl (aQ h46) ⟨rfl,trivial⟩ ?_
 obtain⟨⟨E5,E6⟩,xF,h⟩:=bS h
 refine cl (pz xF) ⟨rfl,rfl,rfl,rfl,trivial⟩<|so rfl rfl rfl ?_
 refine RT.done ⟨by kernel_rfl,?_⟩
 refine ae.n<|aj ?_
 obtain rfl:=O h
 exact RZ (.agg rfl rfl (.cons rfl (.cons rfl (.nil))) rfl (.nil))
theorem Gx{x0:Zr}{x1:Zr}{r:Zr}(h:j9 x0 x1=some r):Pure Tryz.prog 190 [.agg (eZ x0),.agg (eZ x1)] (.agg (eZ r)):=by
 obtain⟨aC,aD⟩:=x0
 obtain⟨bN,bL⟩:=x1
 refine ay Tryz.func190 rfl (Nat.le_of_ble_eq_true rfl) (fun cO M vs hvs=>?_)
 unfold j9 at h
 refine sr<|bx rfl<|bx rfl<|al (cs:=[.v (.bool false),slc 1 (List.map ah [])]) (by exact⟨SV.aa _,imp_nil,trivial⟩) rfl<|dn<|sr<|ld rfl rfl (.cons rfl (.cons rfl (.nil))) ?_
 obtain⟨⟨yH,Cy⟩,fj,h⟩:=bS h
 refine cl (cV fj) ⟨rfl,trivial⟩<|mv rfl<|ex rfl rfl<|ex rfl rfl<|ag rfl<|ag rfl<|dn<|sr<|ld rfl rfl (.cons rfl (.cons rfl (.nil))) ?_
 obtain⟨⟨zU,Cz⟩,lH,h⟩:=bS h
 refine cl (cV lH) ⟨rfl,trivial⟩<|mv rfl<|ex rfl rfl<|ex rfl rfl<|ag rfl<|ag rfl<|dn<|qq<|qq ?_
 refine aF h (fun j3=>AS.bJ 49 [(2,.ptr 2 0),(3,.ptr 3 0),(4,.ptr 4 0),(5,.sv (.v (.int .i64 yH))),(7,.sv (.v (.int .i64 zU))),(23,.sv (.v (.bool j3)))] [(4,⟨41,[.sv (.v (.bool false)),.sv (slc 1 (List.map ah []))]⟩),(3,⟨41,[.sv (.v (.bool bN)),.sv (slc 1 (List.map ah bL))]⟩),(2,⟨41,[.sv (.v (.bool aC)),.sv (slc 1 (List.map ah aD))]⟩)] []) (fun h=>?_) (fun o7 h=>?_)
 refine af<|mv rfl<|mv rfl<|bE h fun CA Ba h=>?_
 cases Cy
 obtain rfl:=O (F Ba)
 exact ww<|pF rfl<|dn<|⟨false,h,wR []⟩
 refine gm rfl ?_
 obtain rfl:=O (V Ba)
 exact pT rfl<|dn<|⟨Cz,h,wR []⟩
 try dsimp only
 refine ae.n ?_
 refine aF h (fun j5=>AS.bJ 49 [(2,.ptr 2 0),(3,.ptr 3 0),(4,.ptr 4 0)] [(4,⟨41,[.sv (.v (.bool false)),.sv (slc 1 (List.map ah []))]⟩),(3,⟨41,[.sv (.v (.bool bN)),.sv (slc 1 (List.map ah bL))]⟩),(2,⟨41,[.sv (.v (.bool aC)),.sv (slc 1 (List.map ah aD))]⟩)] []) (fun h=>?_) (fun j5 h=>?_)
 cases o7
 exact fs<|⟨(),(F h),wR []⟩
 refine cT<|sr<|mv rfl<|mv rfl<|lE (V h) fun lG oQ h=>sb _ rfl rfl oQ<|ag rfl<|dn<|sr<|mv rfl<|mv rfl<|lE h fun iq jw h=>RT.xor .none _ rfl rfl T jw<|mv rfl<|mv rfl<|lE h fun iD kV h=>RT.xor .none _ rfl rfl T kV<|lE h fun sL sV h=>RT.and .none _ rfl rfl T sV<|lE h fun m8 o9 h=>ge _ rfl rfl o9<|dn ?_
 cases m8
 exact fs<|⟨(),(F h),wR []⟩
 refine cT<|sr<|mv rfl ?_
 obtain⟨⟨uE,uF⟩,qe,h⟩:=bS (V h)
 refine cl (dS qe) ⟨rfl,trivial⟩<|so rfl rfl rfl<|dn<|aj<|ae.r<|ae.r ?_
 obtain rfl:=O h
 exact RZ (.agg rfl rfl (.cons rfl (.cons rfl (.nil))) rfl (.nil))
 try dsimp only
 refine ae.n<|qq<|ai mixed<|fa rfl rfl<|lV rfl rfl rfl<|fa rfl rfl<|lV rfl rfl rfl<|bE h fun tG zX h=>cl (aQ zX) ⟨rfl,trivial⟩<|fa rfl rfl<|lV rfl rfl rfl<|lE h fun zS A9 h=>nt rfl _ A9<|fa rfl rfl<|lV rfl rfl rfl<|bE h fun uC xF h=>cl (aQ xF) ⟨rfl,trivial⟩ ?_
 obtain⟨⟨Px,Py⟩,h48,h⟩:=bS h
 refine cl (pz h48) ⟨rfl,rfl,rfl,rfl,trivial⟩<|so rfl rfl rfl ?_
 refine RT.done ⟨by kernel_rfl,?_⟩
 refine ae.n<|aj ?_
 obtain rfl:=O h
 exact RZ (.agg rfl rfl (.cons rfl (.cons rfl (.nil))) rfl (.nil))
theorem dO{x0:Zr}{x1:Zr}{r:Zr}(h:cA x0 x1=some r):Pure Tryz.prog 130 [.agg (eZ x0),.agg (eZ x1)] (.agg (eZ r)):=by
 obtain⟨aC,aD⟩:=x0
 obtain⟨bN,bL⟩:=x1
 refine ay Tryz.func130 rfl (Nat.le_of_ble_eq_true rfl) (fun cO M vs hvs=>?_)
 unfold cA at h
 refine sr<|bx rfl<|bx rfl<|al (cs:=[.v (.bool false),slc 1 (List.map ah [])]) (by exact⟨SV.aa _,imp_nil,trivial⟩) rfl<|dn<|qq<|ai mixed<|fa rfl rfl<|lV rfl rfl rfl<|bE h fun x9 h9 h=>cl (aQ h9) ⟨rfl,trivial⟩<|fa rfl rfl<|lV rfl rfl rfl<|bE h fun dW fj h=>cl (aQ fj) ⟨rfl,trivial⟩<|ag rfl<|ag rfl ?_
 refine RT.done ⟨by kernel_rfl,?_⟩
 refine ae.n<|qq<|qq ?_
 refine aF h (fun j3=>AS.bJ 41 [(2,.ptr 2 0),(3,.ptr 3 0),(4,.ptr 4 0),(5,.sv (slc 1 (List.map ah x9))),(6,.sv (slc 1 (List.map ah dW))),(20,.sv (.v (.bool j3)))] [(4,⟨41,[.sv (.v (.bool false)),.sv (slc 1 (List.map ah []))]⟩),(3,⟨41,[.sv (.v (.bool bN)),.sv (slc 1 (List.map ah bL))]⟩),(2,⟨41,[.sv (.v (.bool aC)),.sv (slc 1 (List.map ah aD))]⟩)] []) (fun h=>?_) (fun ID h=>?_)
 refine af<|mv rfl<|lE h fun fg jv h=>ln rfl jv<|lE h fun dR fT h=>RT.leq .none _ rfl rfl T fT<|mv rfl<|bE h fun PB nC h=>?_
 cases dR
 obtain rfl:=O (F nC)
 exact ww<|ww<|ww<|pF rfl<|dn<|⟨false,h,wR []⟩
 refine gm rfl<|lE (V nC) fun fF iM nC=>gn rfl iM<|lE nC fun kS kJ nC=>RT.leq (.some rfl rfl) _ rfl rfl T kJ ?_
 obtain rfl:=O nC
 exact pT rfl<|dn<|⟨kS,h,wR []⟩
 try dsimp only
 refine ae.n ?_
 cases ID
 refine fs<|qq<|ai mixed<|fa rfl rfl<|lV rfl rfl rfl<|fa rfl rfl<|lV rfl rfl rfl<|lE (F h) fun oP qe h=>RT.Nf .none _ rfl rfl T qe<|mv rfl<|mv rfl<|bE h fun tX CM h=>cl (yK CM) ⟨rfl,rfl,trivial⟩ ?_
 obtain⟨⟨uG,uH⟩,oc,h⟩:=bS h
 refine cl (fz oc) ⟨rfl,rfl,trivial⟩<|so rfl rfl rfl ?_
 refine RT.done ⟨by kernel_rfl,?_⟩
 refine ae.n<|aj ?_
 obtain rfl:=O h
 exact RZ (.agg rfl rfl (.cons rfl (.cons rfl (.nil))) rfl (.nil))
 refine cT<|qq<|ai mixed<|fa rfl rfl<|lV rfl rfl rfl<|fa rfl rfl<|lV rfl rfl rfl<|lE (V h) fun vS qc h=>RT.Nf .none _ rfl rfl T qc<|mv rfl<|bE h fun lq oU h=>cl (dz oU) ⟨rfl,trivial⟩<|mv rfl<|bE h fun iq jw h=>cl (dz jw) ⟨rfl,trivial⟩<|lE h fun uB uJ h=>RT.mul .none _ rfl rfl T (UK.mul (a:=lq) (b:=iq) uJ) ?_
 obtain⟨⟨Pz,PA⟩,xC,h⟩:=bS h
 refine cl (ke xC) ⟨rfl,rfl,trivial⟩<|so rfl rfl rfl ?_
 refine RT.done ⟨by kernel_rfl,?_⟩
 refine ae.n<|aj<|ae.r ?_
 obtain rfl:=O h
 exact RZ (.agg rfl rfl (.cons rfl (.cons rfl (.nil))) rfl (.nil))
theorem mg{x0:Zr}{r:Zr}(h:fy x0=some r):Pure Tryz.prog 145 [.agg (eZ x0)] (.agg (eZ r)):=by
 obtain⟨aC,aD⟩:=x0
 refine ay Tryz.func145 rfl (Nat.le_of_ble_eq_true rfl) (fun cO M vs hvs=>?_)
 unfold fy at h
 refine sr<|bx rfl<|al (cs:=[.v (.bool false),slc 1 (List.map ah [])]) (by exact⟨SV.aa _,imp_nil,trivial⟩) rfl<|dn<|qq<|ai mixed<|fa rfl rfl<|lV rfl rfl rfl<|lE h fun x5 h5 h=>nt rfl _ h5<|fa rfl rfl<|lV rfl rfl rfl<|bE h fun x8 h8 h=>cl (aQ h8) ⟨rfl,trivial⟩<|bE h fun x9 h9 h=>cl (oz h9) ⟨rfl,trivial⟩ ?_
 obtain⟨⟨CB,CC⟩,gC,h⟩:=bS h
 refine cl (fz gC) ⟨rfl,rfl,trivial⟩<|so rfl rfl rfl ?_
 refine RT.done ⟨by kernel_rfl,?_⟩
 refine ae.n<|aj ?_
 obtain rfl:=O h
 exact RZ (.agg rfl rfl (.cons rfl (.cons rfl (.nil))) rfl (.nil))
theorem ew{x0:Zr}{r:Int}(h:cM x0=some r):Pure Tryz.prog 104 [.agg (eZ x0)] (.v (.int .i64 r)):=by
 obtain⟨aC,aD⟩:=x0
 refine ay Tryz.func104 rfl (Nat.le_of_ble_eq_true rfl) (fun cO M vs hvs=>?_)
 unfold cM at h
 refine sr<|bx rfl<|ag rfl<|dn<|qq<|ak<|sr<|fa rfl rfl<|lV rfl rfl rfl<|bE h fun x6 h6 h=>cl (aQ h6) ⟨rfl,trivial⟩<|lE h fun x7 h7 h=>ln rfl h7<|lE h fun x8 h8 h=>eq _ rfl rfl (ua (p:=x7) (q:=0) h8)<|ag rfl<|dn ?_
 cases x8
 refine cF<|sr<|fa rfl rfl<|lV rfl rfl rfl<|ag rfl<|dn ?_
 replace h:=F h
 cases aC
 refine cF<|aH<|aK.n<|ae.n<|sr<|ag rfl<|dn<|aj ?_
 obtain rfl:=O (F h)
 exact R1 rfl
 refine cT<|sr<|ag rfl<|dn<|aj<|aK.r<|ae.r ?_
 obtain rfl:=O (V h)
 exact R1 rfl
 refine cT<|sr<|ag rfl<|dn<|aj<|aK.r<|ae.r ?_
 obtain rfl:=O (V h)
 exact R1 rfl
theorem Gy{x0:Zr}{x1:Zr}{r:Int}(h:nR x0 x1=some r):Pure Tryz.prog 129 [.agg (eZ x0),.agg (eZ x1)] (.v (.int .i64 r)):=by
 obtain⟨aC,aD⟩:=x0
 obtain⟨bN,bL⟩:=x1
 refine ay Tryz.func129 rfl (Nat.le_of_ble_eq_true rfl) (fun cO M vs hvs=>?_)
 unfold nR at h
 refine sr<|bx rfl<|bx rfl<|ag rfl<|dn<|qq<|ai mixed<|ld rfl rfl (.cons rfl (.cons rfl (.nil)))<|bE h fun x8 h8 h=>cl (ew h8) ⟨rfl,trivial⟩<|ld rfl rfl (.cons rfl (.cons rfl (.nil)))<|bE h fun ek gC h=>cl (ew gC) ⟨rfl,trivial⟩<|ag rfl<|ag rfl ?_
 refine RT.done ⟨by kernel_rfl,?_⟩
 refine ae.n<|qq<|ak<|sr<|mv rfl<|mv rfl<|lE h fun fg jv h=>ls _ rfl rfl jv<|ag rfl<|dn ?_
 cases fg
 refine cF<|sr<|mv rfl<|mv rfl<|lE (F h) fun fF iM h=>gt _ rfl rfl iM<|ag rfl<|dn ?_
 cases fF
 refine cF<|sr<|mv rfl<|lE (F h) fun ik ni h=>ls _ rfl rfl ni<|ag rfl<|dn ?_
 cases ik
 refine cF<|aH<|aK.n<|ae.n<|qq<|ai mixed<|fa rfl rfl<|lV rfl rfl rfl<|bE (F h) fun rf xC h=>cl (aQ xC) ⟨rfl,trivial⟩<|fa rfl rfl<|lV rfl rfl rfl<|bE h fun m8 o9 h=>cl (aQ o9) ⟨rfl,trivial⟩<|bE h fun ow xD h=>cl (dG xD) ⟨rfl,rfl,trivial⟩<|ag rfl ?_
 refine RT.done ⟨by kernel_rfl,?_⟩
 refine ae.n<|aj ?_
 obtain rfl:=O h
 exact R1 rfl
 refine cT<|qq<|ai mixed<|fa rfl rfl<|lV rfl rfl rfl<|bE (V h) fun ir mP h=>cl (aQ mP) ⟨rfl,trivial⟩<|fa rfl rfl<|lV rfl rfl rfl<|bE h fun lq oU h=>cl (aQ oU) ⟨rfl,trivial⟩<|bE h fun oM sS h=>cl (dG sS) ⟨rfl,rfl,trivial⟩<|ag rfl ?_
 refine RT.done ⟨by kernel_rfl,?_⟩
 refine ae.n<|aj<|aK.r<|ae.r ?_
 obtain rfl:=O h
 exact R1 rfl
 refine cT<|sr<|ag rfl<|dn<|aj<|aK.r<|ae.r ?_
 obtain rfl:=O (V h)
 exact R1 rfl
 refine cT<|sr<|ag rfl<|dn<|aj<|aK.r<|ae.r ?_
 obtain rfl:=O (V h)
 exact R1 rfl
theorem tK{x0:Zr}{x1:Zr}{r:Zr×Zr×Int}(h:dJ x0 x1=some r):Pure Tryz.prog 169 [.agg (eZ x0),.agg (eZ x1)] (.wm [.agg (eZ r.1),.agg (eZ r.2.1),.v (.int .i64 r.2.2)]):=by
 obtain⟨aC,aD⟩:=x0
 obtain⟨bN,bL⟩:=x1
 refine ay Tryz.func169 rfl (Nat.le_of_ble_eq_true rfl) (fun cO M vs hvs=>?_)
 unfold dJ at h
 refine sr<|bx rfl<|bx rfl<|al (cs:=[.v (.bool false),slc 1 (List.map ah [])]) (by exact⟨SV.aa _,imp_nil,trivial⟩) rfl<|al (cs:=[.v (.bool false),slc 1 (List.map ah [])]) (by exact⟨SV.aa _,imp_nil,trivial⟩) rfl<|ag rfl<|dn<|qq<|ai mixed<|fa rfl rfl<|lV rfl rfl rfl<|bE h fun iA gW h=>cl (aQ gW) ⟨rfl,trivial⟩<|fa rfl rfl<|lV rfl rfl rfl ?_
 refine bE h fun iY kX h=>cl (aQ kX) ⟨rfl,trivial⟩<|ag rfl<|ag rfl ?_
 refine RT.done ⟨by kernel_rfl,?_⟩
 refine ae.n<|qq<|sr<|mv rfl<|lE h fun fF iM h=>ln rfl iM<|lE h fun kS kJ h=>eq _ rfl rfl (ua (p:=fF) (q:=0) kJ)<|dn ?_
 cases kS
 refine fs<|sr<|mv rfl<|mv rfl ?_
 obtain⟨⟨IE,Xc⟩,qc,h⟩:=bS (F h)
 refine cl (qx qc) ⟨rfl,rfl,trivial⟩<|mv rfl<|ex rfl rfl<|ex rfl rfl<|ag rfl<|ag rfl<|dn<|sr<|mv rfl<|bE h fun iq jw h=>cl (aQ jw) ⟨rfl,trivial⟩<|ag rfl<|dn<|qq<|qq ?_
 refine aF h (fun j3=>AS.bJ 52 [(2,.ptr 2 0),(3,.ptr 3 0),(4,.ptr 4 0),(5,.ptr 5 0),(8,.sv (slc 1 (List.map ah iY))),(9,.sv (slc 1 (List.map ah IE))),(10,.sv (slc 1 (List.map ah iq))),(36,.sv (.v (.bool j3.1)))] [(5,⟨41,[.sv (.v (.bool false)),.sv (slc 1 (List.map ah []))]⟩),(4,⟨41,[.sv (.v (.bool false)),.sv (slc 1 (List.map ah []))]⟩),(3,⟨41,[.sv (.v (.bool bN)),.sv (slc 1 (List.map ah bL))]⟩),(2,⟨41,[.sv (.v (.bool j3.2)),.sv (slc 1 (List.map ah aD))]⟩)] []) (fun h=>?_) (fun j3 h=>?_)
 refine af<|fa rfl rfl<|lV rfl rfl rfl<|mv rfl<|bE h fun PF Ba h=>?_
 cases aC
 obtain rfl:=O (F Ba)
 exact ww<|ww<|ww<|pF rfl<|dn<|⟨(false,false),h,wR []⟩
 refine gm rfl<|lE (V Ba) fun m8 o9 Ba=>gn rfl o9<|lE Ba fun ow xD Ba=>gg _ rfl rfl xD ?_
 obtain rfl:=O Ba
 exact pT rfl<|dn<|⟨(ow,true),h,wR []⟩
 obtain⟨IF,CD⟩:=j3
 try dsimp only
 refine ae.n ?_
 refine aF h (fun j5=>AS.bJ 52 [(2,.ptr 2 0),(3,.ptr 3 0),(4,.ptr 4 0),(5,.ptr 5 0),(9,.sv (slc 1 (List.map ah j5.1))),(10,.sv (slc 1 (List.map ah j5.2)))] [(5,⟨41,[.sv (.v (.bool false)),.sv (slc 1 (List.map ah []))]⟩),(4,⟨41,[.sv (.v (.bool false)),.sv (slc 1 (List.map ah []))]⟩),(3,⟨41,[.sv (.v (.bool bN)),.sv (slc 1 (List.map ah bL))]⟩),(2,⟨41,[.sv (.v (.bool CD)),.sv (slc 1 (List.map ah aD))]⟩)] []) (fun h=>?_) (fun j5 h=>?_)
 cases IF
 exact fs<|⟨(IE,iq),(F h),wR []⟩
 exact cT<|sr<|mv rfl<|bl (l:=[1]) (e:=ah) (.one rfl (.nil)) rfl rfl rfl rfl rfl rfl<|bE (V h) fun tX CM h=>cl (qt CM) ⟨rfl,rfl,trivial⟩<|ag rfl<|dn<|af<|mv rfl<|mv rfl<|bE h fun oZ xE h=>cl (me xE) ⟨rfl,rfl,trivial⟩<|ag rfl<|dn<|⟨(tX,oZ),h,wR []⟩
 obtain⟨Xd,PC⟩:=j5
 try dsimp only
 refine ae.n<|sr<|fa rfl rfl<|lV rfl rfl rfl<|fa rfl rfl<|lV rfl rfl rfl<|lE h fun uC xF h=>RT.Nf .none _ rfl rfl T xF<|mv rfl ?_
 obtain⟨⟨PD,PE⟩,KS,h⟩:=bS h
 refine cl (fz KS) ⟨rfl,rfl,trivial⟩<|mv rfl ?_
 obtain⟨⟨CE,CF⟩,Gq,h⟩:=bS h
 refine cl (fz Gq) ⟨rfl,rfl,trivial⟩<|so rfl rfl rfl<|so rfl rfl rfl<|ag rfl<|dn<|aj ?_
 obtain rfl:=O h
 exact RZ (.agg rfl rfl (.cons rfl (.cons rfl (.nil))) rfl (.agg rfl rfl (.cons rfl (.cons rfl (.nil))) rfl (.tmp rfl (.nil))))
 refine cT<|sr<|bI (cs:=[_,_]) (cs':=[.v (.bool false),slc 1 (List.map ah [])]) (.nil) ⟨SV.aa _,imp_nil,trivial⟩<|bI (cs:=[_,_]) (cs':=[.v (.bool false),slc 1 (List.map ah [])]) (.nil) ⟨SV.aa _,imp_nil,trivial⟩<|so rfl rfl rfl<|so rfl rfl rfl<|ag rfl<|dn<|aj<|ae.r ?_
 obtain rfl:=O (V h)
 exact RZ (.agg rfl rfl (.cons rfl (.cons rfl (.nil))) rfl (.agg rfl rfl (.cons rfl (.cons rfl (.nil))) rfl (.tmp rfl (.nil))))
theorem Gz{x0:Zr}{x1:Zr}{r:Zr}(h:iZ x0 x1=some r):Pure Tryz.prog 168 [.agg (eZ x0),.agg (eZ x1)] (.agg (eZ r)):=by
 obtain⟨aC,aD⟩:=x0
 obtain⟨bN,bL⟩:=x1
 refine ay Tryz.func168 rfl (Nat.le_of_ble_eq_true rfl) (fun cO M vs hvs=>?_)
 unfold iZ at h
 refine sr<|bx rfl<|bx rfl<|al (cs:=[.v (.bool false),slc 1 (List.map ah [])]) (by exact⟨SV.aa _,imp_nil,trivial⟩) rfl<|dn<|qq<|ai mixed<|fa rfl rfl<|lV rfl rfl rfl<|bE h fun iA gW h=>cl (aQ gW) ⟨rfl,trivial⟩<|fa rfl rfl<|lV rfl rfl rfl<|bE h fun iY kX h=>cl (aQ kX) ⟨rfl,trivial⟩<|ag rfl<|ag rfl ?_
 refine RT.done ⟨by kernel_rfl,?_⟩
 refine ae.n<|qq<|bE h fun Pn Gv jK=>?_
 refine aT (fun(rK:(List Nat)×(List Nat))=>AS.bJ 57 [(4,.ptr 4 0),(5,.sv (slc 1 (List.map ah rK.1))),(6,.sv (slc 1 (List.map ah rK.2)))] [(4,⟨41,[.sv (.v (.bool false)),.sv (slc 1 (List.map ah []))]⟩)] []) (fun rK=>rK=Pn) ?_ (fun rK KV=>?_)
 refine ak ?_
 refine aU Gv (fun yE=>AS.bJ 57 [(4,.ptr 4 0),(5,.sv (slc 1 (List.map ah yE.1))),(6,.sv (slc 1 (List.map ah yE.2)))] [(4,⟨41,[.sv (.v (.bool false)),.sv (slc 1 (List.map ah []))]⟩)] []) (wR []) (fun yE y12 G12 h KW KX=>?_)
 obtain⟨Gi,zV⟩:=yE
 try dsimp only
 refine qq<|qq ?_
 refine aF h (fun j16=>AS.bJ 57 [(4,.ptr 4 0),(5,.sv (slc 1 (List.map ah Gi))),(6,.sv (slc 1 (List.map ah zV))),(29,.sv (.v (.bool j16)))] [(4,⟨41,[.sv (.v (.bool false)),.sv (slc 1 (List.map ah []))]⟩)] []) (fun h=>?_) (fun CG h=>?_)
 refine af<|mv rfl<|lE h fun fF iM h=>ln rfl iM<|lE h fun kS kJ h=>gt _ rfl rfl kJ<|mv rfl<|bE h fun KP kU h=>?_
 cases kS
 obtain rfl:=O (F kU)
 exact ww<|ww<|ww<|ww<|wu<|wu<|wu<|ww<|pF rfl<|dn<|⟨false,h,wR []⟩
 refine gm rfl<|lE (V kU) fun jB nS kU=>gn rfl nS<|lE kU fun jJ qb kU=>gg _ rfl rfl qb<|gm rfl<|bE kU fun KO oA kU=>?_
 cases jJ
 refine gm rfl<|lE (F oA) fun lG oQ oA=>gn rfl oQ<|lE oA fun lq oU oA=>gg _ rfl rfl oU ?_
 obtain rfl:=O oA
 refine gF rfl ?_
 obtain rfl:=O kU
 exact pT rfl<|dn<|⟨lq,h,wR []⟩
 obtain rfl:=O (V oA)
 refine ww<|ww<|ww<|gT rfl ?_
 obtain rfl:=O kU
 exact pT rfl<|dn<|⟨true,h,wR []⟩
 try dsimp only
 refine ae.n ?_
 cases CG
 refine cF<|bf<|ae.x<|ae.x<|aK.x<|ae.n ?_
 obtain rfl:=O (F h)
 exact⟨(Gi,zV),KX _ rfl,wR []⟩
 refine cT<|aH<|ae.n<|ak<|sr<|mv rfl<|mv rfl ?_
 obtain⟨⟨abD,Xe⟩,sV,h⟩:=bS (V h)
 refine cl (qx sV) ⟨rfl,rfl,trivial⟩<|mv rfl<|ex rfl rfl<|ex rfl rfl<|ag rfl<|ag rfl<|dn<|af<|mv rfl<|mv rfl<|bE h fun yB Gn h=>cl (aQ Gn) ⟨rfl,trivial⟩<|ag rfl<|ag rfl<|RT.done<|aK.n ?_
 obtain rfl:=O h
 exact ae.n ⟨(zV,yB),KW _ rfl,wR []⟩
 subst KV
 obtain⟨Mf,Mg⟩:=rK
 try dsimp only
 refine ae.n<|qq<|sr<|mv rfl<|lE jK fun lO oc jK=>ln rfl oc<|lE jK fun tG zX jK=>eq _ rfl rfl (ua (p:=lO) (q:=0) zX)<|dn ?_
 cases tG
 refine fs<|sr<|mv rfl<|bE (F jK) fun vU h46 jK=>cl (dz h46) ⟨rfl,trivial⟩<|mv rfl<|bE jK fun rI h48 jK=>cl (dz h48) ⟨rfl,trivial⟩<|ag rfl<|ag rfl<|dn<|qq<|bE jK fun e24 XY KZ=>?_
 refine aT (fun(uI:Nat)=>AS.bJ 57 [(4,.ptr 4 0),(9,.sv (.v (.int .u64 ((uI:Nat):Int))))] [(4,⟨41,[.sv (.v (.bool false)),.sv (slc 1 (List.map ah []))]⟩)] []) (fun uI=>uI=e24) ?_ (fun uI XZ=>?_)
 refine ak ?_
 refine aU XY (fun PG=>AS.bJ 57 [(4,.ptr 4 0),(9,.sv (.v (.int .u64 ((PG.1:Nat):Int)))),(10,.sv (.v (.int .u64 ((PG.2:Nat):Int))))] [(4,⟨41,[.sv (.v (.bool false)),.sv (slc 1 (List.map ah []))]⟩)] []) (wR []) (fun PG y24 G24 h X0 X1=>?_)
 obtain⟨E9,sQ⟩:=PG
 try dsimp only
 refine qq<|sr<|mv rfl<|lE h fun ri A8 h=>gt _ rfl rfl (ltN (p:=0) (q:=sQ) A8)<|dn ?_
 cases ri
 refine cF<|bf<|ae.x<|ae.x<|aK.x<|ae.n ?_
 obtain rfl:=O (F h)
 exact⟨E9,X1 _ rfl,wR []⟩
 refine cT<|aH<|ae.n<|ak<|ai mixed<|mv rfl<|mv rfl<|mv rfl<|bE (V h) fun yI Er h=>RT.rem .none _ rfl rfl T (nzR Er) (Nm Er)<|ag rfl<|ag rfl ?_
 refine RT.done ⟨by kernel_rfl,?_⟩
 refine aK.n ?_
 obtain rfl:=O h
 exact ae.n ⟨(sQ,yI),X0 _ rfl,wR []⟩
 subst XZ
 try dsimp only
 refine ae.n<|sr<|mv rfl ?_
 obtain⟨⟨o8,qp⟩,Ep,KZ⟩:=bS KZ
 refine cl (ke Ep) ⟨rfl,rfl,trivial⟩<|so rfl rfl rfl<|dn<|aj ?_
 obtain rfl:=O KZ
 exact RZ (.agg rfl rfl (.cons rfl (.cons rfl (.nil))) rfl (.nil))
 refine cT<|sr<|mv rfl<|bE (V jK) fun tJ BF jK=>cl (oz BF) ⟨rfl,trivial⟩ ?_
 obtain⟨⟨E7,E8⟩,A9,jK⟩:=bS jK
 refine cl (fz A9) ⟨rfl,rfl,trivial⟩<|so rfl rfl rfl<|dn<|aj<|ae.r ?_
 obtain rfl:=O jK
 exact RZ (.agg rfl rfl (.cons rfl (.cons rfl (.nil))) rfl (.nil))
end Go.Proofs.YtningmnklfpfjaaGreat
namespace Go.Proofs.YtningmnklfpfjaaGreat
open Go.Fw
noncomputable def eE(x0:Zr)(x1:Zr)(x2:Zr)(x3:Zr):Option (Zr×Zr):=match x0 with|⟨aC,aD⟩=>match x1 with|⟨bN,bL⟩=>match x2 with|⟨gR,iN⟩=>match x3 with|⟨wB,wD⟩=>(cA ⟨aC,aD⟩ ⟨wB,wD⟩).bind fun⟨gE,gj⟩=>(cA ⟨gR,iN⟩ ⟨bN,bL⟩).bind fun⟨kg,kj⟩=>(j1 ⟨gE,gj⟩ ⟨kg,kj⟩).bind fun⟨nP,nQ⟩=>(cA ⟨bN,bL⟩ ⟨wB,wD⟩).bind fun⟨mU,mW⟩=>some (⟨nP,nQ⟩,⟨mU,mW⟩)
noncomputable def eG(x0:Zr)(x1:Zr)(x2:Zr)(x3:Zr):Option (Zr×Zr):=match x0 with|⟨aC,aD⟩=>match x1 with|⟨bN,bL⟩=>match x2 with|⟨gR,iN⟩=>match x3 with|⟨wB,wD⟩=>(cA ⟨aC,aD⟩ ⟨wB,wD⟩).bind fun⟨gE,gj⟩=>(cA ⟨gR,iN⟩ ⟨bN,bL⟩).bind fun⟨kg,kj⟩=>(j9 ⟨gE,gj⟩ ⟨kg,kj⟩).bind fun⟨nP,nQ⟩=>(cA ⟨bN,bL⟩ ⟨wB,wD⟩).bind fun⟨mU,mW⟩=>some (⟨nP,nQ⟩,⟨mU,mW⟩)
noncomputable def eI(x0:Zr)(x1:Zr)(x2:Zr)(x3:Zr):Option (Zr×Zr):=match x0 with|⟨aC,aD⟩=>match x1 with|⟨bN,bL⟩=>match x2 with|⟨gR,iN⟩=>match x3 with|⟨wB,wD⟩=>(cA ⟨aC,aD⟩ ⟨gR,iN⟩).bind fun⟨gE,gj⟩=>(cA ⟨bN,bL⟩ ⟨wB,wD⟩).bind fun⟨kg,kj⟩=>some (⟨gE,gj⟩,⟨kg,kj⟩)
noncomputable def iE(x0:Zr)(x1:Zr)(x2:Zr)(x3:Zr):Option (Zr×Zr):=match x0 with|⟨aC,aD⟩=>match x1 with|⟨bN,bL⟩=>match x2 with|⟨gR,iN⟩=>match x3 with|⟨wB,wD⟩=>(cA ⟨aC,aD⟩ ⟨wB,wD⟩).bind fun⟨gE,gj⟩=>(cA ⟨bN,bL⟩ ⟨gR,iN⟩).bind fun⟨kg,kj⟩=>some (⟨gE,gj⟩,⟨kg,kj⟩)
noncomputable def cP(x0:Qr):Option (Zr×Zr):=match x0 with|⟨⟨aC,aD⟩,⟨aM,aN⟩⟩=>(cM ⟨aM,aN⟩).bind fun x6=>(some (decide ((x6:Int)=0))).bind fun x8=>(bif x8 then(bD 1).bind fun⟨Vg,Vh⟩=>some (⟨aC,aD⟩,⟨Vg,Vh⟩)else(some (decide ((x6:Int)=(-1)))).bind fun iA=>(bif iA then(fy ⟨aC,aD⟩).bind fun⟨nP,nQ⟩=>(fy ⟨aM,aN⟩).bind fun⟨mU,mW⟩=>some (⟨nP,nQ⟩,⟨mU,mW⟩)else some (⟨aC,aD⟩,⟨aM,aN⟩)))
noncomputable def dK(x0:Zr)(x1:Zr):Option (Qr):=match x0 with|⟨aC,aD⟩=>match x1 with|⟨bN,bL⟩=>(cM ⟨bN,bL⟩).bind fun x9=>(some (decide ((x9:Int)<0))).bind fun ek=>b9 (fun(j2:Bool×(List Nat)×Bool×(List Nat))=>match j2 with|⟨GA,GB,GC,GD⟩=>(iZ ⟨GC,GD⟩ ⟨GA,GB⟩).bind fun⟨uK,uL⟩=>(dJ ⟨GC,GD⟩ ⟨uK,uL⟩).bind fun⟨⟨sW,sX⟩,⟨P7,P8⟩,abM⟩=>(dJ ⟨GA,GB⟩ ⟨uK,uL⟩).bind fun⟨⟨sY,sZ⟩,⟨P9,Qa⟩,abN⟩=>(dx ⟨sY,sZ⟩).bind fun⟨Qb,Qc⟩=>b9 (fun(IL:Bool)=>b9 (fun(j7:Bool×(List Nat))=>match j7 with|⟨CN,CO⟩=>some ⟨⟨sW,sX⟩,⟨CN,CO⟩⟩) fun K7=>(bif IL then K7 (false,[])else K7 (sY,sZ))) fun K5=>(bif Qc then(some (decide ((Qb:Int)=1))).bind fun lO=>some lO else some false).bind fun Qd=>K5 Qd) fun K2=>(bif ek then(fy ⟨aC,aD⟩).bind fun⟨gE,gj⟩=>(fy ⟨bN,bL⟩).bind fun⟨IM,IN⟩=>K2 (IM,IN,gE,gj)else K2 (bN,bL,aC,aD))
noncomputable def dA(x0:Qr):Option (Int×Int×Bool):=match x0 with|⟨⟨aC,aD⟩,⟨aM,aN⟩⟩=>(dx ⟨aC,aD⟩).bind fun⟨GF,abO⟩=>(dx ⟨aM,aN⟩).bind fun⟨Es,abP⟩=>b9 (fun(K0:Bool)=>(bif K0 then some (0,0,false)else(some (decide ((Es:Int)=0))).bind fun tJ=>b9 (fun(Vi:Int×Int)=>match Vi with|⟨IP,Vj⟩=>some (IP,Vj,true)) fun K24=>(bif tJ then K24 (GF,1)else(some (decide ((Es:Int)<0))).bind fun vU=>b9 (fun(Vk:Int×Int)=>match Vk with|⟨Qe,Qf⟩=>K24 (Qe,Qf)) fun K26=>(bif vU then(some (IntKind.i64.wrap (0-GF))).bind fun rI=>(some (IntKind.i64.wrap (0-Es))).bind fun ri=>K26 (rI,ri)else K26 (GF,Es))))) fun K21=>(some (!abO)).bind fun gO=>(bif gO then some true else(some (!abP)).bind fun jJ=>some jJ).bind fun Qg=>(bif Qg then some true else(some (decide ((GF:Int)≤(-2147483648)))).bind fun lq=>some lq).bind fun X2=>(bif X2 then some true else(some (decide ((2147483648:Int)≤GF))).bind fun rf=>some rf).bind fun X3=>(bif X3 then some true else(some (decide ((Es:Int)≤(-2147483648)))).bind fun ow=>some ow).bind fun X5=>(bif X5 then some true else(some (decide ((2147483648:Int)≤Es))).bind fun tX=>some tX).bind fun X6=>K21 X6
noncomputable def ey(x0:Int)(x1:Int):Option (Qr):=(bQ (fun(s6:Int×Int)=>match s6 with|⟨rG,GG⟩=>(show Option ((Int×Int)⊕(Int))from(some (decide ((GG:Int)≠0))).bind fun ek=>(bif ek then(Nl rG GG).bind fun fg=>some (.inl (GG,fg))else some (.inr rG)))) (x0,x1)).bind fun xH=>(some (decide ((xH:Int)<0))).bind fun iY=>b9 (fun(IQ:Int)=>(some (decide ((IQ:Int)=x1))).bind fun ik=>(bif ik then(yz x0 IQ).bind fun ir=>(bD ir).bind fun⟨iL,iB⟩=>some ⟨⟨iL,iB⟩,⟨false,[]⟩⟩else(yz x0 IQ).bind fun iq=>(bD iq).bind fun⟨o5,o6⟩=>(yz x1 IQ).bind fun sL=>(bD sL).bind fun⟨IS,IT⟩=>some ⟨⟨o5,o6⟩,⟨IS,IT⟩⟩)) fun K8=>(bif iY then(some (IntKind.i64.wrap (0-xH))).bind fun fF=>K8 fF else K8 xH)
noncomputable def qy(x0:Int):Option (Int):=(some (decide ((x0:Int)<0))).bind fun x5=>(bif x5 then some (-1)else(some (decide ((0:Int)<x0))).bind fun x8=>(bif x8 then some 1 else some 0))
noncomputable def gG(x1:Qr)(x2:Qr):Option (Qr):=match x1 with|⟨⟨bN,bL⟩,⟨gy,gz⟩⟩=>match x2 with|⟨⟨gR,iN⟩,⟨yO,yP⟩⟩=>(cP ⟨⟨bN,bL⟩,⟨gy,gz⟩⟩).bind fun⟨⟨je,jg⟩,⟨jL,jM⟩⟩=>(cP ⟨⟨gR,iN⟩,⟨yO,yP⟩⟩).bind fun⟨⟨jh,ji⟩,⟨jN,jO⟩⟩=>(eE ⟨je,jg⟩ ⟨jL,jM⟩ ⟨jh,ji⟩ ⟨jN,jO⟩).bind fun⟨⟨kn,ko⟩,⟨kp,kq⟩⟩=>(dK ⟨kn,ko⟩ ⟨kp,kq⟩).bind fun⟨⟨nO,mS⟩,⟨qA,qB⟩⟩=>some ⟨⟨nO,mS⟩,⟨qA,qB⟩⟩
noncomputable def gH(x1:Qr)(x2:Qr):Option (Qr):=match x1 with|⟨⟨bN,bL⟩,⟨gy,gz⟩⟩=>match x2 with|⟨⟨gR,iN⟩,⟨yO,yP⟩⟩=>(cP ⟨⟨bN,bL⟩,⟨gy,gz⟩⟩).bind fun⟨⟨je,jg⟩,⟨jL,jM⟩⟩=>(cP ⟨⟨gR,iN⟩,⟨yO,yP⟩⟩).bind fun⟨⟨jh,ji⟩,⟨jN,jO⟩⟩=>(eG ⟨je,jg⟩ ⟨jL,jM⟩ ⟨jh,ji⟩ ⟨jN,jO⟩).bind fun⟨⟨kn,ko⟩,⟨kp,kq⟩⟩=>(dK ⟨kn,ko⟩ ⟨kp,kq⟩).bind fun⟨⟨nO,mS⟩,⟨qA,qB⟩⟩=>some ⟨⟨nO,mS⟩,⟨qA,qB⟩⟩
noncomputable def gI(x1:Qr)(x2:Qr):Option (Qr):=match x1 with|⟨⟨bN,bL⟩,⟨gy,gz⟩⟩=>match x2 with|⟨⟨gR,iN⟩,⟨yO,yP⟩⟩=>(cP ⟨⟨bN,bL⟩,⟨gy,gz⟩⟩).bind fun⟨⟨je,jg⟩,⟨jL,jM⟩⟩=>(cP ⟨⟨gR,iN⟩,⟨yO,yP⟩⟩).bind fun⟨⟨jh,ji⟩,⟨jN,jO⟩⟩=>(eI ⟨je,jg⟩ ⟨jL,jM⟩ ⟨jh,ji⟩ ⟨jN,jO⟩).bind fun⟨⟨kn,ko⟩,⟨kp,kq⟩⟩=>(dK ⟨kn,ko⟩ ⟨kp,kq⟩).bind fun⟨⟨nO,mS⟩,⟨qA,qB⟩⟩=>some ⟨⟨nO,mS⟩,⟨qA,qB⟩⟩
noncomputable def ku(x1:Qr)(x2:Qr):Option (Qr):=match x1 with|⟨⟨bN,bL⟩,⟨gy,gz⟩⟩=>match x2 with|⟨⟨gR,iN⟩,⟨yO,yP⟩⟩=>(cP ⟨⟨bN,bL⟩,⟨gy,gz⟩⟩).bind fun⟨⟨je,jg⟩,⟨jL,jM⟩⟩=>(cP ⟨⟨gR,iN⟩,⟨yO,yP⟩⟩).bind fun⟨⟨jh,ji⟩,⟨jN,jO⟩⟩=>(iE ⟨je,jg⟩ ⟨jL,jM⟩ ⟨jh,ji⟩ ⟨jN,jO⟩).bind fun⟨⟨kn,ko⟩,⟨kp,kq⟩⟩=>(dK ⟨kn,ko⟩ ⟨kp,kq⟩).bind fun⟨⟨nO,mS⟩,⟨qA,qB⟩⟩=>some ⟨⟨nO,mS⟩,⟨qA,qB⟩⟩
noncomputable def cZ(x0:Int):Option (Qr):=(bD x0).bind fun⟨X7,X8⟩=>some ⟨⟨X7,X8⟩,⟨false,[]⟩⟩
noncomputable def cj(x0:Qr):Option (Qr):=match x0 with|⟨⟨aC,aD⟩,⟨aM,aN⟩⟩=>(dA ⟨⟨aC,aD⟩,⟨aM,aN⟩⟩).bind fun⟨x8a,x8b,x8c⟩=>(bif x8c then(ey x8a x8b).bind fun⟨⟨kg,kj⟩,⟨Fb,Fe⟩⟩=>some ⟨⟨kg,kj⟩,⟨Fb,Fe⟩⟩else(cP ⟨⟨aC,aD⟩,⟨aM,aN⟩⟩).bind fun⟨⟨K1,K9⟩,⟨La,Lb⟩⟩=>(dK ⟨K1,K9⟩ ⟨La,Lb⟩).bind fun⟨⟨Qh,Qi⟩,⟨Qj,Qk⟩⟩=>some ⟨⟨Qh,Qi⟩,⟨Qj,Qk⟩⟩)
noncomputable def eM(x0:Qr):Option (Int):=match x0 with|⟨⟨aC,aD⟩,⟨aM,aN⟩⟩=>(cM ⟨aM,aN⟩).bind fun x5=>(some (decide ((x5:Int)<0))).bind fun x6=>(bif x6 then(cM ⟨aC,aD⟩).bind fun x9=>(some (IntKind.i64.wrap (0-x9))).bind fun ek=>some ek else(cM ⟨aC,aD⟩).bind fun iA=>some iA)
noncomputable def lI(x0:Qr)(x1:Qr):Option (Qr):=match x0 with|⟨⟨aC,aD⟩,⟨aM,aN⟩⟩=>match x1 with|⟨⟨bN,bL⟩,⟨gy,gz⟩⟩=>(dA ⟨⟨aC,aD⟩,⟨aM,aN⟩⟩).bind fun⟨uM,s9,uN⟩=>(dA ⟨⟨bN,bL⟩,⟨gy,gz⟩⟩).bind fun⟨uO,tc,uP⟩=>b9 (fun(nT:Bool)=>(bif nT then(some (IntKind.i64.wrap (uM*tc))).bind fun iq=>(some (IntKind.i64.wrap (uO*s9))).bind fun iD=>(some (IntKind.i64.wrap (iq+iD))).bind fun sL=>(some (IntKind.i64.wrap (s9*tc))).bind fun oP=>(ey sL oP).bind fun⟨⟨CP,CQ⟩,⟨CR,CS⟩⟩=>some ⟨⟨CP,CQ⟩,⟨CR,CS⟩⟩else(gG ⟨⟨aC,aD⟩,⟨aM,aN⟩⟩ ⟨⟨bN,bL⟩,⟨gy,gz⟩⟩).bind fun⟨⟨uG,uH⟩,⟨CT,CU⟩⟩=>some ⟨⟨uG,uH⟩,⟨CT,CU⟩⟩)) fun K3=>(bif uN then some uP else some false).bind fun uQ=>K3 uQ
noncomputable def lJ(x0:Qr)(x1:Qr):Option (Qr):=match x0 with|⟨⟨aC,aD⟩,⟨aM,aN⟩⟩=>match x1 with|⟨⟨bN,bL⟩,⟨gy,gz⟩⟩=>(dA ⟨⟨aC,aD⟩,⟨aM,aN⟩⟩).bind fun⟨uM,s9,uN⟩=>(dA ⟨⟨bN,bL⟩,⟨gy,gz⟩⟩).bind fun⟨uO,tc,uP⟩=>b9 (fun(nT:Bool)=>(bif nT then(some (IntKind.i64.wrap (uM*tc))).bind fun iq=>(some (IntKind.i64.wrap (uO*s9))).bind fun iD=>(some (IntKind.i64.wrap (iq-iD))).bind fun sL=>(some (IntKind.i64.wrap (s9*tc))).bind fun oP=>(ey sL oP).bind fun⟨⟨CP,CQ⟩,⟨CR,CS⟩⟩=>some ⟨⟨CP,CQ⟩,⟨CR,CS⟩⟩else(gH ⟨⟨aC,aD⟩,⟨aM,aN⟩⟩ ⟨⟨bN,bL⟩,⟨gy,gz⟩⟩).bind fun⟨⟨uG,uH⟩,⟨CT,CU⟩⟩=>some ⟨⟨uG,uH⟩,⟨CT,CU⟩⟩)) fun K3=>(bif uN then some uP else some false).bind fun uQ=>K3 uQ
noncomputable def kx(x0:Qr)(x1:Qr):Option (Qr):=match x0 with|⟨⟨aC,aD⟩,⟨aM,aN⟩⟩=>match x1 with|⟨⟨bN,bL⟩,⟨gy,gz⟩⟩=>(dA ⟨⟨aC,aD⟩,⟨aM,aN⟩⟩).bind fun⟨uM,s9,uN⟩=>(dA ⟨⟨bN,bL⟩,⟨gy,gz⟩⟩).bind fun⟨uO,tc,uP⟩=>b9 (fun(nT:Bool)=>(bif nT then(some (IntKind.i64.wrap (uM*uO))).bind fun iq=>(some (IntKind.i64.wrap (s9*tc))).bind fun iD=>(ey iq iD).bind fun⟨⟨Ql,Qm⟩,⟨Qn,Qo⟩⟩=>some ⟨⟨Ql,Qm⟩,⟨Qn,Qo⟩⟩else(gI ⟨⟨aC,aD⟩,⟨aM,aN⟩⟩ ⟨⟨bN,bL⟩,⟨gy,gz⟩⟩).bind fun⟨⟨uE,uF⟩,⟨Qp,Qq⟩⟩=>some ⟨⟨uE,uF⟩,⟨Qp,Qq⟩⟩)) fun K3=>(bif uN then some uP else some false).bind fun uQ=>K3 uQ
noncomputable def pA(x0:Qr)(x1:Qr):Option (Qr×Int):=match x0 with|⟨⟨aC,aD⟩,⟨aM,aN⟩⟩=>match x1 with|⟨⟨bN,bL⟩,⟨gy,gz⟩⟩=>(eM ⟨⟨bN,bL⟩,⟨gy,gz⟩⟩).bind fun iA=>(some (decide ((iA:Int)=0))).bind fun fg=>(bif fg then some (⟨⟨false,[]⟩,⟨false,[]⟩⟩,7)else(dA ⟨⟨aC,aD⟩,⟨aM,aN⟩⟩).bind fun⟨Qs,Tq,X9⟩=>(dA ⟨⟨bN,bL⟩,⟨gy,gz⟩⟩).bind fun⟨NB,NC,Ya⟩=>b9 (fun(CV:Bool)=>(bif CV then(some (decide ((NB:Int)<0))).bind fun sL=>b9 (fun(j6:Int×Int)=>match j6 with|⟨abR,abS⟩=>(some (IntKind.i64.wrap (abR*NC))).bind fun lO=>(some (IntKind.i64.wrap (Tq*abS))).bind fun tJ=>(ey lO tJ).bind fun⟨⟨E7,E8⟩,⟨Vl,Vm⟩⟩=>some (⟨⟨E7,E8⟩,⟨Vl,Vm⟩⟩,0)) fun K6=>(bif sL then(some (IntKind.i64.wrap (0-Qs))).bind fun ow=>(some (IntKind.i64.wrap (0-NB))).bind fun sK=>K6 (ow,sK)else K6 (Qs,NB))else(ku ⟨⟨aC,aD⟩,⟨aM,aN⟩⟩ ⟨⟨bN,bL⟩,⟨gy,gz⟩⟩).bind fun⟨⟨E5,E6⟩,⟨Vn,Vo⟩⟩=>some (⟨⟨E5,E6⟩,⟨Vn,Vo⟩⟩,0))) fun K3=>(bif X9 then some Ya else some false).bind fun Vp=>K3 Vp)
noncomputable def pB(x0:Qr):Option (Qr):=match x0 with|⟨⟨aC,aD⟩,⟨aM,aN⟩⟩=>(cj ⟨⟨aC,aD⟩,⟨aM,aN⟩⟩).bind fun⟨⟨Et,IU⟩,⟨Eu,GH⟩⟩=>(fy ⟨Et,IU⟩).bind fun⟨wE,wF⟩=>some ⟨⟨wE,wF⟩,⟨Eu,GH⟩⟩
noncomputable def pC(x0:Qr)(x1:Qr):Option (Int):=match x0 with|⟨⟨aC,aD⟩,⟨aM,aN⟩⟩=>match x1 with|⟨⟨bN,bL⟩,⟨gy,gz⟩⟩=>(cP ⟨⟨aC,aD⟩,⟨aM,aN⟩⟩).bind fun⟨⟨je,jg⟩,⟨jL,jM⟩⟩=>(cP ⟨⟨bN,bL⟩,⟨gy,gz⟩⟩).bind fun⟨⟨jh,ji⟩,⟨jN,jO⟩⟩=>(cM ⟨je,jg⟩).bind fun jB=>(cM ⟨jh,ji⟩).bind fun ir=>b9 (fun(CV:Bool)=>(bif CV then(some (IntKind.i64.wrap (jB-ir))).bind fun m8=>(qy m8).bind fun ow=>some ow else(cA ⟨je,jg⟩ ⟨jN,jO⟩).bind fun⟨Vq,Vr⟩=>(cA ⟨jh,ji⟩ ⟨jL,jM⟩).bind fun⟨Vs,Vt⟩=>(nR ⟨Vq,Vr⟩ ⟨Vs,Vt⟩).bind fun oZ=>some oZ)) fun K3=>(some (decide ((jB:Int)≠ir))).bind fun lq=>(bif lq then some true else(some (decide ((jB:Int)=0))).bind fun uB=>some uB).bind fun Vu=>K3 Vu
end Go.Proofs.YtningmnklfpfjaaGreat
namespace Go.Proofs.YtningmnklfpfjaaGreat
open Go.Fw Go.Fw.Z Go.RowKit
abbrev Qt:List (Value×Value):=[(.int .u8 43,.agg #[.func (.func 187) #[] #[]]),(.int .u8 45,.agg #[.func (.func 189) #[] #[]]),(.int .u8 42,.agg #[.func (.func 191) #[] #[]]),(.int .u8 47,.agg #[.func (.func 192) #[] #[]])]
theorem dU:Pure Tryz.prog 167 [] (O7 Qt):=by
 refine ay Tryz.func167 rfl (Nat.le_of_ble_eq_true rfl) (fun cO M vs hvs=>?_)
 refine aS<|af<|RT.EP .none rfl T<|RT.done<|ae.n<|aS<|Te (Nat.le_of_ble_eq_true rfl) rfl rfl rfl (fun S' h0=>?_)
 exact aj (R1 h0)
theorem uR{x0:Zr}{x1:Zr}{x2:Zr}{x3:Zr}{r:Zr×Zr}(h:eE x0 x1 x2 x3=some r):Pure Tryz.prog 187 [.agg (eZ x0),.agg (eZ x1),.agg (eZ x2),.agg (eZ x3)] (.wm [.agg (eZ r.1),.agg (eZ r.2)]):=by
 obtain⟨aC,aD⟩:=x0
 obtain⟨bN,bL⟩:=x1
 obtain⟨gR,iN⟩:=x2
 obtain⟨wB,wD⟩:=x3
 refine ay Tryz.func187 rfl (Nat.le_of_ble_eq_true rfl) (fun cO M vs hvs=>?_)
 unfold eE at h
 refine sr<|bx rfl<|bx rfl<|bx rfl<|bx rfl<|al (cs:=[.v (.bool false),slc 1 (List.map ah [])]) (by exact⟨SV.aa _,imp_nil,trivial⟩) rfl<|al (cs:=[.v (.bool false),slc 1 (List.map ah [])]) (by exact⟨SV.aa _,imp_nil,trivial⟩) rfl<|dn<|qq<|ai mixed<|ld rfl rfl (.cons rfl (.cons rfl (.nil)))<|ld rfl rfl (.cons rfl (.cons rfl (.nil))) ?_
 obtain⟨⟨gE,gj⟩,fj,h⟩:=bS h
 refine cl (dO fj) ⟨rfl,rfl,trivial⟩<|ld rfl rfl (.cons rfl (.cons rfl (.nil)))<|ld rfl rfl (.cons rfl (.cons rfl (.nil))) ?_
 obtain⟨⟨kg,kj⟩,fT,h⟩:=bS h
 refine cl (dO fT) ⟨rfl,rfl,trivial⟩ ?_
 obtain⟨⟨nP,nQ⟩,kX,h⟩:=bS h
 refine cl (Gw kX) ⟨rfl,rfl,trivial⟩<|ld rfl rfl (.cons rfl (.cons rfl (.nil)))<|ld rfl rfl (.cons rfl (.cons rfl (.nil))) ?_
 obtain⟨⟨mU,mW⟩,kJ,h⟩:=bS h
 refine cl (dO kJ) ⟨rfl,rfl,trivial⟩<|so rfl rfl rfl<|so rfl rfl rfl ?_
 refine RT.done ⟨by kernel_rfl,?_⟩
 refine ae.n<|aj ?_
 obtain rfl:=O h
 exact RZ (.agg rfl rfl (.cons rfl (.cons rfl (.nil))) rfl (.agg rfl rfl (.cons rfl (.cons rfl (.nil))) rfl (.nil)))
theorem uS{x0:Zr}{x1:Zr}{x2:Zr}{x3:Zr}{r:Zr×Zr}(h:eG x0 x1 x2 x3=some r):Pure Tryz.prog 189 [.agg (eZ x0),.agg (eZ x1),.agg (eZ x2),.agg (eZ x3)] (.wm [.agg (eZ r.1),.agg (eZ r.2)]):=by
 obtain⟨aC,aD⟩:=x0
 obtain⟨bN,bL⟩:=x1
 obtain⟨gR,iN⟩:=x2
 obtain⟨wB,wD⟩:=x3
 refine ay Tryz.func189 rfl (Nat.le_of_ble_eq_true rfl) (fun cO M vs hvs=>?_)
 unfold eG at h
 refine sr<|bx rfl<|bx rfl<|bx rfl<|bx rfl<|al (cs:=[.v (.bool false),slc 1 (List.map ah [])]) (by exact⟨SV.aa _,imp_nil,trivial⟩) rfl<|al (cs:=[.v (.bool false),slc 1 (List.map ah [])]) (by exact⟨SV.aa _,imp_nil,trivial⟩) rfl<|dn<|qq<|ai mixed<|ld rfl rfl (.cons rfl (.cons rfl (.nil)))<|ld rfl rfl (.cons rfl (.cons rfl (.nil))) ?_
 obtain⟨⟨gE,gj⟩,fj,h⟩:=bS h
 refine cl (dO fj) ⟨rfl,rfl,trivial⟩<|ld rfl rfl (.cons rfl (.cons rfl (.nil)))<|ld rfl rfl (.cons rfl (.cons rfl (.nil))) ?_
 obtain⟨⟨kg,kj⟩,fT,h⟩:=bS h
 refine cl (dO fT) ⟨rfl,rfl,trivial⟩ ?_
 obtain⟨⟨nP,nQ⟩,kX,h⟩:=bS h
 refine cl (Gx kX) ⟨rfl,rfl,trivial⟩<|ld rfl rfl (.cons rfl (.cons rfl (.nil)))<|ld rfl rfl (.cons rfl (.cons rfl (.nil))) ?_
 obtain⟨⟨mU,mW⟩,kJ,h⟩:=bS h
 refine cl (dO kJ) ⟨rfl,rfl,trivial⟩<|so rfl rfl rfl<|so rfl rfl rfl ?_
 refine RT.done ⟨by kernel_rfl,?_⟩
 refine ae.n<|aj ?_
 obtain rfl:=O h
 exact RZ (.agg rfl rfl (.cons rfl (.cons rfl (.nil))) rfl (.agg rfl rfl (.cons rfl (.cons rfl (.nil))) rfl (.nil)))
theorem uT{x0:Zr}{x1:Zr}{x2:Zr}{x3:Zr}{r:Zr×Zr}(h:eI x0 x1 x2 x3=some r):Pure Tryz.prog 191 [.agg (eZ x0),.agg (eZ x1),.agg (eZ x2),.agg (eZ x3)] (.wm [.agg (eZ r.1),.agg (eZ r.2)]):=by
 obtain⟨aC,aD⟩:=x0
 obtain⟨bN,bL⟩:=x1
 obtain⟨gR,iN⟩:=x2
 obtain⟨wB,wD⟩:=x3
 refine ay Tryz.func191 rfl (Nat.le_of_ble_eq_true rfl) (fun cO M vs hvs=>?_)
 unfold eI at h
 refine sr<|bx rfl<|bx rfl<|bx rfl<|bx rfl<|al (cs:=[.v (.bool false),slc 1 (List.map ah [])]) (by exact⟨SV.aa _,imp_nil,trivial⟩) rfl<|al (cs:=[.v (.bool false),slc 1 (List.map ah [])]) (by exact⟨SV.aa _,imp_nil,trivial⟩) rfl<|dn<|qq<|ai mixed<|ld rfl rfl (.cons rfl (.cons rfl (.nil)))<|ld rfl rfl (.cons rfl (.cons rfl (.nil))) ?_
 obtain⟨⟨gE,gj⟩,fj,h⟩:=bS h
 refine cl (dO fj) ⟨rfl,rfl,trivial⟩<|ld rfl rfl (.cons rfl (.cons rfl (.nil)))<|ld rfl rfl (.cons rfl (.cons rfl (.nil))) ?_
 obtain⟨⟨kg,kj⟩,fT,h⟩:=bS h
 refine cl (dO fT) ⟨rfl,rfl,trivial⟩<|so rfl rfl rfl<|so rfl rfl rfl ?_
 refine RT.done ⟨by kernel_rfl,?_⟩
 refine ae.n<|aj ?_
 obtain rfl:=O h
 exact RZ (.agg rfl rfl (.cons rfl (.cons rfl (.nil))) rfl (.agg rfl rfl (.cons rfl (.cons rfl (.nil))) rfl (.nil)))
theorem uU{x0:Zr}{x1:Zr}{x2:Zr}{x3:Zr}{r:Zr×Zr}(h:iE x0 x1 x2 x3=some r):Pure Tryz.prog 192 [.agg (eZ x0),.agg (eZ x1),.agg (eZ x2),.agg (eZ x3)] (.wm [.agg (eZ r.1),.agg (eZ r.2)]):=by
 obtain⟨aC,aD⟩:=x0
 obtain⟨bN,bL⟩:=x1
 obtain⟨gR,iN⟩:=x2
 obtain⟨wB,wD⟩:=x3
 refine ay Tryz.func192 rfl (Nat.le_of_ble_eq_true rfl) (fun cO M vs hvs=>?_)
 unfold iE at h
 refine sr<|bx rfl<|bx rfl<|bx rfl<|bx rfl<|al (cs:=[.v (.bool false),slc 1 (List.map ah [])]) (by exact⟨SV.aa _,imp_nil,trivial⟩) rfl<|al (cs:=[.v (.bool false),slc 1 (List.map ah [])]) (by exact⟨SV.aa _,imp_nil,trivial⟩) rfl<|dn<|qq<|ai mixed<|ld rfl rfl (.cons rfl (.cons rfl (.nil)))<|ld rfl rfl (.cons rfl (.cons rfl (.nil))) ?_
 obtain⟨⟨gE,gj⟩,fj,h⟩:=bS h
 refine cl (dO fj) ⟨rfl,rfl,trivial⟩<|ld rfl rfl (.cons rfl (.cons rfl (.nil)))<|ld rfl rfl (.cons rfl (.cons rfl (.nil))) ?_
 obtain⟨⟨kg,kj⟩,fT,h⟩:=bS h
 refine cl (dO fT) ⟨rfl,rfl,trivial⟩<|so rfl rfl rfl<|so rfl rfl rfl ?_
 refine RT.done ⟨by kernel_rfl,?_⟩
 refine ae.n<|aj ?_
 obtain rfl:=O h
 exact RZ (.agg rfl rfl (.cons rfl (.cons rfl (.nil))) rfl (.agg rfl rfl (.cons rfl (.cons rfl (.nil))) rfl (.nil)))
theorem bU{x0:Qr}{r:Zr×Zr}(h:cP x0=some r):Pure Tryz.prog 127 [.agg (eQ x0)] (.wm [.agg (eZ r.1),.agg (eZ r.2)]):=by
 obtain⟨⟨aC,aD⟩,⟨aM,aN⟩⟩:=x0
 refine ay Tryz.func127 rfl (Nat.le_of_ble_eq_true rfl) (fun cO M vs hvs=>?_)
 unfold cP at h
 refine sr<|bx rfl<|al (cs:=[.v (.bool false),slc 1 (List.map ah [])]) (by exact⟨SV.aa _,imp_nil,trivial⟩) rfl<|al (cs:=[.v (.bool false),slc 1 (List.map ah [])]) (by exact⟨SV.aa _,imp_nil,trivial⟩) rfl<|dn<|qq<|sr<|fa rfl rfl<|ld rfl rfl (.cons rfl (.cons rfl (.nil)))<|bE h fun x6 h6 h=>cl (ew h6) ⟨rfl,trivial⟩<|dn<|ak<|sr<|lE h fun x8 h8 h=>eq _ rfl rfl (ua (p:=x6) (q:=0) h8) ?_
 refine ag rfl<|dn ?_
 cases x8
 refine cF<|sr<|lE (F h) fun iA gW h=>eq _ rfl rfl (ua (p:=x6) (q:=(-1)) gW)<|ag rfl<|dn ?_
 cases iA
 refine cF<|aH<|aK.n<|ae.n<|qq<|ai mixed<|fa rfl rfl<|ld rfl rfl (.cons rfl (.cons rfl (.nil)))<|fa rfl rfl<|ld rfl rfl (.cons rfl (.cons rfl (.nil)))<|so rfl rfl rfl<|so rfl rfl rfl ?_
 refine RT.done ⟨by kernel_rfl,?_⟩
 refine ae.n<|aj ?_
 obtain rfl:=O (F h)
 exact RZ (.agg rfl rfl (.cons rfl (.cons rfl (.nil))) rfl (.agg rfl rfl (.cons rfl (.cons rfl (.nil))) rfl (.nil)))
 refine cT<|qq<|ai mixed<|fa rfl rfl<|ld rfl rfl (.cons rfl (.cons rfl (.nil))) ?_
 obtain⟨⟨nP,nQ⟩,kX,h⟩:=bS (V h)
 refine cl (mg kX) ⟨rfl,trivial⟩<|fa rfl rfl<|ld rfl rfl (.cons rfl (.cons rfl (.nil))) ?_
 obtain⟨⟨mU,mW⟩,kJ,h⟩:=bS h
 refine cl (mg kJ) ⟨rfl,trivial⟩<|so rfl rfl rfl<|so rfl rfl rfl ?_
 refine RT.done ⟨by kernel_rfl,?_⟩
 refine ae.n<|aj<|aK.r<|ae.r ?_
 obtain rfl:=O h
 exact RZ (.agg rfl rfl (.cons rfl (.cons rfl (.nil))) rfl (.agg rfl rfl (.cons rfl (.cons rfl (.nil))) rfl (.nil)))
 refine cT<|qq<|ai mixed<|fa rfl rfl<|ld rfl rfl (.cons rfl (.cons rfl (.nil))) ?_
 obtain⟨⟨Vg,Vh⟩,nh,h⟩:=bS (V h)
 refine cl (dS nh) ⟨rfl,trivial⟩<|so rfl rfl rfl<|so rfl rfl rfl ?_
 refine RT.done ⟨by kernel_rfl,?_⟩
 refine ae.n<|aj<|aK.r<|ae.r ?_
 obtain rfl:=O h
 exact RZ (.agg rfl rfl (.cons rfl (.cons rfl (.nil))) rfl (.agg rfl rfl (.cons rfl (.cons rfl (.nil))) rfl (.nil)))
theorem kz{x0:Zr}{x1:Zr}{r:Qr}(h:dK x0 x1=some r):Pure Tryz.prog 140 [.agg (eZ x0),.agg (eZ x1)] (.agg (eQ r)):=by
 obtain⟨aC,aD⟩:=x0
 obtain⟨bN,bL⟩:=x1
 refine ay Tryz.func140 rfl (Nat.le_of_ble_eq_true rfl) (fun cO M vs hvs=>?_)
 unfold dK at h
 refine sr<|bx rfl<|bx rfl<|al (cs:=[.v (.bool false),slc 1 (List.map ah []),.v (.bool false),slc 1 (List.map ah [])]) (by exact⟨SV.aa _,imp_nil,SV.aa _,imp_nil,trivial⟩) rfl<|dn<|qq<|sr<|ld rfl rfl (.cons rfl (.cons rfl (.nil)))<|bE h fun x9 h9 h=>cl (ew h9) ⟨rfl,trivial⟩<|lE h fun ek gC h=>ls _ rfl rfl gC<|dn ?_
 refine aF h (fun j2=>AS.bJ 46 [(2,.ptr 2 0),(3,.ptr 3 0),(4,.ptr 4 0)] [(4,⟨43,[.sv (.v (.bool false)),.sv (slc 1 (List.map ah [])),.sv (.v (.bool false)),.sv (slc 1 (List.map ah []))]⟩),(3,⟨41,[.sv (.v (.bool j2.1)),.sv (slc 1 (List.map ah j2.2.1))]⟩),(2,⟨41,[.sv (.v (.bool j2.2.2.1)),.sv (slc 1 (List.map ah j2.2.2.2))]⟩)] []) (fun h=>?_) (fun j2 h=>?_)
 cases ek
 exact fs<|⟨(bN,bL,aC,aD),(F h),wR []⟩
 refine cT<|ai mixed<|ld rfl rfl (.cons rfl (.cons rfl (.nil))) ?_
 obtain⟨⟨gE,gj⟩,fj,h⟩:=bS (V h)
 refine cl (mg fj) ⟨rfl,trivial⟩<|ld rfl rfl (.cons rfl (.cons rfl (.nil))) ?_
 obtain⟨⟨IM,IN⟩,jv,h⟩:=bS h
 refine cl (mg jv) ⟨rfl,trivial⟩<|so rfl rfl rfl<|so rfl rfl rfl ?_
 refine RT.done ⟨by kernel_rfl,?_⟩
 exact ae.n<|⟨(IM,IN,gE,gj),h,wR []⟩
 obtain⟨GA,GB,GC,GD⟩:=j2
 try dsimp only
 refine ae.n<|sr<|ld rfl rfl (.cons rfl (.cons rfl (.nil)))<|ld rfl rfl (.cons rfl (.cons rfl (.nil))) ?_
 obtain⟨⟨uK,uL⟩,lH,h⟩:=bS h
 refine cl (Gz lH) ⟨rfl,rfl,trivial⟩<|al (cs:=[.v (.bool false),slc 1 (List.map ah [])]) (by exact⟨SV.aa _,imp_nil,trivial⟩) rfl<|so rfl rfl rfl<|dn<|sr<|ld rfl rfl (.cons rfl (.cons rfl (.nil)))<|ld rfl rfl (.cons rfl (.cons rfl (.nil))) ?_
 obtain⟨⟨⟨sW,sX⟩,⟨P7,P8⟩,abM⟩,ni,h⟩:=bS h
 refine cl (tK ni) ⟨rfl,rfl,trivial⟩<|mv rfl<|ex rfl rfl<|ex rfl rfl<|ex rfl rfl<|so rfl rfl rfl<|dn<|sr<|ld rfl rfl (.cons rfl (.cons rfl (.nil)))<|ld rfl rfl (.cons rfl (.cons rfl (.nil))) ?_
 obtain⟨⟨⟨sY,sZ⟩,⟨P9,Qa⟩,abN⟩,sS,h⟩:=bS h
 refine cl (tK sS) ⟨rfl,rfl,trivial⟩<|mv rfl<|ex rfl rfl<|ex rfl rfl<|ex rfl rfl<|so rfl rfl rfl<|dn<|qq<|sr<|ld rfl rfl (.cons rfl (.cons rfl (.nil))) ?_
 obtain⟨⟨Qb,Qc⟩,o9,h⟩:=bS h
 refine cl (cV o9) ⟨rfl,trivial⟩<|mv rfl<|ex rfl rfl<|ex rfl rfl<|ag rfl<|ag rfl<|dn<|qq ?_
 refine aF h (fun j5=>AS.bJ 46 [(2,.ptr 2 0),(3,.ptr 3 0),(4,.ptr 4 0),(41,.sv (.v (.bool j5)))] [(4,⟨43,[.sv (.v (.bool false)),.sv (slc 1 (List.map ah [])),.sv (.v (.bool false)),.sv (slc 1 (List.map ah []))]⟩),(3,⟨41,[.sv (.v (.bool sY)),.sv (slc 1 (List.map ah sZ))]⟩),(2,⟨41,[.sv (.v (.bool sW)),.sv (slc 1 (List.map ah sX))]⟩)] []) (fun h=>?_) (fun IL h=>?_)
 refine af<|mv rfl<|mv rfl<|bE h fun Qd CW h=>?_
 cases Qc
 obtain rfl:=O (F CW)
 exact ww<|ww<|pF rfl<|dn<|⟨false,h,wR []⟩
 refine gm rfl<|lE (V CW) fun lO oc CW=>ge_ _ rfl rfl (ua (p:=Qb) (q:=1) oc) ?_
 obtain rfl:=O CW
 exact pT rfl<|dn<|⟨lO,h,wR []⟩
 try dsimp only
 refine ae.n ?_
 refine aF h (fun j7=>AS.bJ 46 [(2,.ptr 2 0),(3,.ptr 3 0),(4,.ptr 4 0)] [(4,⟨43,[.sv (.v (.bool false)),.sv (slc 1 (List.map ah [])),.sv (.v (.bool false)),.sv (slc 1 (List.map ah []))]⟩),(3,⟨41,[.sv (.v (.bool j7.1)),.sv (slc 1 (List.map ah j7.2))]⟩),(2,⟨41,[.sv (.v (.bool sW)),.sv (slc 1 (List.map ah sX))]⟩)] []) (fun h=>?_) (fun j7 h=>?_)
 cases IL
 exact fs<|⟨(sY,sZ),(F h),wR []⟩
 exact cT<|af<|bI (cs:=[_,_]) (cs':=[.v (.bool false),slc 1 (List.map ah [])]) (.nil) ⟨SV.aa _,imp_nil,trivial⟩<|so rfl rfl rfl<|dn<|⟨(false,[]),(V h),wR []⟩
 obtain⟨CN,CO⟩:=j7
 try dsimp only
 refine ae.n<|sr<|ld rfl rfl (.cons rfl (.cons rfl (.nil)))<|ld rfl rfl (.cons rfl (.cons rfl (.nil)))<|bI (cs:=[_,_,_,_]) (cs':=[.v (.bool sW),slc 1 (List.map ah sX),.v (.bool CN),slc 1 (List.map ah CO)]) (.agg rfl (.agg rfl (.nil))) ⟨SV.aa _,SV.aa _,SV.aa _,SV.aa _,trivial⟩<|so rfl rfl rfl<|dn<|aj ?_
 obtain rfl:=O h
 exact RZ (.agg rfl rfl (.cons rfl (.cons rfl (.cons rfl (.cons rfl (.nil))))) rfl (.nil))
theorem cf{x0:Qr}{r:Int×Int×Bool}(h:dA x0=some r):Pure Tryz.prog 134 [.agg (eQ x0)] (.wm [.v (.int .i64 r.1),.v (.int .i64 r.2.1),.v (.bool r.2.2)]):=by
 obtain⟨⟨aC,aD⟩,⟨aM,aN⟩⟩:=x0
 refine ay Tryz.func134 rfl (Nat.le_of_ble_eq_true rfl) (fun cO M vs hvs=>?_)
 unfold dA at h
 refine sr<|bx rfl<|ag rfl<|ag rfl<|ag rfl<|dn<|sr<|fa rfl rfl<|ld rfl rfl (.cons rfl (.cons rfl (.nil))) ?_
 obtain⟨⟨GF,abO⟩,gC,h⟩:=bS h
 refine cl (cV gC) ⟨rfl,trivial⟩<|mv rfl<|ex rfl rfl<|ex rfl rfl<|ag rfl<|ag rfl<|dn<|sr<|fa rfl rfl<|ld rfl rfl (.cons rfl (.cons rfl (.nil))) ?_
 obtain⟨⟨Es,abP⟩,kX,h⟩:=bS h
 refine cl (cV kX) ⟨rfl,trivial⟩<|mv rfl<|ex rfl rfl<|ex rfl rfl<|ag rfl<|ag rfl<|dn<|qq<|qq ?_
 refine aF h (fun Yb=>AS.bJ 53 [(2,.sv (.v (.int .i64 GF))),(3,.sv (.v (.int .i64 Es))),(40,.sv (.v (.bool Yb)))] [] []) (fun h=>?_) (fun K0 h=>?_)
 refine af<|mv rfl<|lE h fun gO lW h=>nt rfl _ lW<|mv rfl<|bE h fun Qg tY h=>?_
 cases gO
 refine gm rfl<|lE (F tY) fun jJ qb tY=>Ki rfl _ qb ?_
 obtain rfl:=O tY
 refine pF rfl<|mv rfl<|bE h fun agw z5 h=>?_
 cases jJ
 refine gm rfl<|lE (F z5) fun lq oU z5=>RT.leq (.some rfl rfl) _ rfl rfl T oU ?_
 obtain rfl:=O z5
 refine pF rfl<|mv rfl<|bE h fun agx z6 h=>?_
 cases lq
 refine gm rfl<|lE (F z6) fun rf xC z6=>RT.geq (.some rfl rfl) _ rfl rfl T xC ?_
 obtain rfl:=O z6
 refine pF rfl<|mv rfl<|bE h fun agy qf h=>?_
 cases rf
 refine gm rfl<|lE (F qf) fun ow xD qf=>RT.leq (.some rfl rfl) _ rfl rfl T xD ?_
 obtain rfl:=O qf
 refine pF rfl<|mv rfl<|bE h fun agz z7 h=>?_
 cases ow
 refine gm rfl<|lE (F z7) fun tX CM z7=>RT.geq (.some rfl rfl) _ rfl rfl T CM ?_
 obtain rfl:=O z7
 exact pF rfl<|dn<|⟨tX,h,wR []⟩
 obtain rfl:=O (V z7)
 exact ww<|ww<|pT rfl<|dn<|⟨true,h,wR []⟩
 obtain rfl:=O (V qf)
 refine ww<|ww<|pT rfl<|mv rfl<|bE h fun agA Qu h=>?_
 obtain rfl:=O (V Qu)
 exact ww<|ww<|pT rfl<|dn<|⟨true,h,wR []⟩
 obtain rfl:=O (V z6)
 refine ww<|ww<|pT rfl<|mv rfl<|bE h fun agB Yc h=>?_
 obtain rfl:=O (V Yc)
 refine ww<|ww<|pT rfl<|mv rfl<|bE h fun agC Yd h=>?_
 obtain rfl:=O (V Yd)
 exact ww<|ww<|pT rfl<|dn<|⟨true,h,wR []⟩
 obtain rfl:=O (V z5)
 refine ww<|ww<|pT rfl<|mv rfl<|bE h fun agD Ye h=>?_
 obtain rfl:=O (V Ye)
 refine ww<|ww<|pT rfl<|mv rfl<|bE h fun agE Yf h=>?_
 obtain rfl:=O (V Yf)
 refine ww<|ww<|pT rfl<|mv rfl<|bE h fun agF Yg h=>?_
 obtain rfl:=O (V Yg)
 exact ww<|ww<|pT rfl<|dn<|⟨true,h,wR []⟩
 obtain rfl:=O (V tY)
 refine ww<|ww<|pT rfl<|mv rfl<|bE h fun agG Yh h=>?_
 obtain rfl:=O (V Yh)
 refine ww<|ww<|pT rfl<|mv rfl<|bE h fun agH Yi h=>?_
 obtain rfl:=O (V Yi)
 refine ww<|ww<|pT rfl<|mv rfl<|bE h fun agI Yj h=>?_
 obtain rfl:=O (V Yj)
 refine ww<|ww<|pT rfl<|mv rfl<|bE h fun agJ agK h=>?_
 obtain rfl:=O (V agK)
 exact ww<|ww<|pT rfl<|dn<|⟨true,h,wR []⟩
 try dsimp only
 refine ae.n ?_
 cases K0
 refine fs<|qq<|ak<|sr<|mv rfl<|lE (F h) fun tJ BF h=>eq _ rfl rfl (ua (p:=Es) (q:=0) BF)<|ag rfl<|dn ?_
 refine aF h (fun Vi=>AS.bJ 53 [(2,.sv (.v (.int .i64 Vi.1))),(3,.sv (.v (.int .i64 Vi.2)))] [] []) (fun h=>?_) (fun Vi h=>?_)
 cases tJ
 refine cF<|sr<|mv rfl<|lE (F h) fun vU h46 h=>ls _ rfl rfl h46<|ag rfl<|dn ?_
 refine aF h (fun Vk=>AS.bJ 53 [(2,.sv (.v (.int .i64 Vk.1))),(3,.sv (.v (.int .i64 Vk.2)))] [] []) (fun h=>?_) (fun Vk h=>?_)
 cases vU
 exact fs<|⟨(GF,Es),(F h),wR []⟩
 exact cT<|af<|mv rfl<|lE (V h) fun rI h48 h=>RT.neg .none _ rfl T h48<|mv rfl<|lE h fun ri A8 h=>RT.neg .none _ rfl T A8<|ag rfl<|ag rfl<|dn<|⟨(rI,ri),h,wR []⟩
 obtain⟨Qe,Qf⟩:=Vk
 try dsimp only
 exact ae.n<|⟨(Qe,Qf),h,wR []⟩
 exact cT<|af<|ag rfl<|dn<|⟨(GF,1),(V h),wR []⟩
 obtain⟨IP,Vj⟩:=Vi
 try dsimp only
 refine aK.n<|ae.n<|sr<|mv rfl<|mv rfl<|ag rfl<|ag rfl<|ag rfl<|dn<|aj ?_
 obtain rfl:=O h
 exact RZ (.tmp rfl (.tmp rfl (.tmp rfl (.nil))))
 refine cT<|sr<|ag rfl<|ag rfl<|ag rfl<|dn<|aj<|ae.r ?_
 obtain rfl:=O (V h)
 exact RZ (.tmp rfl (.tmp rfl (.tmp rfl (.nil))))
theorem kY{x0:Int}{x1:Int}{r:Qr}(h:ey x0 x1=some r):Pure Tryz.prog 135 [.v (.int .i64 x0),.v (.int .i64 x1)] (.agg (eQ r)):=by
 refine ay Tryz.func135 rfl (Nat.le_of_ble_eq_true rfl) (fun cO M vs hvs=>?_)
 unfold ey at h
 refine sr<|al (cs:=[.v (.bool false),slc 1 (List.map ah []),.v (.bool false),slc 1 (List.map ah [])]) (by exact⟨SV.aa _,imp_nil,SV.aa _,imp_nil,trivial⟩) rfl<|dn<|sr<|mv rfl<|mv rfl<|ag rfl<|ag rfl<|dn<|qq<|bE h fun e6 CI jd=>?_
 refine aT (fun(xH:Int)=>AS.bJ 36 [(0,.sv (.v (.int .i64 x0))),(1,.sv (.v (.int .i64 x1))),(4,.ptr 4 0),(5,.sv (.v (.int .i64 xH)))] [(4,⟨43,[.sv (.v (.bool false)),.sv (slc 1 (List.map ah [])),.sv (.v (.bool false)),.sv (slc 1 (List.map ah []))]⟩)] []) (fun xH=>xH=e6) ?_ (fun xH CJ=>?_)
 refine ak ?_
 refine aU CI (fun s6=>AS.bJ 36 [(0,.sv (.v (.int .i64 x0))),(1,.sv (.v (.int .i64 x1))),(4,.ptr 4 0),(5,.sv (.v (.int .i64 s6.1))),(6,.sv (.v (.int .i64 s6.2)))] [(4,⟨43,[.sv (.v (.bool false)),.sv (slc 1 (List.map ah [])),.sv (.v (.bool false)),.sv (slc 1 (List.map ah []))]⟩)] []) (wR []) (fun s6 y6 G6 h CK yJ=>?_)
 obtain⟨rG,GG⟩:=s6
 try dsimp only
 refine qq<|sr<|mv rfl<|lE h fun ek gC h=>ne _ rfl rfl (F6 (p:=GG) (q:=0) gC)<|dn ?_
 cases ek
 refine cF<|bf<|ae.x<|ae.x<|aK.x<|ae.n ?_
 obtain rfl:=O (F h)
 exact⟨rG,yJ _ rfl,wR []⟩
 refine cT<|aH<|ae.n<|ak<|ai mixed<|mv rfl<|mv rfl<|mv rfl<|bE (V h) fun fg jv h=>RT.rem .none _ rfl rfl T (abc jv) (abd jv)<|ag rfl<|ag rfl ?_
 refine RT.done ⟨by kernel_rfl,?_⟩
 refine aK.n ?_
 obtain rfl:=O h
 exact ae.n ⟨(GG,fg),CK _ rfl,wR []⟩
 subst CJ
 try dsimp only
 refine ae.n<|qq<|sr<|mv rfl<|lE jd fun iY kX jd=>ls _ rfl rfl kX<|dn ?_
 refine aF jd (fun j8=>AS.bJ 36 [(0,.sv (.v (.int .i64 x0))),(1,.sv (.v (.int .i64 x1))),(4,.ptr 4 0),(5,.sv (.v (.int .i64 j8)))] [(4,⟨43,[.sv (.v (.bool false)),.sv (slc 1 (List.map ah [])),.sv (.v (.bool false)),.sv (slc 1 (List.map ah []))]⟩)] []) (fun jd=>?_) (fun IQ jd=>?_)
 cases iY
 exact fs<|⟨xH,(F jd),wR []⟩
 exact cT<|af<|mv rfl<|lE (V jd) fun fF iM jd=>RT.neg .none _ rfl T iM<|ag rfl<|dn<|⟨fF,jd,wR []⟩
 try dsimp only
 refine ae.n<|qq<|sr<|mv rfl<|mv rfl<|lE jd fun ik ni jd=>eq _ rfl rfl (ua (p:=IQ) (q:=x1) ni)<|dn ?_
 cases ik
 refine fs<|qq<|ai mixed<|mv rfl<|mv rfl<|bE (F jd) fun iq jw jd=>RT.quo .none _ rfl rfl T (nzI jw) (Nn jw) ?_
 obtain⟨⟨o5,o6⟩,uJ,jd⟩:=bS jd
 refine cl (dS uJ) ⟨rfl,trivial⟩<|mv rfl<|mv rfl<|bE jd fun sL sV jd=>RT.quo .none _ rfl rfl T (nzI sV) (Nn sV) ?_
 obtain⟨⟨IS,IT⟩,o9,jd⟩:=bS jd
 refine cl (dS o9) ⟨rfl,trivial⟩<|bI (cs:=[_,_,_,_]) (cs':=[.v (.bool o5),slc 1 (List.map ah o6),.v (.bool IS),slc 1 (List.map ah IT)]) (.agg rfl (.agg rfl (.nil))) ⟨SV.aa _,SV.aa _,SV.aa _,SV.aa _,trivial⟩<|so rfl rfl rfl ?_
 refine RT.done ⟨by kernel_rfl,?_⟩
 refine ae.n<|aj ?_
 obtain rfl:=O jd
 exact RZ (.agg rfl rfl (.cons rfl (.cons rfl (.cons rfl (.cons rfl (.nil))))) rfl (.nil))
 refine cT<|sr<|mv rfl<|mv rfl<|bE (V jd) fun ir mP jd=>RT.quo .none _ rfl rfl T (nzI mP) (Nn mP) ?_
 obtain⟨⟨iL,iB⟩,qc,jd⟩:=bS jd
 refine cl (dS qc) ⟨rfl,trivial⟩<|bI (cs:=[_,_,_,_]) (cs':=[.v (.bool iL),slc 1 (List.map ah iB),.v (.bool false),slc 1 (List.map ah [])]) (.agg rfl (.nil)) ⟨SV.aa _,SV.aa _,SV.aa _,imp_nil,trivial⟩<|so rfl rfl rfl<|dn<|aj<|ae.r ?_
 obtain rfl:=O jd
 exact RZ (.agg rfl rfl (.cons rfl (.cons rfl (.cons rfl (.cons rfl (.nil))))) rfl (.nil))
theorem GI{x0:Int}{r:Int}(h:qy x0=some r):Pure Tryz.prog 128 [.v (.int .i64 x0)] (.v (.int .i64 r)):=by
 refine ay Tryz.func128 rfl (Nat.le_of_ble_eq_true rfl) (fun cO M vs hvs=>?_)
 unfold qy at h
 refine sr<|ag rfl<|dn<|qq<|ak<|sr<|mv rfl<|lE h fun x5 h5 h=>ls _ rfl rfl h5<|ag rfl<|dn ?_
 cases x5
 refine cF<|sr<|mv rfl<|lE (F h) fun x8 h8 h=>gt _ rfl rfl h8<|ag rfl<|dn ?_
 cases x8
 refine cF<|aH<|aK.n<|ae.n<|sr<|ag rfl<|dn<|aj ?_
 obtain rfl:=O (F h)
 exact R1 rfl
 refine cT<|sr<|ag rfl<|dn<|aj<|aK.r<|ae.r ?_
 obtain rfl:=O (V h)
 exact R1 rfl
 refine cT<|sr<|ag rfl<|dn<|aj<|aK.r<|ae.r ?_
 obtain rfl:=O (V h)
 exact R1 rfl
theorem Bb{x1:Qr}{x2:Qr}{r:Qr}(h:gG x1 x2=some r):Pure Tryz.prog 136 [.v (.int .u8 ((43:Nat):Int)),.agg (eQ x1),.agg (eQ x2)] (.agg (eQ r)):=by
 obtain⟨⟨bN,bL⟩,⟨gy,gz⟩⟩:=x1
 obtain⟨⟨gR,iN⟩,⟨yO,yP⟩⟩:=x2
 refine ay Tryz.func136 rfl (Nat.le_of_ble_eq_true rfl) (fun cO M vs hvs=>?_)
 unfold gG at h
 refine sr<|bx rfl<|bx rfl<|al (cs:=[.v (.bool false),slc 1 (List.map ah []),.v (.bool false),slc 1 (List.map ah [])]) (by exact⟨SV.aa _,imp_nil,SV.aa _,imp_nil,trivial⟩) rfl<|dn<|sr<|ld rfl rfl (.cons rfl (.cons rfl (.cons rfl (.cons rfl (.nil))))) ?_
 obtain⟨⟨⟨je,jg⟩,⟨jL,jM⟩⟩,gW,h⟩:=bS h
 refine cl (bU gW) ⟨rfl,trivial⟩<|mv rfl<|ex rfl rfl<|ex rfl rfl<|al (cs:=[.v (.bool false),slc 1 (List.map ah [])]) (by exact⟨SV.aa _,imp_nil,trivial⟩) rfl<|al (cs:=[.v (.bool false),slc 1 (List.map ah [])]) (by exact⟨SV.aa _,imp_nil,trivial⟩) rfl<|so rfl rfl rfl<|so rfl rfl rfl<|dn<|sr<|ld rfl rfl (.cons rfl (.cons rfl (.cons rfl (.cons rfl (.nil))))) ?_
 obtain⟨⟨⟨jh,ji⟩,⟨jN,jO⟩⟩,iM,h⟩:=bS h
 refine cl (bU iM) ⟨rfl,trivial⟩<|mv rfl<|ex rfl rfl<|ex rfl rfl<|al (cs:=[.v (.bool false),slc 1 (List.map ah [])]) (by exact⟨SV.aa _,imp_nil,trivial⟩) rfl<|al (cs:=[.v (.bool false),slc 1 (List.map ah [])]) (by exact⟨SV.aa _,imp_nil,trivial⟩) rfl<|so rfl rfl rfl<|so rfl rfl rfl<|dn<|qq<|ai mixed<|cl dU trivial<|mv rfl ?_
 refine RT.look .none [.func (.func 187) #[] #[]] rfl rfl rfl T<|fl rfl rfl<|ld rfl rfl (.cons rfl (.cons rfl (.nil)))<|ld rfl rfl (.cons rfl (.cons rfl (.nil)))<|ld rfl rfl (.cons rfl (.cons rfl (.nil)))<|ld rfl rfl (.cons rfl (.cons rfl (.nil))) ?_
 obtain⟨⟨⟨kn,ko⟩,⟨kp,kq⟩⟩,jw,h⟩:=bS h
 refine cl (uR jw) ⟨rfl,rfl,rfl,rfl,trivial⟩<|ex rfl rfl<|ex rfl rfl ?_
 obtain⟨⟨⟨nO,mS⟩,⟨qA,qB⟩⟩,kV,h⟩:=bS h
 refine cl (kz kV) ⟨rfl,rfl,trivial⟩<|so rfl rfl rfl ?_
 refine RT.done ⟨by kernel_rfl,?_⟩
 refine ae.n<|aj ?_
 obtain rfl:=O h
 exact RZ (.agg rfl rfl (.cons rfl (.cons rfl (.cons rfl (.cons rfl (.nil))))) rfl (.nil))
theorem Bc{x1:Qr}{x2:Qr}{r:Qr}(h:gH x1 x2=some r):Pure Tryz.prog 136 [.v (.int .u8 ((45:Nat):Int)),.agg (eQ x1),.agg (eQ x2)] (.agg (eQ r)):=by
 obtain⟨⟨bN,bL⟩,⟨gy,gz⟩⟩:=x1
 obtain⟨⟨gR,iN⟩,⟨yO,yP⟩⟩:=x2
 refine ay Tryz.func136 rfl (Nat.le_of_ble_eq_true rfl) (fun cO M vs hvs=>?_)
 unfold gH at h
 refine sr<|bx rfl<|bx rfl<|al (cs:=[.v (.bool false),slc 1 (List.map ah []),.v (.bool false),slc 1 (List.map ah [])]) (by exact⟨SV.aa _,imp_nil,SV.aa _,imp_nil,trivial⟩) rfl<|dn<|sr<|ld rfl rfl (.cons rfl (.cons rfl (.cons rfl (.cons rfl (.nil))))) ?_
 obtain⟨⟨⟨je,jg⟩,⟨jL,jM⟩⟩,gW,h⟩:=bS h
 refine cl (bU gW) ⟨rfl,trivial⟩<|mv rfl<|ex rfl rfl<|ex rfl rfl<|al (cs:=[.v (.bool false),slc 1 (List.map ah [])]) (by exact⟨SV.aa _,imp_nil,trivial⟩) rfl<|al (cs:=[.v (.bool false),slc 1 (List.map ah [])]) (by exact⟨SV.aa _,imp_nil,trivial⟩) rfl<|so rfl rfl rfl<|so rfl rfl rfl<|dn<|sr<|ld rfl rfl (.cons rfl (.cons rfl (.cons rfl (.cons rfl (.nil))))) ?_
 obtain⟨⟨⟨jh,ji⟩,⟨jN,jO⟩⟩,iM,h⟩:=bS h
 refine cl (bU iM) ⟨rfl,trivial⟩<|mv rfl<|ex rfl rfl<|ex rfl rfl<|al (cs:=[.v (.bool false),slc 1 (List.map ah [])]) (by exact⟨SV.aa _,imp_nil,trivial⟩) rfl<|al (cs:=[.v (.bool false),slc 1 (List.map ah [])]) (by exact⟨SV.aa _,imp_nil,trivial⟩) rfl<|so rfl rfl rfl<|so rfl rfl rfl<|dn<|qq<|ai mixed<|cl dU trivial<|mv rfl ?_
 refine RT.look .none [.func (.func 189) #[] #[]] rfl rfl rfl T<|fl rfl rfl<|ld rfl rfl (.cons rfl (.cons rfl (.nil)))<|ld rfl rfl (.cons rfl (.cons rfl (.nil)))<|ld rfl rfl (.cons rfl (.cons rfl (.nil)))<|ld rfl rfl (.cons rfl (.cons rfl (.nil))) ?_
 obtain⟨⟨⟨kn,ko⟩,⟨kp,kq⟩⟩,jw,h⟩:=bS h
 refine cl (uS jw) ⟨rfl,rfl,rfl,rfl,trivial⟩<|ex rfl rfl<|ex rfl rfl ?_
 obtain⟨⟨⟨nO,mS⟩,⟨qA,qB⟩⟩,kV,h⟩:=bS h
 refine cl (kz kV) ⟨rfl,rfl,trivial⟩<|so rfl rfl rfl ?_
 refine RT.done ⟨by kernel_rfl,?_⟩
 refine ae.n<|aj ?_
 obtain rfl:=O h
 exact RZ (.agg rfl rfl (.cons rfl (.cons rfl (.cons rfl (.cons rfl (.nil))))) rfl (.nil))
theorem Bd{x1:Qr}{x2:Qr}{r:Qr}(h:gI x1 x2=some r):Pure Tryz.prog 136 [.v (.int .u8 ((42:Nat):Int)),.agg (eQ x1),.agg (eQ x2)] (.agg (eQ r)):=by
 obtain⟨⟨bN,bL⟩,⟨gy,gz⟩⟩:=x1
 obtain⟨⟨gR,iN⟩,⟨yO,yP⟩⟩:=x2
 refine ay Tryz.func136 rfl (Nat.le_of_ble_eq_true rfl) (fun cO M vs hvs=>?_)
 unfold gI at h
 refine sr<|bx rfl<|bx rfl<|al (cs:=[.v (.bool false),slc 1 (List.map ah []),.v (.bool false),slc 1 (List.map ah [])]) (by exact⟨SV.aa _,imp_nil,SV.aa _,imp_nil,trivial⟩) rfl<|dn<|sr<|ld rfl rfl (.cons rfl (.cons rfl (.cons rfl (.cons rfl (.nil))))) ?_
 obtain⟨⟨⟨je,jg⟩,⟨jL,jM⟩⟩,gW,h⟩:=bS h
 refine cl (bU gW) ⟨rfl,trivial⟩<|mv rfl<|ex rfl rfl<|ex rfl rfl<|al (cs:=[.v (.bool false),slc 1 (List.map ah [])]) (by exact⟨SV.aa _,imp_nil,trivial⟩) rfl<|al (cs:=[.v (.bool false),slc 1 (List.map ah [])]) (by exact⟨SV.aa _,imp_nil,trivial⟩) rfl<|so rfl rfl rfl<|so rfl rfl rfl<|dn<|sr<|ld rfl rfl (.cons rfl (.cons rfl (.cons rfl (.cons rfl (.nil))))) ?_
 obtain⟨⟨⟨jh,ji⟩,⟨jN,jO⟩⟩,iM,h⟩:=bS h
 refine cl (bU iM) ⟨rfl,trivial⟩<|mv rfl<|ex rfl rfl<|ex rfl rfl<|al (cs:=[.v (.bool false),slc 1 (List.map ah [])]) (by exact⟨SV.aa _,imp_nil,trivial⟩) rfl<|al (cs:=[.v (.bool false),slc 1 (List.map ah [])]) (by exact⟨SV.aa _,imp_nil,trivial⟩) rfl<|so rfl rfl rfl<|so rfl rfl rfl<|dn<|qq<|ai mixed<|cl dU trivial<|mv rfl ?_
 refine RT.look .none [.func (.func 191) #[] #[]] rfl rfl rfl T<|fl rfl rfl<|ld rfl rfl (.cons rfl (.cons rfl (.nil)))<|ld rfl rfl (.cons rfl (.cons rfl (.nil)))<|ld rfl rfl (.cons rfl (.cons rfl (.nil)))<|ld rfl rfl (.cons rfl (.cons rfl (.nil))) ?_
 obtain⟨⟨⟨kn,ko⟩,⟨kp,kq⟩⟩,jw,h⟩:=bS h
 refine cl (uT jw) ⟨rfl,rfl,rfl,rfl,trivial⟩<|ex rfl rfl<|ex rfl rfl ?_
 obtain⟨⟨⟨nO,mS⟩,⟨qA,qB⟩⟩,kV,h⟩:=bS h
 refine cl (kz kV) ⟨rfl,rfl,trivial⟩<|so rfl rfl rfl ?_
 refine RT.done ⟨by kernel_rfl,?_⟩
 refine ae.n<|aj ?_
 obtain rfl:=O h
 exact RZ (.agg rfl rfl (.cons rfl (.cons rfl (.cons rfl (.cons rfl (.nil))))) rfl (.nil))
theorem Be{x1:Qr}{x2:Qr}{r:Qr}(h:ku x1 x2=some r):Pure Tryz.prog 136 [.v (.int .u8 ((47:Nat):Int)),.agg (eQ x1),.agg (eQ x2)] (.agg (eQ r)):=by
 obtain⟨⟨bN,bL⟩,⟨gy,gz⟩⟩:=x1
 obtain⟨⟨gR,iN⟩,⟨yO,yP⟩⟩:=x2
 refine ay Tryz.func136 rfl (Nat.le_of_ble_eq_true rfl) (fun cO M vs hvs=>?_)
 unfold ku at h
 refine sr<|bx rfl<|bx rfl<|al (cs:=[.v (.bool false),slc 1 (List.map ah []),.v (.bool false),slc 1 (List.map ah [])]) (by exact⟨SV.aa _,imp_nil,SV.aa _,imp_nil,trivial⟩) rfl<|dn<|sr<|ld rfl rfl (.cons rfl (.cons rfl (.cons rfl (.cons rfl (.nil))))) ?_
 obtain⟨⟨⟨je,jg⟩,⟨jL,jM⟩⟩,gW,h⟩:=bS h
 refine cl (bU gW) ⟨rfl,trivial⟩<|mv rfl<|ex rfl rfl<|ex rfl rfl<|al (cs:=[.v (.bool false),slc 1 (List.map ah [])]) (by exact⟨SV.aa _,imp_nil,trivial⟩) rfl<|al (cs:=[.v (.bool false),slc 1 (List.map ah [])]) (by exact⟨SV.aa _,imp_nil,trivial⟩) rfl<|so rfl rfl rfl<|so rfl rfl rfl<|dn<|sr<|ld rfl rfl (.cons rfl (.cons rfl (.cons rfl (.cons rfl (.nil))))) ?_
 obtain⟨⟨⟨jh,ji⟩,⟨jN,jO⟩⟩,iM,h⟩:=bS h
 refine cl (bU iM) ⟨rfl,trivial⟩<|mv rfl<|ex rfl rfl<|ex rfl rfl<|al (cs:=[.v (.bool false),slc 1 (List.map ah [])]) (by exact⟨SV.aa _,imp_nil,trivial⟩) rfl<|al (cs:=[.v (.bool false),slc 1 (List.map ah [])]) (by exact⟨SV.aa _,imp_nil,trivial⟩) rfl<|so rfl rfl rfl<|so rfl rfl rfl<|dn<|qq<|ai mixed<|cl dU trivial<|mv rfl ?_
 refine RT.look .none [.func (.func 192) #[] #[]] rfl rfl rfl T<|fl rfl rfl<|ld rfl rfl (.cons rfl (.cons rfl (.nil)))<|ld rfl rfl (.cons rfl (.cons rfl (.nil)))<|ld rfl rfl (.cons rfl (.cons rfl (.nil)))<|ld rfl rfl (.cons rfl (.cons rfl (.nil))) ?_
 obtain⟨⟨⟨kn,ko⟩,⟨kp,kq⟩⟩,jw,h⟩:=bS h
 refine cl (uU jw) ⟨rfl,rfl,rfl,rfl,trivial⟩<|ex rfl rfl<|ex rfl rfl ?_
 obtain⟨⟨⟨nO,mS⟩,⟨qA,qB⟩⟩,kV,h⟩:=bS h
 refine cl (kz kV) ⟨rfl,rfl,trivial⟩<|so rfl rfl rfl ?_
 refine RT.done ⟨by kernel_rfl,?_⟩
 refine ae.n<|aj ?_
 obtain rfl:=O h
 exact RZ (.agg rfl rfl (.cons rfl (.cons rfl (.cons rfl (.cons rfl (.nil))))) rfl (.nil))
end Go.Proofs.YtningmnklfpfjaaGreat
namespace Go.Proofs.YtningmnklfpfjaaGreat
open Go.Fw Go.Fw.Z Go.RowKit
theorem jU{x0:Int}{r:Qr}(h:cZ x0=some r):Pure Tryz.prog 41 [.v (.int .i64 x0)] (.agg (eQ r)):=by
 refine ay Tryz.func41 rfl (Nat.le_of_ble_eq_true rfl) (fun cO M vs hvs=>?_)
 unfold cZ at h
 refine sr<|al (cs:=[.v (.bool false),slc 1 (List.map ah []),.v (.bool false),slc 1 (List.map ah [])]) (by exact⟨SV.aa _,imp_nil,SV.aa _,imp_nil,trivial⟩) rfl<|dn<|sr<|mv rfl ?_
 obtain⟨⟨X7,X8⟩,h4,h⟩:=bS h
 refine cl (dS h4) ⟨rfl,trivial⟩<|bI (cs:=[_,_,_,_]) (cs':=[.v (.bool X7),slc 1 (List.map ah X8),.v (.bool false),slc 1 (List.map ah [])]) (.agg rfl (.nil)) ⟨SV.aa _,SV.aa _,SV.aa _,imp_nil,trivial⟩<|so rfl rfl rfl<|dn<|aj ?_
 obtain rfl:=O h
 exact RZ (.agg rfl rfl (.cons rfl (.cons rfl (.cons rfl (.cons rfl (.nil))))) rfl (.nil))
theorem gX{x0:Qr}{r:Qr}(h:cj x0=some r):Pure Tryz.prog 93 [.agg (eQ x0)] (.agg (eQ r)):=by
 obtain⟨⟨aC,aD⟩,⟨aM,aN⟩⟩:=x0
 refine ay Tryz.func93 rfl (Nat.le_of_ble_eq_true rfl) (fun cO M vs hvs=>?_)
 unfold cj at h
 refine sr<|bx rfl<|al (cs:=[.v (.bool false),slc 1 (List.map ah []),.v (.bool false),slc 1 (List.map ah [])]) (by exact⟨SV.aa _,imp_nil,SV.aa _,imp_nil,trivial⟩) rfl<|dn<|qq<|sr<|ld rfl rfl (.cons rfl (.cons rfl (.cons rfl (.cons rfl (.nil))))) ?_
 obtain⟨⟨x8a,x8b,x8c⟩,h8,h⟩:=bS h
 refine cl (cf h8) ⟨rfl,trivial⟩<|mv rfl<|ex rfl rfl<|ex rfl rfl<|ex rfl rfl<|ag rfl<|ag rfl<|ag rfl<|dn<|sr<|mv rfl<|dn ?_
 cases x8c
 refine fs<|sr<|ld rfl rfl (.cons rfl (.cons rfl (.cons rfl (.cons rfl (.nil))))) ?_
 obtain⟨⟨⟨K1,K9⟩,⟨La,Lb⟩⟩,lH,h⟩:=bS (F h)
 refine cl (bU lH) ⟨rfl,trivial⟩<|ex rfl rfl<|ex rfl rfl ?_
 obtain⟨⟨⟨Qh,Qi⟩,⟨Qj,Qk⟩⟩,lW,h⟩:=bS h
 refine cl (kz lW) ⟨rfl,rfl,trivial⟩<|so rfl rfl rfl<|dn<|aj ?_
 obtain rfl:=O h
 exact RZ (.agg rfl rfl (.cons rfl (.cons rfl (.cons rfl (.cons rfl (.nil))))) rfl (.nil))
 refine cT<|sr<|mv rfl<|mv rfl ?_
 obtain⟨⟨⟨kg,kj⟩,⟨Fb,Fe⟩⟩,fT,h⟩:=bS (V h)
 refine cl (kY fT) ⟨rfl,rfl,trivial⟩<|so rfl rfl rfl<|dn<|aj<|ae.r ?_
 obtain rfl:=O h
 exact RZ (.agg rfl rfl (.cons rfl (.cons rfl (.cons rfl (.cons rfl (.nil))))) rfl (.nil))
theorem jk{x0:Qr}{r:Int}(h:eM x0=some r):Pure Tryz.prog 59 [.agg (eQ x0)] (.v (.int .i64 r)):=by
 obtain⟨⟨aC,aD⟩,⟨aM,aN⟩⟩:=x0
 refine ay Tryz.func59 rfl (Nat.le_of_ble_eq_true rfl) (fun cO M vs hvs=>?_)
 unfold eM at h
 refine sr<|bx rfl<|ag rfl<|dn<|qq<|sr<|fa rfl rfl<|ld rfl rfl (.cons rfl (.cons rfl (.nil)))<|bE h fun x5 h5 h=>cl (ew h5) ⟨rfl,trivial⟩<|lE h fun x6 h6 h=>ls _ rfl rfl h6<|dn ?_
 cases x6
 refine fs<|sr<|fa rfl rfl<|ld rfl rfl (.cons rfl (.cons rfl (.nil)))<|bE (F h) fun iA gW h=>cl (ew gW) ⟨rfl,trivial⟩<|ag rfl<|dn<|aj ?_
 obtain rfl:=O h
 exact R1 rfl
 refine cT<|sr<|fa rfl rfl<|ld rfl rfl (.cons rfl (.cons rfl (.nil)))<|bE (V h) fun x9 h9 h=>cl (ew h9) ⟨rfl,trivial⟩<|lE h fun ek gC h=>RT.neg .none _ rfl T gC<|ag rfl<|dn<|aj<|ae.r ?_
 obtain rfl:=O h
 exact R1 rfl
theorem IV{x0:Qr}{x1:Qr}{r:Qr}(h:lI x0 x1=some r):Pure Tryz.prog 132 [.agg (eQ x0),.agg (eQ x1)] (.agg (eQ r)):=by
 obtain⟨⟨aC,aD⟩,⟨aM,aN⟩⟩:=x0
 obtain⟨⟨bN,bL⟩,⟨gy,gz⟩⟩:=x1
 refine ay Tryz.func132 rfl (Nat.le_of_ble_eq_true rfl) (fun cO M vs hvs=>?_)
 unfold lI at h
 refine sr<|bx rfl<|bx rfl<|al (cs:=[.v (.bool false),slc 1 (List.map ah []),.v (.bool false),slc 1 (List.map ah [])]) (by exact⟨SV.aa _,imp_nil,SV.aa _,imp_nil,trivial⟩) rfl<|dn<|sr<|ld rfl rfl (.cons rfl (.cons rfl (.cons rfl (.cons rfl (.nil))))) ?_
 obtain⟨⟨uM,s9,uN⟩,gW,h⟩:=bS h
 refine cl (cf gW) ⟨rfl,trivial⟩<|mv rfl<|ex rfl rfl<|ex rfl rfl<|ex rfl rfl<|ag rfl<|ag rfl<|ag rfl<|dn<|sr<|ld rfl rfl (.cons rfl (.cons rfl (.cons rfl (.cons rfl (.nil))))) ?_
 obtain⟨⟨uO,tc,uP⟩,kJ,h⟩:=bS h
 refine cl (cf kJ) ⟨rfl,trivial⟩<|mv rfl<|ex rfl rfl<|ex rfl rfl<|ex rfl rfl<|ag rfl<|ag rfl<|ag rfl<|dn<|qq<|qq ?_
 refine aF h (fun j3=>AS.bJ 41 [(2,.ptr 2 0),(3,.ptr 3 0),(4,.ptr 4 0),(5,.sv (.v (.int .i64 uM))),(6,.sv (.v (.int .i64 s9))),(8,.sv (.v (.int .i64 uO))),(9,.sv (.v (.int .i64 tc))),(26,.sv (.v (.bool j3)))] [(4,⟨43,[.sv (.v (.bool false)),.sv (slc 1 (List.map ah [])),.sv (.v (.bool false)),.sv (slc 1 (List.map ah []))]⟩),(3,⟨43,[.sv (.v (.bool bN)),.sv (slc 1 (List.map ah bL)),.sv (.v (.bool gy)),.sv (slc 1 (List.map ah gz))]⟩),(2,⟨43,[.sv (.v (.bool aC)),.sv (slc 1 (List.map ah aD)),.sv (.v (.bool aM)),.sv (slc 1 (List.map ah aN))]⟩)] []) (fun h=>?_) (fun nT h=>?_)
 refine af<|mv rfl<|mv rfl<|bE h fun uQ nC h=>?_
 cases uN
 obtain rfl:=O (F nC)
 exact ww<|pF rfl<|dn<|⟨false,h,wR []⟩
 refine gm rfl ?_
 obtain rfl:=O (V nC)
 exact pT rfl<|dn<|⟨uP,h,wR []⟩
 try dsimp only
 refine ae.n ?_
 cases nT
 refine fs<|sr<|ld rfl rfl (.cons rfl (.cons rfl (.cons rfl (.cons rfl (.nil)))))<|ld rfl rfl (.cons rfl (.cons rfl (.cons rfl (.cons rfl (.nil))))) ?_
 obtain⟨⟨⟨uG,uH⟩,⟨CT,CU⟩⟩,oc,h⟩:=bS (F h)
 refine cl (Bb oc) ⟨rfl,rfl,rfl,trivial⟩<|so rfl rfl rfl<|dn<|aj ?_
 obtain rfl:=O h
 exact RZ (.agg rfl rfl (.cons rfl (.cons rfl (.cons rfl (.cons rfl (.nil))))) rfl (.nil))
 refine cT<|sr<|mv rfl<|mv rfl<|lE (V h) fun iq jw h=>RT.mul .none _ rfl rfl T jw<|mv rfl<|mv rfl<|lE h fun iD kV h=>RT.mul .none _ rfl rfl T kV<|lE h fun sL sV h=>ad _ rfl rfl sV<|mv rfl<|mv rfl<|lE h fun oP qe h=>RT.mul .none _ rfl rfl T qe ?_
 obtain⟨⟨⟨CP,CQ⟩,⟨CR,CS⟩⟩,yN,h⟩:=bS h
 refine cl (kY yN) ⟨rfl,rfl,trivial⟩<|so rfl rfl rfl<|dn<|aj<|ae.r ?_
 obtain rfl:=O h
 exact RZ (.agg rfl rfl (.cons rfl (.cons rfl (.cons rfl (.cons rfl (.nil))))) rfl (.nil))
theorem IW{x0:Qr}{x1:Qr}{r:Qr}(h:lJ x0 x1=some r):Pure Tryz.prog 94 [.agg (eQ x0),.agg (eQ x1)] (.agg (eQ r)):=by
 obtain⟨⟨aC,aD⟩,⟨aM,aN⟩⟩:=x0
 obtain⟨⟨bN,bL⟩,⟨gy,gz⟩⟩:=x1
 refine ay Tryz.func94 rfl (Nat.le_of_ble_eq_true rfl) (fun cO M vs hvs=>?_)
 unfold lJ at h
 refine sr<|bx rfl<|bx rfl<|al (cs:=[.v (.bool false),slc 1 (List.map ah []),.v (.bool false),slc 1 (List.map ah [])]) (by exact⟨SV.aa _,imp_nil,SV.aa _,imp_nil,trivial⟩) rfl<|dn<|sr<|ld rfl rfl (.cons rfl (.cons rfl (.cons rfl (.cons rfl (.nil))))) ?_
 obtain⟨⟨uM,s9,uN⟩,gW,h⟩:=bS h
 refine cl (cf gW) ⟨rfl,trivial⟩<|mv rfl<|ex rfl rfl<|ex rfl rfl<|ex rfl rfl<|ag rfl<|ag rfl<|ag rfl<|dn<|sr<|ld rfl rfl (.cons rfl (.cons rfl (.cons rfl (.cons rfl (.nil))))) ?_
 obtain⟨⟨uO,tc,uP⟩,kJ,h⟩:=bS h
 refine cl (cf kJ) ⟨rfl,trivial⟩<|mv rfl<|ex rfl rfl<|ex rfl rfl<|ex rfl rfl<|ag rfl<|ag rfl<|ag rfl<|dn<|qq<|qq ?_
 refine aF h (fun j3=>AS.bJ 41 [(2,.ptr 2 0),(3,.ptr 3 0),(4,.ptr 4 0),(5,.sv (.v (.int .i64 uM))),(6,.sv (.v (.int .i64 s9))),(8,.sv (.v (.int .i64 uO))),(9,.sv (.v (.int .i64 tc))),(26,.sv (.v (.bool j3)))] [(4,⟨43,[.sv (.v (.bool false)),.sv (slc 1 (List.map ah [])),.sv (.v (.bool false)),.sv (slc 1 (List.map ah []))]⟩),(3,⟨43,[.sv (.v (.bool bN)),.sv (slc 1 (List.map ah bL)),.sv (.v (.bool gy)),.sv (slc 1 (List.map ah gz))]⟩),(2,⟨43,[.sv (.v (.bool aC)),.sv (slc 1 (List.map ah aD)),.sv (.v (.bool aM)),.sv (slc 1 (List.map ah aN))]⟩)] []) (fun h=>?_) (fun nT h=>?_)
 refine af<|mv rfl<|mv rfl<|bE h fun uQ nC h=>?_
 cases uN
 obtain rfl:=O (F nC)
 exact ww<|pF rfl<|dn<|⟨false,h,wR []⟩
 refine gm rfl ?_
 obtain rfl:=O (V nC)
 exact pT rfl<|dn<|⟨uP,h,wR []⟩
 try dsimp only
 refine ae.n ?_
 cases nT
 refine fs<|sr<|ld rfl rfl (.cons rfl (.cons rfl (.cons rfl (.cons rfl (.nil)))))<|ld rfl rfl (.cons rfl (.cons rfl (.cons rfl (.cons rfl (.nil))))) ?_
 obtain⟨⟨⟨uG,uH⟩,⟨CT,CU⟩⟩,oc,h⟩:=bS (F h)
 refine cl (Bc oc) ⟨rfl,rfl,rfl,trivial⟩<|so rfl rfl rfl<|dn<|aj ?_
 obtain rfl:=O h
 exact RZ (.agg rfl rfl (.cons rfl (.cons rfl (.cons rfl (.cons rfl (.nil))))) rfl (.nil))
 refine cT<|sr<|mv rfl<|mv rfl<|lE (V h) fun iq jw h=>RT.mul .none _ rfl rfl T jw<|mv rfl<|mv rfl<|lE h fun iD kV h=>RT.mul .none _ rfl rfl T kV<|lE h fun sL sV h=>sb _ rfl rfl sV<|mv rfl<|mv rfl<|lE h fun oP qe h=>RT.mul .none _ rfl rfl T qe ?_
 obtain⟨⟨⟨CP,CQ⟩,⟨CR,CS⟩⟩,yN,h⟩:=bS h
 refine cl (kY yN) ⟨rfl,rfl,trivial⟩<|so rfl rfl rfl<|dn<|aj<|ae.r ?_
 obtain rfl:=O h
 exact RZ (.agg rfl rfl (.cons rfl (.cons rfl (.cons rfl (.cons rfl (.nil))))) rfl (.nil))
theorem AG{x0:Qr}{x1:Qr}{r:Qr}(h:kx x0 x1=some r):Pure Tryz.prog 89 [.agg (eQ x0),.agg (eQ x1)] (.agg (eQ r)):=by
 obtain⟨⟨aC,aD⟩,⟨aM,aN⟩⟩:=x0
 obtain⟨⟨bN,bL⟩,⟨gy,gz⟩⟩:=x1
 refine ay Tryz.func89 rfl (Nat.le_of_ble_eq_true rfl) (fun cO M vs hvs=>?_)
 unfold kx at h
 refine sr<|bx rfl<|bx rfl<|al (cs:=[.v (.bool false),slc 1 (List.map ah []),.v (.bool false),slc 1 (List.map ah [])]) (by exact⟨SV.aa _,imp_nil,SV.aa _,imp_nil,trivial⟩) rfl<|dn<|sr<|ld rfl rfl (.cons rfl (.cons rfl (.cons rfl (.cons rfl (.nil))))) ?_
 obtain⟨⟨uM,s9,uN⟩,gW,h⟩:=bS h
 refine cl (cf gW) ⟨rfl,trivial⟩<|mv rfl<|ex rfl rfl<|ex rfl rfl<|ex rfl rfl<|ag rfl<|ag rfl<|ag rfl<|dn<|sr<|ld rfl rfl (.cons rfl (.cons rfl (.cons rfl (.cons rfl (.nil))))) ?_
 obtain⟨⟨uO,tc,uP⟩,kJ,h⟩:=bS h
 refine cl (cf kJ) ⟨rfl,trivial⟩<|mv rfl<|ex rfl rfl<|ex rfl rfl<|ex rfl rfl<|ag rfl<|ag rfl<|ag rfl<|dn<|qq<|qq ?_
 refine aF h (fun j3=>AS.bJ 37 [(2,.ptr 2 0),(3,.ptr 3 0),(4,.ptr 4 0),(5,.sv (.v (.int .i64 uM))),(6,.sv (.v (.int .i64 s9))),(8,.sv (.v (.int .i64 uO))),(9,.sv (.v (.int .i64 tc))),(26,.sv (.v (.bool j3)))] [(4,⟨43,[.sv (.v (.bool false)),.sv (slc 1 (List.map ah [])),.sv (.v (.bool false)),.sv (slc 1 (List.map ah []))]⟩),(3,⟨43,[.sv (.v (.bool bN)),.sv (slc 1 (List.map ah bL)),.sv (.v (.bool gy)),.sv (slc 1 (List.map ah gz))]⟩),(2,⟨43,[.sv (.v (.bool aC)),.sv (slc 1 (List.map ah aD)),.sv (.v (.bool aM)),.sv (slc 1 (List.map ah aN))]⟩)] []) (fun h=>?_) (fun nT h=>?_)
 refine af<|mv rfl<|mv rfl<|bE h fun uQ nC h=>?_
 cases uN
 obtain rfl:=O (F nC)
 exact ww<|pF rfl<|dn<|⟨false,h,wR []⟩
 refine gm rfl ?_
 obtain rfl:=O (V nC)
 exact pT rfl<|dn<|⟨uP,h,wR []⟩
 try dsimp only
 refine ae.n ?_
 cases nT
 refine fs<|sr<|ld rfl rfl (.cons rfl (.cons rfl (.cons rfl (.cons rfl (.nil)))))<|ld rfl rfl (.cons rfl (.cons rfl (.cons rfl (.cons rfl (.nil))))) ?_
 obtain⟨⟨⟨uE,uF⟩,⟨Qp,Qq⟩⟩,qe,h⟩:=bS (F h)
 refine cl (Bd qe) ⟨rfl,rfl,rfl,trivial⟩<|so rfl rfl rfl<|dn<|aj ?_
 obtain rfl:=O h
 exact RZ (.agg rfl rfl (.cons rfl (.cons rfl (.cons rfl (.cons rfl (.nil))))) rfl (.nil))
 refine cT<|sr<|mv rfl<|mv rfl<|lE (V h) fun iq jw h=>RT.mul .none _ rfl rfl T jw<|mv rfl<|mv rfl<|lE h fun iD kV h=>RT.mul .none _ rfl rfl T kV ?_
 obtain⟨⟨⟨Ql,Qm⟩,⟨Qn,Qo⟩⟩,sV,h⟩:=bS h
 refine cl (kY sV) ⟨rfl,rfl,trivial⟩<|so rfl rfl rfl<|dn<|aj<|ae.r ?_
 obtain rfl:=O h
 exact RZ (.agg rfl rfl (.cons rfl (.cons rfl (.cons rfl (.cons rfl (.nil))))) rfl (.nil))
theorem IX{x0:Qr}{x1:Qr}{r:Qr×Int}(h:pA x0 x1=some r):Pure Tryz.prog 105 [.agg (eQ x0),.agg (eQ x1)] (.wm [.agg (eQ r.1),.v (.int .i64 r.2)]):=by
 obtain⟨⟨aC,aD⟩,⟨aM,aN⟩⟩:=x0
 obtain⟨⟨bN,bL⟩,⟨gy,gz⟩⟩:=x1
 refine ay Tryz.func105 rfl (Nat.le_of_ble_eq_true rfl) (fun cO M vs hvs=>?_)
 unfold pA at h
 refine sr<|bx rfl<|bx rfl<|al (cs:=[.v (.bool false),slc 1 (List.map ah []),.v (.bool false),slc 1 (List.map ah [])]) (by exact⟨SV.aa _,imp_nil,SV.aa _,imp_nil,trivial⟩) rfl<|ag rfl<|dn<|qq<|sr<|ld rfl rfl (.cons rfl (.cons rfl (.cons rfl (.cons rfl (.nil)))))<|bE h fun iA gW h=>cl (jk gW) ⟨rfl,trivial⟩<|lE h fun fg jv h=>eq _ rfl rfl (ua (p:=iA) (q:=0) jv)<|RT.done ?_
 refine ae.n ?_
 cases fg
 refine fs<|sr<|ld rfl rfl (.cons rfl (.cons rfl (.cons rfl (.cons rfl (.nil))))) ?_
 obtain⟨⟨Qs,Tq,X9⟩,iM,h⟩:=bS (F h)
 refine cl (cf iM) ⟨rfl,trivial⟩<|mv rfl<|ex rfl rfl<|ex rfl rfl<|ex rfl rfl<|ag rfl<|ag rfl<|ag rfl<|dn<|sr<|ld rfl rfl (.cons rfl (.cons rfl (.cons rfl (.cons rfl (.nil))))) ?_
 obtain⟨⟨NB,NC,Ya⟩,mP,h⟩:=bS h
 refine cl (cf mP) ⟨rfl,trivial⟩<|mv rfl<|ex rfl rfl<|ex rfl rfl<|ex rfl rfl<|ag rfl<|ag rfl<|ag rfl<|dn<|qq<|qq ?_
 refine aF h (fun j3=>AS.bJ 48 [(2,.ptr 2 0),(3,.ptr 3 0),(4,.ptr 4 0),(6,.sv (.v (.int .i64 Qs))),(7,.sv (.v (.int .i64 Tq))),(9,.sv (.v (.int .i64 NB))),(10,.sv (.v (.int .i64 NC))),(31,.sv (.v (.bool j3)))] [(4,⟨43,[.sv (.v (.bool false)),.sv (slc 1 (List.map ah [])),.sv (.v (.bool false)),.sv (slc 1 (List.map ah []))]⟩),(3,⟨43,[.sv (.v (.bool bN)),.sv (slc 1 (List.map ah bL)),.sv (.v (.bool gy)),.sv (slc 1 (List.map ah gz))]⟩),(2,⟨43,[.sv (.v (.bool aC)),.sv (slc 1 (List.map ah aD)),.sv (.v (.bool aM)),.sv (slc 1 (List.map ah aN))]⟩)] []) (fun h=>?_) (fun CV h=>?_)
 refine af<|mv rfl<|mv rfl<|bE h fun Vp On h=>?_
 cases X9
 obtain rfl:=O (F On)
 exact ww<|pF rfl<|dn<|⟨false,h,wR []⟩
 refine gm rfl ?_
 obtain rfl:=O (V On)
 exact pT rfl<|dn<|⟨Ya,h,wR []⟩
 try dsimp only
 refine ae.n ?_
 cases CV
 refine fs<|sr<|ld rfl rfl (.cons rfl (.cons rfl (.cons rfl (.cons rfl (.nil)))))<|ld rfl rfl (.cons rfl (.cons rfl (.cons rfl (.cons rfl (.nil))))) ?_
 obtain⟨⟨⟨E5,E6⟩,⟨Vn,Vo⟩⟩,xF,h⟩:=bS (F h)
 refine cl (Be xF) ⟨rfl,rfl,rfl,trivial⟩<|so rfl rfl rfl<|ag rfl<|dn<|aj ?_
 obtain rfl:=O h
 exact RZ (.agg rfl rfl (.cons rfl (.cons rfl (.cons rfl (.cons rfl (.nil))))) rfl (.tmp rfl (.nil)))
 refine cT<|qq<|sr<|mv rfl<|lE (V h) fun sL sV h=>ls _ rfl rfl sV<|dn ?_
 refine aF h (fun j6=>AS.bJ 48 [(4,.ptr 4 0),(6,.sv (.v (.int .i64 j6.1))),(7,.sv (.v (.int .i64 Tq))),(9,.sv (.v (.int .i64 j6.2))),(10,.sv (.v (.int .i64 NC)))] [(4,⟨43,[.sv (.v (.bool false)),.sv (slc 1 (List.map ah [])),.sv (.v (.bool false)),.sv (slc 1 (List.map ah []))]⟩)] []) (fun h=>?_) (fun j6 h=>?_)
 cases sL
 exact fs<|⟨(Qs,NB),(F h),wR []⟩
 exact cT<|af<|mv rfl<|lE (V h) fun ow xD h=>RT.neg .none _ rfl T xD<|mv rfl<|lE h fun sK yN h=>RT.neg .none _ rfl T yN<|ag rfl<|ag rfl<|dn<|⟨(ow,sK),h,wR []⟩
 obtain⟨abR,abS⟩:=j6
 try dsimp only
 refine ae.n<|sr<|mv rfl<|mv rfl<|lE h fun lO oc h=>RT.mul .none _ rfl rfl T oc<|mv rfl<|mv rfl<|lE h fun tJ BF h=>RT.mul .none _ rfl rfl T BF ?_
 obtain⟨⟨⟨E7,E8⟩,⟨Vl,Vm⟩⟩,A9,h⟩:=bS h
 refine cl (kY A9) ⟨rfl,rfl,trivial⟩<|so rfl rfl rfl<|ag rfl<|dn<|aj<|ae.r ?_
 obtain rfl:=O h
 exact RZ (.agg rfl rfl (.cons rfl (.cons rfl (.cons rfl (.cons rfl (.nil))))) rfl (.tmp rfl (.nil)))
 refine cT<|sr<|bI (cs:=[_,_,_,_]) (cs':=[.v (.bool false),slc 1 (List.map ah []),.v (.bool false),slc 1 (List.map ah [])]) (.nil) ⟨SV.aa _,imp_nil,SV.aa _,imp_nil,trivial⟩<|so rfl rfl rfl<|ag rfl<|dn<|aj<|ae.r ?_
 obtain rfl:=O (V h)
 exact RZ (.agg rfl rfl (.cons rfl (.cons rfl (.cons rfl (.cons rfl (.nil))))) rfl (.tmp rfl (.nil)))
theorem IY{x0:Qr}{r:Qr}(h:pB x0=some r):Pure Tryz.prog 108 [.agg (eQ x0)] (.agg (eQ r)):=by
 obtain⟨⟨aC,aD⟩,⟨aM,aN⟩⟩:=x0
 refine ay Tryz.func108 rfl (Nat.le_of_ble_eq_true rfl) (fun cO M vs hvs=>?_)
 unfold pB at h
 refine sr<|bx rfl<|al (cs:=[.v (.bool false),slc 1 (List.map ah []),.v (.bool false),slc 1 (List.map ah [])]) (by exact⟨SV.aa _,imp_nil,SV.aa _,imp_nil,trivial⟩) rfl<|dn<|sr<|ld rfl rfl (.cons rfl (.cons rfl (.cons rfl (.cons rfl (.nil))))) ?_
 obtain⟨⟨⟨Et,IU⟩,⟨Eu,GH⟩⟩,h5,h⟩:=bS h
 refine cl (gX h5) ⟨rfl,trivial⟩<|al (cs:=[.v (.bool false),slc 1 (List.map ah []),.v (.bool false),slc 1 (List.map ah [])]) (by exact⟨SV.aa _,imp_nil,SV.aa _,imp_nil,trivial⟩) rfl<|so rfl rfl rfl<|dn<|qq<|ai mixed<|fa rfl rfl<|ld rfl rfl (.cons rfl (.cons rfl (.nil))) ?_
 obtain⟨⟨wE,wF⟩,h8,h⟩:=bS h
 refine cl (mg h8) ⟨rfl,trivial⟩<|fa rfl rfl<|ld rfl rfl (.cons rfl (.cons rfl (.nil)))<|bI (cs:=[_,_,_,_]) (cs':=[.v (.bool wE),slc 1 (List.map ah wF),.v (.bool Eu),slc 1 (List.map ah GH)]) (.agg rfl (.agg rfl (.nil))) ⟨SV.aa _,SV.aa _,SV.aa _,SV.aa _,trivial⟩<|so rfl rfl rfl ?_
 refine RT.done ⟨by kernel_rfl,?_⟩
 refine ae.n<|aj ?_
 obtain rfl:=O h
 exact RZ (.agg rfl rfl (.cons rfl (.cons rfl (.cons rfl (.cons rfl (.nil))))) rfl (.nil))
theorem IZ{x0:Qr}{x1:Qr}{r:Int}(h:pC x0 x1=some r):Pure Tryz.prog 86 [.agg (eQ x0),.agg (eQ x1)] (.v (.int .i64 r)):=by
 obtain⟨⟨aC,aD⟩,⟨aM,aN⟩⟩:=x0
 obtain⟨⟨bN,bL⟩,⟨gy,gz⟩⟩:=x1
 refine ay Tryz.func86 rfl (Nat.le_of_ble_eq_true rfl) (fun cO M vs hvs=>?_)
 unfold pC at h
 refine sr<|bx rfl<|bx rfl<|ag rfl<|dn<|sr<|ld rfl rfl (.cons rfl (.cons rfl (.cons rfl (.cons rfl (.nil))))) ?_
 obtain⟨⟨⟨je,jg⟩,⟨jL,jM⟩⟩,gW,h⟩:=bS h
 refine cl (bU gW) ⟨rfl,trivial⟩<|mv rfl<|ex rfl rfl<|ex rfl rfl<|al (cs:=[.v (.bool false),slc 1 (List.map ah [])]) (by exact⟨SV.aa _,imp_nil,trivial⟩) rfl<|al (cs:=[.v (.bool false),slc 1 (List.map ah [])]) (by exact⟨SV.aa _,imp_nil,trivial⟩) rfl<|so rfl rfl rfl<|so rfl rfl rfl<|dn<|sr<|ld rfl rfl (.cons rfl (.cons rfl (.cons rfl (.cons rfl (.nil))))) ?_
 obtain⟨⟨⟨jh,ji⟩,⟨jN,jO⟩⟩,iM,h⟩:=bS h
 refine cl (bU iM) ⟨rfl,trivial⟩<|mv rfl<|ex rfl rfl<|ex rfl rfl<|al (cs:=[.v (.bool false),slc 1 (List.map ah [])]) (by exact⟨SV.aa _,imp_nil,trivial⟩) rfl<|al (cs:=[.v (.bool false),slc 1 (List.map ah [])]) (by exact⟨SV.aa _,imp_nil,trivial⟩) rfl<|so rfl rfl rfl<|so rfl rfl rfl<|dn<|qq<|qq<|ai mixed<|ld rfl rfl (.cons rfl (.cons rfl (.nil)))<|bE h fun jB nS h=>?_
 refine cl (ew nS) ⟨rfl,trivial⟩<|ld rfl rfl (.cons rfl (.cons rfl (.nil)))<|bE h fun ir mP h=>cl (ew mP) ⟨rfl,trivial⟩<|ag rfl<|ag rfl ?_
 refine RT.done ⟨by kernel_rfl,?_⟩
 refine ae.n<|qq ?_
 refine aF h (fun j3=>AS.bJ 43 [(5,.ptr 5 0),(6,.ptr 6 0),(7,.ptr 7 0),(8,.ptr 8 0),(9,.sv (.v (.int .i64 jB))),(10,.sv (.v (.int .i64 ir))),(31,.sv (.v (.bool j3)))] [(8,⟨41,[.sv (.v (.bool jN)),.sv (slc 1 (List.map ah jO))]⟩),(7,⟨41,[.sv (.v (.bool jh)),.sv (slc 1 (List.map ah ji))]⟩),(6,⟨41,[.sv (.v (.bool jL)),.sv (slc 1 (List.map ah jM))]⟩),(5,⟨41,[.sv (.v (.bool je)),.sv (slc 1 (List.map ah jg))]⟩)] []) (fun h=>?_) (fun CV h=>?_)
 refine af<|mv rfl<|mv rfl<|lE h fun lq oU h=>ne _ rfl rfl (F6 (p:=jB) (q:=ir) oU)<|mv rfl<|bE h fun Vu nC h=>?_
 cases lq
 refine gm rfl<|lE (F nC) fun uB uJ nC=>ge_ _ rfl rfl (ua (p:=jB) (q:=0) uJ) ?_
 obtain rfl:=O nC
 exact pF rfl<|dn<|⟨uB,h,wR []⟩
 obtain rfl:=O (V nC)
 exact ww<|ww<|pT rfl<|dn<|⟨true,h,wR []⟩
 try dsimp only
 refine ae.n ?_
 cases CV
 refine fs<|qq<|ai mixed<|ld rfl rfl (.cons rfl (.cons rfl (.nil)))<|ld rfl rfl (.cons rfl (.cons rfl (.nil))) ?_
 obtain⟨⟨Vq,Vr⟩,Gn,h⟩:=bS (F h)
 refine cl (dO Gn) ⟨rfl,rfl,trivial⟩<|ld rfl rfl (.cons rfl (.cons rfl (.nil)))<|ld rfl rfl (.cons rfl (.cons rfl (.nil))) ?_
 obtain⟨⟨Vs,Vt⟩,zX,h⟩:=bS h
 refine cl (dO zX) ⟨rfl,rfl,trivial⟩<|bE h fun oZ xE h=>cl (Gy xE) ⟨rfl,rfl,trivial⟩<|ag rfl ?_
 refine RT.done ⟨by kernel_rfl,?_⟩
 refine ae.n<|aj ?_
 obtain rfl:=O h
 exact R1 rfl
 refine cT<|sr<|mv rfl<|mv rfl<|lE (V h) fun m8 o9 h=>sb _ rfl rfl o9<|bE h fun ow xD h=>cl (GI xD) ⟨rfl,trivial⟩<|ag rfl<|dn<|aj<|ae.r ?_
 obtain rfl:=O h
 exact R1 rfl
end Go.Proofs.YtningmnklfpfjaaGreat
namespace Go.Proofs.YtningmnklfpfjaaGreat
open Go.Fw
noncomputable def jC(x0:List Qr)(x1:List Qr):Option (List Qr):=(some (x0.length:Int)).bind fun iI=>(some (x1.length:Int)).bind fun iA=>(some (max (iI:Int) iA)).bind fun fg=>(OX (α:=Qr) 64 fg).bind fun dR=>(ot (fun(k:Nat) (jl:(List Qr))=>(show Option ((List Qr))from(some (x0.getD k (⟨⟨false,[]⟩,⟨false,[]⟩⟩:Qr))).bind fun⟨⟨CX,CY⟩,⟨CZ,C0⟩⟩=>(some (x1.getD k (⟨⟨false,[]⟩,⟨false,[]⟩⟩:Qr))).bind fun⟨⟨C1,C2⟩,⟨C3,C4⟩⟩=>(lJ ⟨⟨CX,CY⟩,⟨CZ,C0⟩⟩ ⟨⟨C1,C2⟩,⟨C3,C4⟩⟩).bind fun⟨⟨iL,iB⟩,⟨nU,nV⟩⟩=>(zM 64 jl [⟨⟨iL,iB⟩,⟨nU,nV⟩⟩]).bind fun lq=>some lq)) (max x0.length x1.length) dR).bind fun jl=>some jl
noncomputable def gY(x0:Qr)(x1:Qr)(Ev:Qr):Option (Qr):=match x0 with|⟨⟨aC,aD⟩,⟨aM,aN⟩⟩=>match x1 with|⟨⟨bN,bL⟩,⟨gy,gz⟩⟩=>match Ev with|⟨⟨Ff,Fg⟩,⟨Fh,Fi⟩⟩=>(kx ⟨⟨Ff,Fg⟩,⟨Fh,Fi⟩⟩ ⟨⟨aC,aD⟩,⟨aM,aN⟩⟩).bind fun⟨⟨wE,wF⟩,⟨Bf,Bg⟩⟩=>(lI ⟨⟨wE,wF⟩,⟨Bf,Bg⟩⟩ ⟨⟨bN,bL⟩,⟨gy,gz⟩⟩).bind fun⟨⟨CB,CC⟩,⟨Qv,Qw⟩⟩=>some ⟨⟨CB,CC⟩,⟨Qv,Qw⟩⟩
noncomputable def gA(x0:List Qr)(x1:List Qr)(GJ:Qr):Option (List Qr):=match GJ with|⟨⟨C5,C6⟩,⟨C7,C8⟩⟩=>(some (x0.length:Int)).bind fun iI=>(some (x1.length:Int)).bind fun iA=>(some (max (iI:Int) iA)).bind fun fg=>(OX (α:=Qr) 64 fg).bind fun dR=>(ot (fun(k:Nat) (jl:(List Qr))=>(show Option ((List Qr))from(some (x0.getD k (⟨⟨false,[]⟩,⟨false,[]⟩⟩:Qr))).bind fun⟨⟨CX,CY⟩,⟨CZ,C0⟩⟩=>(some (x1.getD k (⟨⟨false,[]⟩,⟨false,[]⟩⟩:Qr))).bind fun⟨⟨C1,C2⟩,⟨C3,C4⟩⟩=>(gY ⟨⟨CX,CY⟩,⟨CZ,C0⟩⟩ ⟨⟨C1,C2⟩,⟨C3,C4⟩⟩ ⟨⟨C5,C6⟩,⟨C7,C8⟩⟩).bind fun⟨⟨iL,iB⟩,⟨nU,nV⟩⟩=>(zM 64 jl [⟨⟨iL,iB⟩,⟨nU,nV⟩⟩]).bind fun lq=>some lq)) (max x0.length x1.length) dR).bind fun jl=>some jl
noncomputable def nj(x0:List Qr)(x1:List Qr):Option (List Qr):=(jC x0 x1).bind fun x7=>some x7
noncomputable def nW(x0:Qr)(x1:List Qr):Option (List Qr):=match x0 with|⟨⟨aC,aD⟩,⟨aM,aN⟩⟩=>(some (x1.length:Int)).bind fun x9=>(D4 64 x9 (⟨⟨false,[]⟩,⟨false,[]⟩⟩:Qr)).bind fun ek=>(some (x1.length:Int)).bind fun dW=>(bQ (fun(s8:Int×(List Qr))=>match s8 with|⟨I0,I1⟩=>(show Option ((Int×(List Qr))⊕((List Qr)))from(some (decide ((I0:Int)<dW))).bind fun fg=>(bif fg then(cz x1 I0).bind fun⟨⟨nP,nQ⟩,⟨Vv,Vw⟩⟩=>(kx ⟨⟨aC,aD⟩,⟨aM,aN⟩⟩ ⟨⟨nP,nQ⟩,⟨Vv,Vw⟩⟩).bind fun⟨⟨yQ,yR⟩,⟨yS,yT⟩⟩=>(kQ I1 I0).bind fun jJ=>(stM I1 jJ ⟨⟨yQ,yR⟩,⟨yS,yT⟩⟩).bind fun yC=>(some (IntKind.i64.wrap (I0+1))).bind fun ir=>some (.inl (ir,yC))else some (.inr I1)))) (0,ek)).bind fun C9=>some C9
noncomputable def eO(x0:Qr)(x1:List Qr)(x2:List Qr):Option (List Qr):=match x0 with|⟨⟨aC,aD⟩,⟨aM,aN⟩⟩=>(gA x1 x2 ⟨⟨aC,aD⟩,⟨aM,aN⟩⟩).bind fun ek=>some ek
noncomputable def jD(x0:List Qr)(x1:List Qr):Option (Int):=(ou (fun(k:Nat) (s3:Unit)=>(show Option ((Unit)⊕(Int))from(some (x0.getD k (⟨⟨false,[]⟩,⟨false,[]⟩⟩:Qr))).bind fun⟨⟨Vx,Vy⟩,⟨Vz,VA⟩⟩=>(some (x1.getD k (⟨⟨false,[]⟩,⟨false,[]⟩⟩:Qr))).bind fun⟨⟨VB,VC⟩,⟨VD,VE⟩⟩=>(pC ⟨⟨Vx,Vy⟩,⟨Vz,VA⟩⟩ ⟨⟨VB,VC⟩,⟨VD,VE⟩⟩).bind fun dR=>(some (decide ((dR:Int)≠0))).bind fun gx=>(bif gx then some (.inr dR)else some (.inl ())))) (max x0.length x1.length) ()).bind fun e3=>match e3 with|.inr v3=>some v3|.inl _=>some 0
noncomputable def pD(x0:List Qr):Option (Int):=(jD x0 []).bind fun x4=>some x4
noncomputable def cK(x0:List Qr)(x1:List Qr):Option (Bool):=(jD x0 x1).bind fun x7=>(some (decide ((x7:Int)=0))).bind fun x8=>some x8
noncomputable def fY(x0:List Qr)(x1:Int):Option (List Qr):=(some (decide ((x1:Int)<1))).bind fun x8=>(bif x8 then some []else(some (min (x1:Int) 65536)).bind fun ek=>(D4 64 ek (⟨⟨false,[]⟩,⟨false,[]⟩⟩:Qr)).bind fun iI=>(some (x0.length:Int)).bind fun iA=>(some (iI.length:Int)).bind fun dR=>(some (min (iA:Int) dR)).bind fun iY=>(bQ (fun(s8:Int×(List Qr))=>match s8 with|⟨Fj,Da⟩=>(show Option ((Int×(List Qr))⊕((List Qr)))from(some (decide ((Fj:Int)<iY))).bind fun fF=>(bif fF then(cz x0 Fj).bind fun⟨⟨rL,rM⟩,⟨rN,rO⟩⟩=>(cj ⟨⟨rL,rM⟩,⟨rN,rO⟩⟩).bind fun⟨⟨I2,I3⟩,⟨I4,I5⟩⟩=>(kQ Da Fj).bind fun lq=>(stM Da lq ⟨⟨I2,I3⟩,⟨I4,I5⟩⟩).bind fun yC=>(some (IntKind.i64.wrap (Fj+1))).bind fun oM=>some (.inl (oM,yC))else some (.inr Da)))) (0,iI)).bind fun rP=>some rP)
noncomputable def cG(x0:List Int):Option (List Qr):=(some (x0.length:Int)).bind fun x7=>(D4 64 x7 (⟨⟨false,[]⟩,⟨false,[]⟩⟩:Qr)).bind fun x8=>(some (x0.length:Int)).bind fun ek=>(bQ (fun(s8:Int×(List Qr))=>match s8 with|⟨uV,Db⟩=>(show Option ((Int×(List Qr))⊕((List Qr)))from(some (decide ((uV:Int)<ek))).bind fun dW=>(bif dW then(cz x0 uV).bind fun fg=>(cZ fg).bind fun⟨⟨mU,mW⟩,⟨Dc,Dd⟩⟩=>(kQ Db uV).bind fun gO=>(stM Db gO ⟨⟨mU,mW⟩,⟨Dc,Dd⟩⟩).bind fun yC=>(some (IntKind.i64.wrap (uV+1))).bind fun ik=>some (.inl (ik,yC))else some (.inr Db)))) (0,x8)).bind fun xI=>some xI
end Go.Proofs.YtningmnklfpfjaaGreat
namespace Go.Proofs.YtningmnklfpfjaaGreat
open Go.Fw Go.Fw.Z Go.RowKit
theorem mh(a b:List Qr):Pure Tryz.prog 133 [(slc 4 (List.map eQ a)),(slc 4 (List.map eQ b))] (iC 165 [ref [(slc 4 (List.map eQ a))],ref [(slc 4 (List.map eQ b))]]):=by
 refine ay Tryz.func133 rfl (Nat.le_of_ble_eq_true rfl) (fun cO M vs hvs=>?_)
 refine sr<|RT.uf .none (s:=.sv _) rfl T rfl rfl<|RT.uf .none (s:=.sv _) rfl T rfl rfl<|ag rfl<|dn<|sr<|RT.makeFunc .none (.box rfl (.box rfl (.nil))) T<|an (s:=.eU _ _) rfl<|dn<|bt (gw (i:=2) rfl [(slc 4 (List.map eQ a))] (.cons rfl .nil) .any 0 [(4,.eU 165 [.val (ref [(slc 4 (List.map eQ a))]),.box 3])] (fun _ _ _=>trivial) (qN.h (l:=[(slc 4 (List.map eQ a))])) ⟨@FT.eU _ _ _ _ _ 4 165 [.box 2,.box 3] rfl,trivial⟩) ?_
 exact bt (gw (i:=3) rfl [(slc 4 (List.map eQ b))] (.cons rfl .nil) .any 0 [(4,.eU 165 [.val (ref [(slc 4 (List.map eQ a))]),.val (ref [(slc 4 (List.map eQ b))])])] (fun _ _ _=>trivial) (qN.h (l:=[(slc 4 (List.map eQ b))])) ⟨@FT.eU _ _ _ _ _ 4 165 [.val (ref [(slc 4 (List.map eQ a))]),.box 3] rfl,trivial⟩)<|bt (F3 4 (iC 165 [ref [(slc 4 (List.map eQ a))],ref [(slc 4 (List.map eQ b))]]) (fun _ _ h=>F4 h))<|aj<|⟨.inr rfl,FZ (.tmp rfl (.nil)) rfl⟩
theorem mm(a b:List Qr):Iter Tryz.prog 165 [ref [(slc 4 (List.map eQ a))],ref [(slc 4 (List.map eQ b))]] (max a.length b.length) (fun k=>[.agg (eQ (a.getD k (⟨⟨false,[]⟩,⟨false,[]⟩⟩:Qr))),.agg (eQ (b.getD k (⟨⟨false,[]⟩,⟨false,[]⟩⟩:Qr)))]):=by
 refine sD Tryz.func165 rfl rfl (Nat.le_of_ble_eq_true rfl) (fun cO M O l J hJ yg hr=>?_)
 obtain⟨oK,yg⟩:=yg
 have hla:a.length≤9223372036854775807:=by cases oK with|nil=>exact yg.elim|cons _ oK=>exact vO yg.1
 have hlb:b.length≤9223372036854775807:=by cases oK with|nil=>exact yg.elim|cons _ oK=>cases oK with|nil=>exact yg.2.elim|cons _ _=>exact vO yg.2.1
 refine aS ?_
 refine af ?_
 refine RT.di .none rfl rfl (tl rfl) ?_
 refine RT.len .none rfl (tl rfl) ?_
 refine RT.di .none rfl rfl (tl rfl) ?_
 refine RT.len .none rfl (tl rfl) ?_
 refine RT.max .none (((max a.length b.length:Nat):Int)) rfl rfl (tl rfl) (by simp only[List.length_map];split<;>omega) ?_
 refine RT.mv .none rfl (tl rfl) ?_
 refine RT.done ?_
 refine ae.n ?_
 refine ak ?_
 refine ym (I:=fun x:{i:Nat//i≤max a.length b.length}=>AS.bJ 37 [(0,.sv (.v (.func (.yield l) #[] #[]))),(1,.sv (ref [(slc 4 (List.map eQ a))])),(2,.sv (ref [(slc 4 (List.map eQ b))])),(11,.sv (.v (.int .i64 ((max a.length b.length:Nat):Int)))),(12,.sv (.v (.int .i64 ((x.1:Nat):Int))))] [] [] (x.1)) (μ:=fun x=>max a.length b.length-x.1) ⟨0,by omega⟩ (by(try dsimp only);exact cy id rfl rfl rfl rfl rfl ⟨.sv (by first|exact SV.aa _|exact SV.au (by omega)|exact SV.au (by push_cast;omega)|exact SV.au (by dsimp only;omega)|exact SV.imp_eq (by simp)),.sv (by first|exact SV.aa _|exact SV.au (by omega)|exact SV.au (by push_cast;omega)|exact SV.au (by dsimp only;omega)|exact SV.imp_eq (by simp)),.sv (by first|exact SV.aa _|exact SV.au (by omega)|exact SV.au (by push_cast;omega)|exact SV.au (by dsimp only;omega)|exact SV.imp_eq (by simp)),.sv (by first|exact SV.aa _|exact SV.au (by omega)|exact SV.au (by push_cast;omega)|exact SV.au (by dsimp only;omega)|exact SV.imp_eq (by simp)),.sv (by first|exact SV.aa _|exact SV.au (by omega)|exact SV.au (by push_cast;omega)|exact SV.au (by dsimp only;omega)|exact SV.imp_eq (by simp)),trivial⟩ trivial trivial (fun _ _=>rfl)) ?_
 rintro⟨i,Vc⟩
 try dsimp only
 rcases Ck a b i Vc with⟨hi,zH,BA⟩|⟨hi,zH,BA⟩|⟨hi,zH,BA⟩|hi
 ·
  refine aS ?_
  refine af ?_
  refine RT.lss .none (true) rfl rfl (tl rfl) (by simp;omega) ?_
  refine RT.done ?_
  refine ae.n ?_
  refine aS ?_
  refine cU rfl ?_
  refine aH ?_
  refine ae.n ?_
  refine aS ?_
  refine ak ?_
  refine aS ?_
  refine af ?_
  refine RT.mv .none rfl (tl rfl) ?_
  refine RT.EP .none rfl (tl rfl) ?_
  refine RT.done ?_
  refine ae.n ?_
  refine aS ?_
  refine af ?_
  refine RT.xx .none (cs:=eQ ⟨⟨false,[]⟩,⟨false,[]⟩⟩) (by exact⟨SV.aa _,imp_nil,SV.aa _,imp_nil,trivial⟩) rfl (tl rfl) rfl rfl ?_
  refine RT.xx .none (cs:=eQ ⟨⟨false,[]⟩,⟨false,[]⟩⟩) (by exact⟨SV.aa _,imp_nil,SV.aa _,imp_nil,trivial⟩) rfl (tl rfl) rfl rfl ?_
  refine RT.done ?_
  refine ae.n ?_
  refine aS ?_
  refine aS ?_
  refine af ?_
  refine RT.mv .none rfl (tl rfl) ?_
  refine RT.di .none rfl rfl (tl rfl) ?_
  refine RT.len .none rfl (tl rfl) ?_
  refine RT.lss .none (true) rfl rfl (tl rfl) (by simp only[List.length_map];simp;omega) ?_
  refine RT.done ?_
  refine ae.n ?_
  refine cU rfl ?_
  refine af ?_
  refine RT.di .none rfl rfl (tl rfl) ?_
  refine RT.mv .none rfl (tl rfl) ?_
  refine RT.U1 .none [.v (.bool (a.getD i (⟨⟨false,[]⟩,⟨false,[]⟩⟩:Qr)).num.neg),slc 1 ((a.getD i (⟨⟨false,[]⟩,⟨false,[]⟩⟩:Qr)).num.w.map ah),.v (.bool (a.getD i (⟨⟨false,[]⟩,⟨false,[]⟩⟩:Qr)).den.neg),slc 1 ((a.getD i (⟨⟨false,[]⟩,⟨false,[]⟩⟩:Qr)).den.w.map ah)] (Int.natCast_nonneg i) (by rw[Int.toNat_natCast,List.getElem?_map,jz zH];rfl) rfl rfl (tl rfl) ?_
  refine RT.iW .none rfl (tl rfl) (cs:=[.v (.bool (a.getD i (⟨⟨false,[]⟩,⟨false,[]⟩⟩:Qr)).num.neg),slc 1 ((a.getD i (⟨⟨false,[]⟩,⟨false,[]⟩⟩:Qr)).num.w.map ah),.v (.bool (a.getD i (⟨⟨false,[]⟩,⟨false,[]⟩⟩:Qr)).den.neg),slc 1 ((a.getD i (⟨⟨false,[]⟩,⟨false,[]⟩⟩:Qr)).den.w.map ah)]) rfl rfl ?_
  refine RT.store .none rfl rfl rfl rfl rfl ?_
  refine RT.done ?_
  refine ae.n ?_
  refine aS ?_
  refine aS ?_
  refine af ?_
  refine RT.mv .none rfl (tl rfl) ?_
  refine RT.di .none rfl rfl (tl rfl) ?_
  refine RT.len .none rfl (tl rfl) ?_
  refine RT.lss .none (true) rfl rfl (tl rfl) (by simp only[List.length_map];simp;omega) ?_
  refine RT.done ?_
  refine ae.n ?_
  refine cU rfl ?_
  refine af ?_
  refine RT.di .none rfl rfl (tl rfl) ?_
  refine RT.mv .none rfl (tl rfl) ?_
  refine RT.U1 .none [.v (.bool (b.getD i (⟨⟨false,[]⟩,⟨false,[]⟩⟩:Qr)).num.neg),slc 1 ((b.getD i (⟨⟨false,[]⟩,⟨false,[]⟩⟩:Qr)).num.w.map ah),.v (.bool (b.getD i (⟨⟨false,[]⟩,⟨false,[]⟩⟩:Qr)).den.neg),slc 1 ((b.getD i (⟨⟨false,[]⟩,⟨false,[]⟩⟩:Qr)).den.w.map ah)] (Int.natCast_nonneg i) (by rw[Int.toNat_natCast,List.getElem?_map,jz BA];rfl) rfl rfl (tl rfl) ?_
  refine RT.iW .none rfl (tl rfl) (cs:=[.v (.bool (b.getD i (⟨⟨false,[]⟩,⟨false,[]⟩⟩:Qr)).num.neg),slc 1 ((b.getD i (⟨⟨false,[]⟩,⟨false,[]⟩⟩:Qr)).num.w.map ah),.v (.bool (b.getD i (⟨⟨false,[]⟩,⟨false,[]⟩⟩:Qr)).den.neg),slc 1 ((b.getD i (⟨⟨false,[]⟩,⟨false,[]⟩⟩:Qr)).den.w.map ah)]) rfl rfl ?_
  refine RT.store .none rfl rfl rfl rfl rfl ?_
  refine RT.done ?_
  refine ae.n ?_
  refine aS ?_
  refine af ?_
  refine RT.mv .none rfl (tl rfl) ?_
  refine RT.load .none rfl rfl (.cons rfl (.cons rfl (.cons rfl (.cons rfl (.nil))))) rfl (tl rfl) ?_
  refine RT.load .none rfl rfl (.cons rfl (.cons rfl (.cons rfl (.cons rfl (.nil))))) rfl (tl rfl) ?_
  refine RT.yield .none hr rfl (fun _ h=>h) rfl (i) rfl rfl hi (by exact⟨rfl,rfl,trivial⟩) (tl rfl) (fun yb=>?_)
  cases yb
  ·
   refine RT.not .none rfl (tl rfl) true rfl ?_
   refine RT.done ?_
   refine ae.n ?_
   refine cU rfl ?_
   refine aj ?_
   refine aK.r ?_
   refine ae.r ?_
   refine ae.r ?_
   refine aK.r ?_
   exact⟨.inr rfl,(fun h=>by cases h)⟩
  ·
   refine RT.not .none rfl (tl rfl) false rfl ?_
   refine RT.done ?_
   refine ae.n ?_
   refine eV rfl ?_
   refine aH ?_
   refine aK.n ?_
   refine ae.n ?_
   refine af ?_
   refine RT.add .none (((i:Nat):Int)+1) rfl rfl (tl rfl) (mZ (by omega)) ?_
   refine RT.mv .none rfl (tl rfl) ?_
   refine RT.done ?_
   refine ae.n ?_
   refine⟨⟨i+1,by omega⟩,(by dsimp only;omega),?_⟩
   try dsimp only
   exact cy id rfl rfl rfl rfl rfl ⟨.sv (by first|exact SV.aa _|exact SV.au (by omega)|exact SV.au (by push_cast;omega)|exact SV.au (by dsimp only;omega)|exact SV.imp_eq (by simp)),.sv (by first|exact SV.aa _|exact SV.au (by omega)|exact SV.au (by push_cast;omega)|exact SV.au (by dsimp only;omega)|exact SV.imp_eq (by simp)),.sv (by first|exact SV.aa _|exact SV.au (by omega)|exact SV.au (by push_cast;omega)|exact SV.au (by dsimp only;omega)|exact SV.imp_eq (by simp)),.sv (by first|exact SV.aa _|exact SV.au (by omega)|exact SV.au (by push_cast;omega)|exact SV.au (by dsimp only;omega)|exact SV.imp_eq (by simp)),.sv (by first|exact SV.aa _|exact SV.au (by omega)|exact SV.au (by push_cast;omega)|exact SV.au (by dsimp only;omega)|exact SV.imp_eq (by simp)),trivial⟩ trivial trivial (fun _ _=>rfl)
 ·
  refine aS ?_
  refine af ?_
  refine RT.lss .none (true) rfl rfl (tl rfl) (by simp;omega) ?_
  refine RT.done ?_
  refine ae.n ?_
  refine aS ?_
  refine cU rfl ?_
  refine aH ?_
  refine ae.n ?_
  refine aS ?_
  refine ak ?_
  refine aS ?_
  refine af ?_
  refine RT.mv .none rfl (tl rfl) ?_
  refine RT.EP .none rfl (tl rfl) ?_
  refine RT.done ?_
  refine ae.n ?_
  refine aS ?_
  refine af ?_
  refine RT.xx .none (cs:=eQ ⟨⟨false,[]⟩,⟨false,[]⟩⟩) (by exact⟨SV.aa _,imp_nil,SV.aa _,imp_nil,trivial⟩) rfl (tl rfl) rfl rfl ?_
  refine RT.xx .none (cs:=eQ ⟨⟨false,[]⟩,⟨false,[]⟩⟩) (by exact⟨SV.aa _,imp_nil,SV.aa _,imp_nil,trivial⟩) rfl (tl rfl) rfl rfl ?_
  refine RT.done ?_
  refine ae.n ?_
  refine aS ?_
  refine aS ?_
  refine af ?_
  refine RT.mv .none rfl (tl rfl) ?_
  refine RT.di .none rfl rfl (tl rfl) ?_
  refine RT.len .none rfl (tl rfl) ?_
  refine RT.lss .none (true) rfl rfl (tl rfl) (by simp only[List.length_map];simp;omega) ?_
  refine RT.done ?_
  refine ae.n ?_
  refine cU rfl ?_
  refine af ?_
  refine RT.di .none rfl rfl (tl rfl) ?_
  refine RT.mv .none rfl (tl rfl) ?_
  refine RT.U1 .none [.v (.bool (a.getD i (⟨⟨false,[]⟩,⟨false,[]⟩⟩:Qr)).num.neg),slc 1 ((a.getD i (⟨⟨false,[]⟩,⟨false,[]⟩⟩:Qr)).num.w.map ah),.v (.bool (a.getD i (⟨⟨false,[]⟩,⟨false,[]⟩⟩:Qr)).den.neg),slc 1 ((a.getD i (⟨⟨false,[]⟩,⟨false,[]⟩⟩:Qr)).den.w.map ah)] (Int.natCast_nonneg i) (by rw[Int.toNat_natCast,List.getElem?_map,jz zH];rfl) rfl rfl (tl rfl) ?_
  refine RT.iW .none rfl (tl rfl) (cs:=[.v (.bool (a.getD i (⟨⟨false,[]⟩,⟨false,[]⟩⟩:Qr)).num.neg),slc 1 ((a.getD i (⟨⟨false,[]⟩,⟨false,[]⟩⟩:Qr)).num.w.map ah),.v (.bool (a.getD i (⟨⟨false,[]⟩,⟨false,[]⟩⟩:Qr)).den.neg),slc 1 ((a.getD i (⟨⟨false,[]⟩,⟨false,[]⟩⟩:Qr)).den.w.map ah)]) rfl rfl ?_
  refine RT.store .none rfl rfl rfl rfl rfl ?_
  refine RT.done ?_
  refine ae.n ?_
  refine aS ?_
  refine aS ?_
  refine af ?_
  refine RT.mv .none rfl (tl rfl) ?_
  refine RT.di .none rfl rfl (tl rfl) ?_
  refine RT.len .none rfl (tl rfl) ?_
  refine RT.lss .none (false) rfl rfl (tl rfl) (by simp only[List.length_map];simp;omega) ?_
  refine RT.done ?_
  refine ae.n ?_
  refine eV rfl ?_
  refine aH ?_
  refine ae.n ?_
  refine aS ?_
  refine af ?_
  refine RT.mv .none rfl (tl rfl) ?_
  refine RT.load .none rfl rfl (.cons rfl (.cons rfl (.cons rfl (.cons rfl (.nil))))) rfl (tl rfl) ?_
  refine RT.load .none rfl rfl (.cons rfl (.cons rfl (.cons rfl (.cons rfl (.nil))))) rfl (tl rfl) ?_
  refine RT.yield .none hr rfl (fun _ h=>h) rfl (i) rfl rfl hi (by exact⟨rfl,(by show AV.sv _=AV.sv _;rw[iX BA]),trivial⟩) (tl rfl) (fun yb=>?_)
  cases yb
  ·
   refine RT.not .none rfl (tl rfl) true rfl ?_
   refine RT.done ?_
   refine ae.n ?_
   refine cU rfl ?_
   refine aj ?_
   refine aK.r ?_
   refine ae.r ?_
   refine ae.r ?_
   refine aK.r ?_
   exact⟨.inr rfl,(fun h=>by cases h)⟩
  ·
   refine RT.not .none rfl (tl rfl) false rfl ?_
   refine RT.done ?_
   refine ae.n ?_
   refine eV rfl ?_
   refine aH ?_
   refine aK.n ?_
   refine ae.n ?_
   refine af ?_
   refine RT.add .none (((i:Nat):Int)+1) rfl rfl (tl rfl) (mZ (by omega)) ?_
   refine RT.mv .none rfl (tl rfl) ?_
   refine RT.done ?_
   refine ae.n ?_
   refine⟨⟨i+1,by omega⟩,(by dsimp only;omega),?_⟩
   try dsimp only
   exact cy id rfl rfl rfl rfl rfl ⟨.sv (by first|exact SV.aa _|exact SV.au (by omega)|exact SV.au (by push_cast;omega)|exact SV.au (by dsimp only;omega)|exact SV.imp_eq (by simp)),.sv (by first|exact SV.aa _|exact SV.au (by omega)|exact SV.au (by push_cast;omega)|exact SV.au (by dsimp only;omega)|exact SV.imp_eq (by simp)),.sv (by first|exact SV.aa _|exact SV.au (by omega)|exact SV.au (by push_cast;omega)|exact SV.au (by dsimp only;omega)|exact SV.imp_eq (by simp)),.sv (by first|exact SV.aa _|exact SV.au (by omega)|exact SV.au (by push_cast;omega)|exact SV.au (by dsimp only;omega)|exact SV.imp_eq (by simp)),.sv (by first|exact SV.aa _|exact SV.au (by omega)|exact SV.au (by push_cast;omega)|exact SV.au (by dsimp only;omega)|exact SV.imp_eq (by simp)),trivial⟩ trivial trivial (fun _ _=>rfl)
 ·
  refine aS ?_
  refine af ?_
  refine RT.lss .none (true) rfl rfl (tl rfl) (by simp;omega) ?_
  refine RT.done ?_
  refine ae.n ?_
  refine aS ?_
  refine cU rfl ?_
  refine aH ?_
  refine ae.n ?_
  refine aS ?_
  refine ak ?_
  refine aS ?_
  refine af ?_
  refine RT.mv .none rfl (tl rfl) ?_
  refine RT.EP .none rfl (tl rfl) ?_
  refine RT.done ?_
  refine ae.n ?_
  refine aS ?_
  refine af ?_
  refine RT.xx .none (cs:=eQ ⟨⟨false,[]⟩,⟨false,[]⟩⟩) (by exact⟨SV.aa _,imp_nil,SV.aa _,imp_nil,trivial⟩) rfl (tl rfl) rfl rfl ?_
  refine RT.xx .none (cs:=eQ ⟨⟨false,[]⟩,⟨false,[]⟩⟩) (by exact⟨SV.aa _,imp_nil,SV.aa _,imp_nil,trivial⟩) rfl (tl rfl) rfl rfl ?_
  refine RT.done ?_
  refine ae.n ?_
  refine aS ?_
  refine aS ?_
  refine af ?_
  refine RT.mv .none rfl (tl rfl) ?_
  refine RT.di .none rfl rfl (tl rfl) ?_
  refine RT.len .none rfl (tl rfl) ?_
  refine RT.lss .none (false) rfl rfl (tl rfl) (by simp only[List.length_map];simp;omega) ?_
  refine RT.done ?_
  refine ae.n ?_
  refine eV rfl ?_
  refine aH ?_
  refine ae.n ?_
  refine aS ?_
  refine aS ?_
  refine af ?_
  refine RT.mv .none rfl (tl rfl) ?_
  refine RT.di .none rfl rfl (tl rfl) ?_
  refine RT.len .none rfl (tl rfl) ?_
  refine RT.lss .none (true) rfl rfl (tl rfl) (by simp only[List.length_map];simp;omega) ?_
  refine RT.done ?_
  refine ae.n ?_
  refine cU rfl ?_
  refine af ?_
  refine RT.di .none rfl rfl (tl rfl) ?_
  refine RT.mv .none rfl (tl rfl) ?_
  refine RT.U1 .none [.v (.bool (b.getD i (⟨⟨false,[]⟩,⟨false,[]⟩⟩:Qr)).num.neg),slc 1 ((b.getD i (⟨⟨false,[]⟩,⟨false,[]⟩⟩:Qr)).num.w.map ah),.v (.bool (b.getD i (⟨⟨false,[]⟩,⟨false,[]⟩⟩:Qr)).den.neg),slc 1 ((b.getD i (⟨⟨false,[]⟩,⟨false,[]⟩⟩:Qr)).den.w.map ah)] (Int.natCast_nonneg i) (by rw[Int.toNat_natCast,List.getElem?_map,jz BA];rfl) rfl rfl (tl rfl) ?_
  refine RT.iW .none rfl (tl rfl) (cs:=[.v (.bool (b.getD i (⟨⟨false,[]⟩,⟨false,[]⟩⟩:Qr)).num.neg),slc 1 ((b.getD i (⟨⟨false,[]⟩,⟨false,[]⟩⟩:Qr)).num.w.map ah),.v (.bool (b.getD i (⟨⟨false,[]⟩,⟨false,[]⟩⟩:Qr)).den.neg),slc 1 ((b.getD i (⟨⟨false,[]⟩,⟨false,[]⟩⟩:Qr)).den.w.map ah)]) rfl rfl ?_
  refine RT.store .none rfl rfl rfl rfl rfl ?_
  refine RT.done ?_
  refine ae.n ?_
  refine aS ?_
  refine af ?_
  refine RT.mv .none rfl (tl rfl) ?_
  refine RT.load .none rfl rfl (.cons rfl (.cons rfl (.cons rfl (.cons rfl (.nil))))) rfl (tl rfl) ?_
  refine RT.load .none rfl rfl (.cons rfl (.cons rfl (.cons rfl (.cons rfl (.nil))))) rfl (tl rfl) ?_
  refine RT.yield .none hr rfl (fun _ h=>h) rfl (i) rfl rfl hi (by exact⟨(by show AV.sv _=AV.sv _;rw[iX zH]),rfl,trivial⟩) (tl rfl) (fun yb=>?_)
  cases yb
  ·
   refine RT.not .none rfl (tl rfl) true rfl ?_
   refine RT.done ?_
   refine ae.n ?_
   refine cU rfl ?_
   refine aj ?_
   refine aK.r ?_
   refine ae.r ?_
   refine ae.r ?_
   refine aK.r ?_
   exact⟨.inr rfl,(fun h=>by cases h)⟩
  ·
   refine RT.not .none rfl (tl rfl) false rfl ?_
   refine RT.done ?_
   refine ae.n ?_
   refine eV rfl ?_
   refine aH ?_
   refine aK.n ?_
   refine ae.n ?_
   refine af ?_
   refine RT.add .none (((i:Nat):Int)+1) rfl rfl (tl rfl) (mZ (by omega)) ?_
   refine RT.mv .none rfl (tl rfl) ?_
   refine RT.done ?_
   refine ae.n ?_
   refine⟨⟨i+1,by omega⟩,(by dsimp only;omega),?_⟩
   try dsimp only
   exact cy id rfl rfl rfl rfl rfl ⟨.sv (by first|exact SV.aa _|exact SV.au (by omega)|exact SV.au (by push_cast;omega)|exact SV.au (by dsimp only;omega)|exact SV.imp_eq (by simp)),.sv (by first|exact SV.aa _|exact SV.au (by omega)|exact SV.au (by push_cast;omega)|exact SV.au (by dsimp only;omega)|exact SV.imp_eq (by simp)),.sv (by first|exact SV.aa _|exact SV.au (by omega)|exact SV.au (by push_cast;omega)|exact SV.au (by dsimp only;omega)|exact SV.imp_eq (by simp)),.sv (by first|exact SV.aa _|exact SV.au (by omega)|exact SV.au (by push_cast;omega)|exact SV.au (by dsimp only;omega)|exact SV.imp_eq (by simp)),.sv (by first|exact SV.aa _|exact SV.au (by omega)|exact SV.au (by push_cast;omega)|exact SV.au (by dsimp only;omega)|exact SV.imp_eq (by simp)),trivial⟩ trivial trivial (fun _ _=>rfl)
 ·
  subst hi
  refine aS ?_
  refine af ?_
  refine RT.lss .none (false) rfl rfl (tl rfl) (by simp) ?_
  refine RT.done ?_
  refine ae.n ?_
  refine aS ?_
  refine eV rfl ?_
  refine bf ?_
  refine ae.x ?_
  refine ae.x ?_
  refine aK.x ?_
  exact⟨.inl rfl,(fun _=>rfl)⟩
end Go.Proofs.YtningmnklfpfjaaGreat
namespace Go.Proofs.YtningmnklfpfjaaGreat
open Go.Fw Go.Fw.Z Go.RowKit
theorem De{x0:List Qr}{x1:List Qr}{r:List Qr}(h:jC x0 x1=some r):Pure Tryz.prog 95 [slc 4 (List.map eQ x0),slc 4 (List.map eQ x1),.v (.func (.func 94) #[] #[])] (slc 4 (List.map eQ r)):=by
 refine ay Tryz.func95 rfl (Nat.le_of_ble_eq_true rfl) (fun cO M vs hvs=>?_)
 unfold jC at h
 refine sr<|RT.uf .none (s:=.sv _) rfl T rfl rfl<|aI rfl (imp_nil (n:=4) (e:=eQ))<|dn<|sr<|mv rfl<|lE h fun iI nh h=>ln rfl nh<|mv rfl<|lE h fun iA gW h=>ln rfl gW<|lE h fun fg jv h=>RT.max .none _ rfl rfl T (Im (p:=iI) (q:=iA) jv)<|bE h fun dR fT h=>RT.wO (e:=eQ) .none rfl rfl T rfl T fT<|RT.alloc .none T rfl rfl<|RT.iH (cells:=[_]) .none rfl rfl rfl rfl T rfl<|dn<|qq<|sr<|mv rfl ?_
 refine mv rfl<|cl (mh x0 x1) ⟨rfl,rfl,trivial⟩<|dn<|ak<|bE h fun jl Tr Ts=>?_
 obtain⟨Mh,Tt,Tu,Tv⟩:=jA Tr
 refine fW (mm x0 x1) (fun _ _ _ _ _=>trivial) rfl (fun k=>AS.bJ 29 [(5,.ptr 5 0),(7,.ptr 7 0),(18,.sv (iC 165 [ref [slc 4 (List.map eQ x0)],ref [slc 4 (List.map eQ x1)]]))] [(7,⟨23,[.row 302]⟩),(5,⟨106,[.sv (.v (.func (.func 94) #[] #[]))]⟩)] [(302,TR 43 4 eQ (Mh k))]) [7,5] rfl (fun _=>⟨rfl,rfl⟩) (om rfl) (fun _=>rfl) (oq rfl) (by(try dsimp only);rw[Tt];(try dsimp only);exact cy (fun i=>bif Nat.beq i 302 then 15 else i) rfl rfl rfl rfl rfl ⟨.ptr,.ptr,.sv (SV.aa _),trivial⟩ ⟨⟨_,rfl,⟨.row rfl,trivial⟩⟩,⟨_,rfl,⟨.sv (SV.aa _),trivial⟩⟩,trivial⟩ ⟨⟨_,rfl,bB.refl _⟩,trivial⟩ (fun i hi=>by rw[bp (show i≠302 by omega)];rfl)) (fun k hk D hD=>?_) ?_
 have h:=Tu k hk
 obtain⟨jl,IG⟩:∃q,Mh k=q:=⟨_,rfl⟩
 rw[IG]at h⊢
 dsimp only[AS.L4,oY]
 try dsimp only at h
 obtain⟨⟨⟨CX,CY⟩,⟨CZ,C0⟩⟩,Lc,h⟩:=bS h
 rw[Option.some.inj Lc]
 obtain⟨⟨⟨C1,C2⟩,⟨C3,C4⟩⟩,CL,h⟩:=bS h
 rw[Option.some.inj CL]
 refine sr<|al (cs:=[.v (.bool false),slc 1 (List.map ah []),.v (.bool false),slc 1 (List.map ah [])]) (by exact⟨SV.aa _,imp_nil,SV.aa _,imp_nil,trivial⟩) rfl<|so rfl rfl rfl<|dn<|af<|al (cs:=[.v (.bool false),slc 1 (List.map ah []),.v (.bool false),slc 1 (List.map ah [])]) (by exact⟨SV.aa _,imp_nil,SV.aa _,imp_nil,trivial⟩) rfl<|so rfl rfl rfl<|RT.done ?_
 refine ae.n ⟨rfl,?_⟩
 dsimp only[AS.yy]
 refine ak<|ai mixed<|RT.c7 .none (s:=.row _) rfl rfl rfl T<|lV rfl rfl rfl<|ld rfl rfl (.cons rfl (.cons rfl (.cons rfl (.cons rfl (.nil)))))<|ld rfl rfl (.cons rfl (.cons rfl (.cons rfl (.cons rfl (.nil))))) ?_
 obtain⟨⟨⟨iL,iB⟩,⟨nU,nV⟩⟩,qc,h⟩:=bS h
 refine cl (IW qc) ⟨rfl,rfl,trivial⟩<|bl (l:=[⟨⟨iL,iB⟩,⟨nU,nV⟩⟩]) (e:=eQ) (.agg rfl (.nil)) rfl rfl rfl rfl rfl rfl<|bE h fun lq oU h=>aR (k:=[⟨⟨iL,iB⟩,⟨nU,nV⟩⟩]) (e:=eQ) rfl rfl rfl oU<|RT.iH (cells:=[_]) .none rfl rfl rfl rfl T rfl ?_
 refine RT.done ⟨by kernel_rfl,?_⟩
 refine aK.n ?_
 replace h:=Option.some.inj h
 refine⟨trivial,rfl,rfl,?_⟩
 try dsimp only
 rw[←h]
 try dsimp only
 exact cy (fun i=>bif Nat.beq i 302 then 27 else i) rfl rfl rfl rfl rfl ⟨.ptr,.ptr,.sv (SV.aa _),trivial⟩ ⟨⟨_,rfl,⟨.row rfl,trivial⟩⟩,⟨_,rfl,⟨.sv (SV.aa _),trivial⟩⟩,trivial⟩ ⟨⟨_,rfl,bB.refl _⟩,trivial⟩ (fun i hi=>by rw[bp (show i≠302 by omega)];rfl)
 rw[Tv]
 try dsimp only
 refine aK.n<|ae.n<|sr<|RT.c7 .none (s:=.row _) rfl rfl rfl T<|an (s:=.row _) rfl<|dn<|bt (dD (i:=302) (E1:=43) (n:=4) (e:=eQ) (l:=jl) rfl)<|aj ?_
 obtain rfl:=O Ts
 exact R1 rfl
theorem xJ{x0:Qr}{x1:Qr}{Ev:Qr}{r:Qr}(h:gY x0 x1 Ev=some r):Pure Tryz.prog 141 [.agg (eQ x0),.agg (eQ x1),ref (eQ Ev)] (.agg (eQ r)):=by
 obtain⟨⟨aC,aD⟩,⟨aM,aN⟩⟩:=x0
 obtain⟨⟨bN,bL⟩,⟨gy,gz⟩⟩:=x1
 obtain⟨⟨Ff,Fg⟩,⟨Fh,Fi⟩⟩:=Ev
 refine ay Tryz.func141 rfl (Nat.le_of_ble_eq_true rfl) (fun cO M vs hvs=>?_)
 unfold gY at h
 refine sr<|bx rfl<|bx rfl<|al (cs:=[.v (.bool false),slc 1 (List.map ah []),.v (.bool false),slc 1 (List.map ah [])]) (by exact⟨SV.aa _,imp_nil,SV.aa _,imp_nil,trivial⟩) rfl<|dn<|qq<|ai mixed<|RT.iW (cs:=[_,_,_,_]) .none rfl T rfl rfl<|ld rfl rfl (.cons rfl (.cons rfl (.cons rfl (.cons rfl (.nil))))) ?_
 obtain⟨⟨⟨wE,wF⟩,⟨Bf,Bg⟩⟩,h8,h⟩:=bS h
 refine cl (AG h8) ⟨rfl,rfl,trivial⟩<|ld rfl rfl (.cons rfl (.cons rfl (.cons rfl (.cons rfl (.nil))))) ?_
 obtain⟨⟨⟨CB,CC⟩,⟨Qv,Qw⟩⟩,gC,h⟩:=bS h
 refine cl (IV gC) ⟨rfl,rfl,trivial⟩<|so rfl rfl rfl ?_
 refine RT.done ⟨by kernel_rfl,?_⟩
 refine ae.n<|aj ?_
 obtain rfl:=O h
 exact RZ (.agg rfl rfl (.cons rfl (.cons rfl (.cons rfl (.cons rfl (.nil))))) rfl (.nil))
theorem yU{x0:List Qr}{x1:List Qr}{GJ:Qr}{r:List Qr}(h:gA x0 x1 GJ=some r):Pure Tryz.prog 95 [slc 4 (List.map eQ x0),slc 4 (List.map eQ x1),iC 141 [ref (eQ GJ)]] (slc 4 (List.map eQ r)):=by
 obtain⟨⟨C5,C6⟩,⟨C7,C8⟩⟩:=GJ
 refine ay Tryz.func95 rfl (Nat.le_of_ble_eq_true rfl) (fun cO M vs hvs=>?_)
 unfold gA at h
 refine sr<|RT.uf .none (s:=.sv _) rfl T rfl rfl<|aI rfl (imp_nil (n:=4) (e:=eQ))<|dn<|sr<|mv rfl<|lE h fun iI nh h=>ln rfl nh<|mv rfl<|lE h fun iA gW h=>ln rfl gW<|lE h fun fg jv h=>RT.max .none _ rfl rfl T (Im (p:=iI) (q:=iA) jv)<|bE h fun dR fT h=>RT.wO (e:=eQ) .none rfl rfl T rfl T fT<|RT.alloc .none T rfl rfl<|RT.iH (cells:=[_]) .none rfl rfl rfl rfl T rfl<|dn<|qq<|sr<|mv rfl ?_
 refine mv rfl<|cl (mh x0 x1) ⟨rfl,rfl,trivial⟩<|dn<|ak<|bE h fun jl Tr Ts=>?_
 obtain⟨Mh,Tt,Tu,Tv⟩:=jA Tr
 refine fW (mm x0 x1) (fun _ _ _ _ _=>trivial) rfl (fun k=>AS.bJ 29 [(5,.ptr 5 0),(7,.ptr 7 0),(18,.sv (iC 165 [ref [slc 4 (List.map eQ x0)],ref [slc 4 (List.map eQ x1)]]))] [(7,⟨23,[.row 302]⟩),(5,⟨106,[.sv (iC 141 [ref [.v (.bool C5),slc 1 (List.map ah C6),.v (.bool C7),slc 1 (List.map ah C8)]])]⟩)] [(302,TR 43 4 eQ (Mh k))]) [7,5] rfl (fun _=>⟨rfl,rfl⟩) (om rfl) (fun _=>rfl) (oq rfl) (by(try dsimp only);rw[Tt];(try dsimp only);exact cy (fun i=>bif Nat.beq i 302 then 15 else i) rfl rfl rfl rfl rfl ⟨.ptr,.ptr,.sv (SV.aa _),trivial⟩ ⟨⟨_,rfl,⟨.row rfl,trivial⟩⟩,⟨_,rfl,⟨.sv (SV.aa _),trivial⟩⟩,trivial⟩ ⟨⟨_,rfl,bB.refl _⟩,trivial⟩ (fun i hi=>by rw[bp (show i≠302 by omega)];rfl)) (fun k hk D hD=>?_) ?_
 have h:=Tu k hk
 obtain⟨jl,IG⟩:∃q,Mh k=q:=⟨_,rfl⟩
 rw[IG]at h⊢
 dsimp only[AS.L4,oY]
 try dsimp only at h
 obtain⟨⟨⟨CX,CY⟩,⟨CZ,C0⟩⟩,Lc,h⟩:=bS h
 rw[Option.some.inj Lc]
 obtain⟨⟨⟨C1,C2⟩,⟨C3,C4⟩⟩,CL,h⟩:=bS h
 rw[Option.some.inj CL]
 refine sr<|al (cs:=[.v (.bool false),slc 1 (List.map ah []),.v (.bool false),slc 1 (List.map ah [])]) (by exact⟨SV.aa _,imp_nil,SV.aa _,imp_nil,trivial⟩) rfl<|so rfl rfl rfl<|dn<|af<|al (cs:=[.v (.bool false),slc 1 (List.map ah []),.v (.bool false),slc 1 (List.map ah [])]) (by exact⟨SV.aa _,imp_nil,SV.aa _,imp_nil,trivial⟩) rfl<|so rfl rfl rfl<|RT.done ?_
 refine ae.n ⟨rfl,?_⟩
 dsimp only[AS.yy]
 refine ak<|ai mixed<|RT.c7 .none (s:=.row _) rfl rfl rfl T<|lV rfl rfl rfl<|ld rfl rfl (.cons rfl (.cons rfl (.cons rfl (.cons rfl (.nil)))))<|ld rfl rfl (.cons rfl (.cons rfl (.cons rfl (.cons rfl (.nil))))) ?_
 obtain⟨⟨⟨iL,iB⟩,⟨nU,nV⟩⟩,qc,h⟩:=bS h
 refine RT.Vd (args:=[_,_]) (caps:=[_]) .none (xJ qc) rfl ⟨rfl,rfl,trivial⟩ T<|bl (l:=[⟨⟨iL,iB⟩,⟨nU,nV⟩⟩]) (e:=eQ) (.agg rfl (.nil)) rfl rfl rfl rfl rfl rfl<|bE h fun lq oU h=>aR (k:=[⟨⟨iL,iB⟩,⟨nU,nV⟩⟩]) (e:=eQ) rfl rfl rfl oU<|RT.iH (cells:=[_]) .none rfl rfl rfl rfl T rfl ?_
 refine RT.done ⟨by kernel_rfl,?_⟩
 refine aK.n ?_
 replace h:=Option.some.inj h
 refine⟨trivial,rfl,rfl,?_⟩
 try dsimp only
 rw[←h]
 try dsimp only
 exact cy (fun i=>bif Nat.beq i 302 then 27 else i) rfl rfl rfl rfl rfl ⟨.ptr,.ptr,.sv (SV.aa _),trivial⟩ ⟨⟨_,rfl,⟨.row rfl,trivial⟩⟩,⟨_,rfl,⟨.sv (SV.aa _),trivial⟩⟩,trivial⟩ ⟨⟨_,rfl,bB.refl _⟩,trivial⟩ (fun i hi=>by rw[bp (show i≠302 by omega)];rfl)
 rw[Tv]
 try dsimp only
 refine aK.n<|ae.n<|sr<|RT.c7 .none (s:=.row _) rfl rfl rfl T<|an (s:=.row _) rfl<|dn<|bt (dD (i:=302) (E1:=43) (n:=4) (e:=eQ) (l:=jl) rfl)<|aj ?_
 obtain rfl:=O Ts
 exact R1 rfl
theorem Ld{x0:List Qr}{x1:List Qr}{r:List Qr}(h:nj x0 x1=some r):Pure Tryz.prog 50 [slc 4 (List.map eQ x0),slc 4 (List.map eQ x1)] (slc 4 (List.map eQ r)):=by
 refine ay Tryz.func50 rfl (Nat.le_of_ble_eq_true rfl) (fun cO M vs hvs=>?_)
 unfold nj at h
 refine sr<|aI rfl (imp_nil (n:=4) (e:=eQ))<|dn<|sr<|mv rfl<|mv rfl<|bE h fun x7 h7 h=>cl (De h7) ⟨rfl,rfl,rfl,trivial⟩<|ag rfl<|dn<|aj ?_
 obtain rfl:=O h
 exact R1 rfl
theorem GK{x0:Qr}{x1:List Qr}{r:List Qr}(h:nW x0 x1=some r):Pure Tryz.prog 40 [.agg (eQ x0),slc 4 (List.map eQ x1)] (slc 4 (List.map eQ r)):=by
 obtain⟨⟨aC,aD⟩,⟨aM,aN⟩⟩:=x0
 refine ay Tryz.func40 rfl (Nat.le_of_ble_eq_true rfl) (fun cO M vs hvs=>?_)
 unfold nW at h
 refine sr<|bx rfl<|aI rfl (imp_nil (n:=4) (e:=eQ))<|dn<|sr<|mv rfl<|lE h fun x9 h9 h=>ln rfl h9<|bE h fun ek gC h=>RT.kW (n:=4) (e:=eQ) .none rfl rfl T rfl T (by rfl) (by decide) (by exact⟨SV.aa _,imp_nil,SV.aa _,imp_nil,trivial⟩) gC<|an (s:=.row _) rfl<|dn<|qq<|sr<|mv rfl<|lE h fun dW fj h=>ln rfl fj<|mv rfl<|dn<|bE h fun e8 Gr yM=>?_
 refine aT (fun(C9:(List Qr))=>AS.bJ 26 [(5,.row 10)] [] [(10,TR 43 4 eQ C9)]) (fun C9=>C9=e8) ?_ (fun C9 Gs=>?_)
 refine ak ?_
 refine aU Gr (fun s8=>AS.bJ 26 [(2,.ptr 2 0),(5,.row 10),(11,.sv (slc 4 (List.map eQ x1))),(12,.sv (.v (.int .i64 dW))),(13,.sv (.v (.int .i64 s8.1)))] [(2,⟨43,[.sv (.v (.bool aC)),.sv (slc 1 (List.map ah aD)),.sv (.v (.bool aM)),.sv (slc 1 (List.map ah aN))]⟩)] [(10,TR 43 4 eQ s8.2)]) (wR []) (fun s8 y8 G8 h Gt Gu=>?_)
 obtain⟨I0,I1⟩:=s8
 try dsimp only
 refine sr<|lE h fun fg jv h=>ls _ rfl rfl jv<|dn<|qq ?_
 cases fg
 refine cF<|bf<|ae.x<|ae.x<|aK.x<|ae.n ?_
 obtain rfl:=O (F h)
 exact⟨I1,Gu _ rfl,wR []⟩
 refine cT<|aH<|ae.n<|qq<|ak<|sr<|mv rfl ?_
 obtain⟨⟨⟨nP,nQ⟩,⟨Vv,Vw⟩⟩,kX,h⟩:=bS (V h)
 refine ix rfl rfl kX<|RT.iW (cs:=[_,_,_,_]) .none rfl T rfl rfl<|al (cs:=[.v (.bool false),slc 1 (List.map ah []),.v (.bool false),slc 1 (List.map ah [])]) (by exact⟨SV.aa _,imp_nil,SV.aa _,imp_nil,trivial⟩) rfl<|ag rfl<|so rfl rfl rfl<|dn<|af<|mo (s:=.row _) rfl<|mv rfl<|ld rfl rfl (.cons rfl (.cons rfl (.cons rfl (.cons rfl (.nil)))))<|ld rfl rfl (.cons rfl (.cons rfl (.cons rfl (.cons rfl (.nil))))) ?_
 obtain⟨⟨⟨yQ,yR⟩,⟨yS,yT⟩⟩,nS,h⟩:=bS h
 refine cl (AG nS) ⟨rfl,rfl,trivial⟩<|bE h fun jJ qb h=>iR rfl rfl rfl qb<|bE h fun yC pg h=>sA ⟨⟨yQ,yR⟩,⟨yS,yT⟩⟩ rfl rfl rfl pg<|RT.done<|aK.n<|ae.n<|af<|lE h fun ir mP h=>ad _ rfl rfl mP<|mv rfl<|RT.done ?_
 obtain rfl:=O h
 exact ae.n ⟨(ir,yC),Gt _ rfl,wR []⟩
 subst Gs
 try dsimp only
 refine ae.n<|sr<|mo (s:=.row _) rfl<|an (s:=.row _) rfl<|dn<|bt (dD (i:=10) (E1:=43) (n:=4) (e:=eQ) (l:=C9) rfl)<|aj ?_
 obtain rfl:=O yM
 exact R1 rfl
theorem rQ{x0:Qr}{x1:List Qr}{x2:List Qr}{r:List Qr}(h:eO x0 x1 x2=some r):Pure Tryz.prog 96 [.agg (eQ x0),slc 4 (List.map eQ x1),slc 4 (List.map eQ x2)] (slc 4 (List.map eQ r)):=by
 obtain⟨⟨aC,aD⟩,⟨aM,aN⟩⟩:=x0
 refine ay Tryz.func96 rfl (Nat.le_of_ble_eq_true rfl) (fun cO M vs hvs=>?_)
 unfold eO at h
 refine sr<|bx rfl<|aI rfl (imp_nil (n:=4) (e:=eQ))<|dn ?_
 refine bt (gw (i:=3) rfl [.v (.bool aC),slc 1 (List.map ah aD),.v (.bool aM),slc 1 (List.map ah aN)] (.cons rfl (.cons rfl (.cons rfl (.cons rfl (.nil))))) .any 0 [(3,.sv (ref [.v (.bool aC),slc 1 (List.map ah aD),.v (.bool aM),slc 1 (List.map ah aN)]))] (fun _ _ _=>trivial) (qN.h (l:=[.v (.bool aC),slc 1 (List.map ah aD),.v (.bool aM),slc 1 (List.map ah aN)])) ⟨@FT.ptr _ _ _ _ _ 3 0 rfl,trivial⟩)<|sr<|mv rfl<|mv rfl<|RT.vR (caps:=[_]) .none ⟨rfl,trivial⟩ T<|bE h fun ek gC h=>?_
 refine cl (yU gC) ⟨rfl,rfl,rfl,trivial⟩<|ag rfl<|dn<|aj ?_
 obtain rfl:=O h
 exact R1 rfl
theorem uW{x0:List Qr}{x1:List Qr}{r:Int}(h:jD x0 x1=some r):Pure Tryz.prog 88 [slc 4 (List.map eQ x0),slc 4 (List.map eQ x1)] (.v (.int .i64 r)):=by
 refine ay Tryz.func88 rfl (Nat.le_of_ble_eq_true rfl) (fun cO M vs hvs=>?_)
 unfold jD at h
 refine sr<|al (cs:=[.v (.int .i64 0)]) (by exact⟨SV.aa _,trivial⟩) rfl<|dn<|qq<|sr<|mv rfl<|mv rfl<|cl (mh x0 x1) ⟨rfl,rfl,trivial⟩<|dn<|ak<|bE h fun e3 S6 Qx=>?_
 obtain⟨m3,st3,hs3,ht3,hn3⟩:=zO S6
 refine nB (mm x0 x1) (fun _ _ _ _ _=>trivial) rfl (fun k=>AS.bJ 19 [(4,.ptr 4 0),(10,.sv (iC 165 [ref [slc 4 (List.map eQ x0)],ref [slc 4 (List.map eQ x1)]]))] [(4,⟨3,[.sv (.v (.int .i64 0))]⟩)] []) [4] rfl (fun _=>⟨rfl,rfl⟩) (om rfl) (fun _=>rfl) (oq rfl) (by(try dsimp only);(try dsimp only);exact cy id rfl rfl rfl rfl rfl ⟨.ptr,.sv (SV.aa _),trivial⟩ ⟨⟨_,rfl,⟨.sv (SV.aa _),trivial⟩⟩,trivial⟩ trivial (fun _ _=>rfl)) m3 (fun k hk hkm D hD=>?_) (fun hdn=>?_)
 obtain⟨y3,h,hG3,hE3⟩:=ht3 k hk hkm
 dsimp only[AS.L4,oY]
 try dsimp only at h
 obtain⟨⟨⟨Vx,Vy⟩,⟨Vz,VA⟩⟩,Yk,h⟩:=bS h
 rw[Option.some.inj Yk]
 obtain⟨⟨⟨VB,VC⟩,⟨VD,VE⟩⟩,agL,h⟩:=bS h
 rw[Option.some.inj agL]
 refine sr<|al (cs:=[.v (.bool false),slc 1 (List.map ah []),.v (.bool false),slc 1 (List.map ah [])]) (by exact⟨SV.aa _,imp_nil,SV.aa _,imp_nil,trivial⟩) rfl<|so rfl rfl rfl<|dn<|af<|al (cs:=[.v (.bool false),slc 1 (List.map ah []),.v (.bool false),slc 1 (List.map ah [])]) (by exact⟨SV.aa _,imp_nil,SV.aa _,imp_nil,trivial⟩) rfl<|so rfl rfl rfl<|RT.done ?_
 refine ae.n ⟨rfl,?_⟩
 dsimp only[AS.yy]
 refine ak<|sr<|ld rfl rfl (.cons rfl (.cons rfl (.cons rfl (.cons rfl (.nil)))))<|ld rfl rfl (.cons rfl (.cons rfl (.cons rfl (.cons rfl (.nil)))))<|bE h fun dR fT h=>cl (IZ fT) ⟨rfl,rfl,trivial⟩<|ag rfl<|dn<|sr<|mv rfl<|lE h fun gx lH h=>ne _ rfl rfl (F6 (p:=dR) (q:=0) lH)<|dn ?_
 cases gx
 refine cF<|aH<|aK.n ?_
 obtain rfl:=O (F h)
 obtain⟨hm3,hq3⟩:=hG3 _ rfl
 exact⟨hm3,rfl,rfl,wR []⟩
 refine cT<|sr<|mv rfl<|RT.oh (cells:=[_]) .none (s:=.sv _) rfl rfl rfl T rfl<|dn<|aj<|aK.r ?_
 obtain rfl:=O (V h)
 have he3:=hE3 _ rfl
 subst he3
 refine⟨rfl,rfl,?_⟩
 refine aK.r<|ae.r ?_
 obtain rfl:=O Qx
 exact RZ (.one rfl rfl rfl (.nil))
 have hd3:=hn3 hdn
 subst hd3
 obtain⟨ee3,Qy⟩:∃q,st3 (max x0.length x1.length)=q:=⟨_,rfl⟩
 rw[Qy]at Qx
 try dsimp only
 refine aK.n<|ae.n<|sr<|RT.oh (cells:=[_]) .none (s:=.sv _) rfl rfl rfl T rfl<|dn<|aj ?_
 obtain rfl:=O Qx
 exact RZ (.one rfl rfl rfl (.nil))
theorem I6{x0:List Qr}{r:Int}(h:pD x0=some r):Pure Tryz.prog 91 [slc 4 (List.map eQ x0)] (.v (.int .i64 r)):=by
 refine ay Tryz.func91 rfl (Nat.le_of_ble_eq_true rfl) (fun cO M vs hvs=>?_)
 unfold pD at h
 refine sr<|ag rfl<|dn<|sr<|mv rfl<|bE h fun x4 h4 h=>cl ((uW h4).w (args':=[_,_]) ⟨(SV.aa _),imp_nil,trivial⟩) ⟨rfl,rfl,trivial⟩<|ag rfl<|dn<|aj ?_
 obtain rfl:=O h
 exact R1 rfl
theorem fk{x0:List Qr}{x1:List Qr}{r:Bool}(h:cK x0 x1=some r):Pure Tryz.prog 37 [slc 4 (List.map eQ x0),slc 4 (List.map eQ x1)] (.v (.bool r)):=by
 refine ay Tryz.func37 rfl (Nat.le_of_ble_eq_true rfl) (fun cO M vs hvs=>?_)
 unfold cK at h
 refine sr<|ag rfl<|dn<|sr<|mv rfl<|mv rfl<|bE h fun x7 h7 h=>cl (uW h7) ⟨rfl,rfl,trivial⟩<|lE h fun x8 h8 h=>eq _ rfl rfl (ua (p:=x7) (q:=0) h8)<|ag rfl<|dn<|aj ?_
 obtain rfl:=O h
 exact R1 rfl
theorem wV{x0:List Qr}{x1:Int}{r:List Qr}(h:fY x0 x1=some r):Pure Tryz.prog 47 [slc 4 (List.map eQ x0),.v (.int .i64 x1)] (slc 4 (List.map eQ r)):=by
 refine ay Tryz.func47 rfl (Nat.le_of_ble_eq_true rfl) (fun cO M vs hvs=>?_)
 unfold fY at h
 refine sr<|aI rfl (imp_nil (n:=4) (e:=eQ))<|dn<|qq<|sr<|mv rfl<|lE h fun x8 h8 h=>ls _ rfl rfl h8<|dn ?_
 cases x8
 refine fs<|sr<|mv rfl<|lE (F h) fun ek gC h=>RT.min .none _ rfl rfl T (O2 (p:=x1) (q:=65536) gC)<|bE h fun iI nh h=>RT.kW (n:=4) (e:=eQ) .none rfl rfl T rfl T (by rfl) (by decide) (by exact⟨SV.aa _,imp_nil,SV.aa _,imp_nil,trivial⟩) nh<|an (s:=.row _) rfl<|dn<|qq<|sr<|mv rfl<|lE h fun iA gW h=>ln rfl gW<|mo (s:=.row _) rfl<|lE h fun dR fT h=>lL rfl rfl fT<|lE h fun iY kX h=>?_
 refine RT.min .none _ rfl rfl T (O2 (p:=iA) (q:=dR) kX)<|mv rfl<|dn<|bE h fun e8 Gr yM=>?_
 refine aT (fun(rP:(List Qr))=>AS.bJ 30 [(5,.row 11)] [] [(11,TR 43 4 eQ rP)]) (fun rP=>rP=e8) ?_ (fun rP Gs=>?_)
 refine ak ?_
 refine aU Gr (fun s8=>AS.bJ 30 [(0,.sv (slc 4 (List.map eQ x0))),(5,.row 11),(16,.sv (.v (.int .i64 iY))),(17,.sv (.v (.int .i64 s8.1)))] [] [(11,TR 43 4 eQ s8.2)]) (wR []) (fun s8 y8 G8 h Gt Gu=>?_)
 obtain⟨Fj,Da⟩:=s8
 try dsimp only
 refine sr<|lE h fun fF iM h=>ls _ rfl rfl iM<|dn<|qq ?_
 cases fF
 refine cF<|bf<|ae.x<|ae.x<|aK.x<|ae.n ?_
 obtain rfl:=O (F h)
 exact⟨Da,Gu _ rfl,wR []⟩
 refine cT<|aH<|ae.n<|qq<|ak<|sr<|mv rfl<|ag rfl<|dn<|af<|mo (s:=.row _) rfl<|mv rfl<|mv rfl<|mv rfl ?_
 obtain⟨⟨⟨rL,rM⟩,⟨rN,rO⟩⟩,mP,h⟩:=bS (V h)
 refine ix rfl rfl mP<|RT.iW (cs:=[_,_,_,_]) .none rfl T rfl rfl ?_
 obtain⟨⟨⟨I2,I3⟩,⟨I4,I5⟩⟩,oQ,h⟩:=bS h
 refine cl (gX oQ) ⟨rfl,trivial⟩<|bE h fun lq oU h=>iR rfl rfl rfl oU<|bE h fun yC pg h=>sA ⟨⟨I2,I3⟩,⟨I4,I5⟩⟩ rfl rfl rfl pg<|RT.done<|aK.n<|ae.n<|af<|lE h fun oM sS h=>ad _ rfl rfl sS<|mv rfl<|RT.done ?_
 obtain rfl:=O h
 exact ae.n ⟨(oM,yC),Gt _ rfl,wR []⟩
 subst Gs
 try dsimp only
 refine ae.n<|sr<|mo (s:=.row _) rfl<|an (s:=.row _) rfl<|dn<|bt (dD (i:=11) (E1:=43) (n:=4) (e:=eQ) (l:=rP) rfl)<|aj ?_
 obtain rfl:=O yM
 exact R1 rfl
 refine cT<|sr<|aI rfl (imp_nil (n:=4) (e:=eQ))<|dn<|aj<|ae.r ?_
 obtain rfl:=O (V h)
 exact R1 rfl
theorem dP{x0:List Int}{r:List Qr}(h:cG x0=some r):Pure Tryz.prog 54 [slc 1 (List.map bj x0)] (slc 4 (List.map eQ r)):=by
 refine ay Tryz.func54 rfl (Nat.le_of_ble_eq_true rfl) (fun cO M vs hvs=>?_)
 unfold cG at h
 refine sr<|aI rfl (imp_nil (n:=4) (e:=eQ))<|dn<|sr<|mv rfl<|lE h fun x7 h7 h=>ln rfl h7<|bE h fun x8 h8 h=>RT.kW (n:=4) (e:=eQ) .none rfl rfl T rfl T (by rfl) (by decide) (by exact⟨SV.aa _,imp_nil,SV.aa _,imp_nil,trivial⟩) h8<|an (s:=.row _) rfl<|dn<|qq<|sr<|mv rfl<|lE h fun ek gC h=>ln rfl gC<|mv rfl<|dn<|bE h fun e8 Gr yM=>?_
 refine aT (fun(xI:(List Qr))=>AS.bJ 23 [(3,.row 8)] [] [(8,TR 43 4 eQ xI)]) (fun xI=>xI=e8) ?_ (fun xI Gs=>?_)
 refine ak ?_
 refine aU Gr (fun s8=>AS.bJ 23 [(3,.row 8),(9,.sv (slc 1 (List.map bj x0))),(10,.sv (.v (.int .i64 ek))),(11,.sv (.v (.int .i64 s8.1)))] [] [(8,TR 43 4 eQ s8.2)]) (wR []) (fun s8 y8 G8 h Gt Gu=>?_)
 obtain⟨uV,Db⟩:=s8
 try dsimp only
 refine sr<|lE h fun dW fj h=>ls _ rfl rfl fj<|dn<|qq ?_
 cases dW
 refine cF<|bf<|ae.x<|ae.x<|aK.x<|ae.n ?_
 obtain rfl:=O (F h)
 exact⟨Db,Gu _ rfl,wR []⟩
 refine cT<|aH<|ae.n<|qq<|ak<|sr<|mv rfl<|bE (V h) fun fg jv h=>ix rfl rfl jv<|lr rfl rfl<|ag rfl<|ag rfl<|dn<|af<|mo (s:=.row _) rfl<|mv rfl<|mv rfl ?_
 obtain⟨⟨⟨mU,mW⟩,⟨Dc,Dd⟩⟩,kJ,h⟩:=bS h
 refine cl (jU kJ) ⟨rfl,trivial⟩<|bE h fun gO lW h=>iR rfl rfl rfl lW<|bE h fun yC pg h=>sA ⟨⟨mU,mW⟩,⟨Dc,Dd⟩⟩ rfl rfl rfl pg<|RT.done<|aK.n<|ae.n<|af<|lE h fun ik ni h=>ad _ rfl rfl ni<|mv rfl<|RT.done ?_
 obtain rfl:=O h
 exact ae.n ⟨(ik,yC),Gt _ rfl,wR []⟩
 subst Gs
 try dsimp only
 refine ae.n<|sr<|mo (s:=.row _) rfl<|an (s:=.row _) rfl<|dn<|bt (dD (i:=8) (E1:=43) (n:=4) (e:=eQ) (l:=xI) rfl)<|aj ?_
 obtain rfl:=O yM
 exact R1 rfl
end Go.Proofs.YtningmnklfpfjaaGreat
namespace Go.Proofs.YtningmnklfpfjaaGreat
open Go.Fw
noncomputable def nk(x0:List (List Qr))(x1:Int):Option (List Qr):=b9 (fun(Qz:Bool)=>(bif Qz then some []else(cz x0 x1).bind fun dR=>some dR)) fun K3=>(some (decide ((x1:Int)<0))).bind fun x6=>(bif x6 then some true else(some (x0.length:Int)).bind fun ek=>(some (decide ((ek:Int)≤x1))).bind fun iI=>some iI).bind fun VF=>K3 VF
noncomputable def nm(x0:List (List Qr)):Option (Int):=(some (x0.length:Int)).bind fun x7=>(bQ (fun(s6:Int×Int)=>match s6 with|⟨qR,Tw⟩=>(show Option ((Int×Int)⊕(Int))from(some (decide ((Tw:Int)<x7))).bind fun x9=>(bif x9 then(cz x0 Tw).bind fun ek=>(some (ek.length:Int)).bind fun fg=>(some (max (qR:Int) fg)).bind fun dR=>(some (IntKind.i64.wrap (Tw+1))).bind fun iY=>some (.inl (dR,iY))else some (.inr qR)))) (0,0)).bind fun z8=>some z8
noncomputable def uX(x0:List (List Qr))(x1:Int)(x2:Int):Option (Qr):=(nk x0 x1).bind fun ek=>b9 (fun(QA:Bool)=>(bif QA then some ⟨⟨false,[]⟩,⟨false,[]⟩⟩else(cz ek x2).bind fun⟨⟨yQ,yR⟩,⟨yS,yT⟩⟩=>(cj ⟨⟨yQ,yR⟩,⟨yS,yT⟩⟩).bind fun⟨⟨rL,rM⟩,⟨rN,rO⟩⟩=>some ⟨⟨rL,rM⟩,⟨rN,rO⟩⟩)) fun K3=>(some (decide ((x2:Int)<0))).bind fun dW=>(bif dW then some true else(some (ek.length:Int)).bind fun iY=>(some (decide ((iY:Int)≤x2))).bind fun gx=>some gx).bind fun VG=>K3 VG
noncomputable def eP(x0:List (List Qr))(x1:List (List Qr)):Option (Bool):=(ou (fun(k:Nat) (s3:Unit)=>(show Option ((Unit)⊕(Bool))from(some (x0.getD k [])).bind fun p10=>(some (x1.getD k [])).bind fun p11=>(cK p10 p11).bind fun fg=>(some (!fg)).bind fun dR=>(bif dR then some (.inr false)else some (.inl ())))) (max x0.length x1.length) ()).bind fun e3=>match e3 with|.inr v3=>some v3|.inl _=>some true
noncomputable def iO(x0:List (List Int)):Option (List (List Qr)):=(some (x0.length:Int)).bind fun x7=>(D4 24 x7 ([]:List Qr)).bind fun x8=>(some (x0.length:Int)).bind fun ek=>(bQ (fun(s8:Int×(List (List Qr)))=>match s8 with|⟨uV,Db⟩=>(show Option ((Int×(List (List Qr)))⊕((List (List Qr))))from(some (decide ((uV:Int)<ek))).bind fun dW=>(bif dW then(cz x0 uV).bind fun fg=>(cG fg).bind fun kS=>(kQ Db uV).bind fun gO=>(stM Db gO kS).bind fun yC=>(some (IntKind.i64.wrap (uV+1))).bind fun ik=>some (.inl (ik,yC))else some (.inr Db)))) (0,x8)).bind fun xI=>some xI
end Go.Proofs.YtningmnklfpfjaaGreat
namespace Go.Proofs.YtningmnklfpfjaaGreat
open Go.Fw Go.Fw.Z Go.RowKit
theorem xK{x0:List (List Qr)}{x1:Int}{r:List Qr}(h:nk x0 x1=some r):Pure Tryz.prog 139 [slc 1 (List.map (eS 4 eQ) x0),.v (.int .i64 x1)] (slc 4 (List.map eQ r)):=by
 refine ay Tryz.func139 rfl (Nat.le_of_ble_eq_true rfl) (fun cO M vs hvs=>?_)
 unfold nk at h
 refine sr<|aI rfl (imp_nil (n:=4) (e:=eQ))<|dn<|qq<|qq ?_
 refine aF h (fun j3=>AS.bJ 17 [(0,.sv (slc 1 (List.map (eS 4 eQ) x0))),(1,.sv (.v (.int .i64 x1))),(12,.sv (.v (.bool j3)))] [] []) (fun h=>?_) (fun Qz h=>?_)
 refine af<|mv rfl<|lE h fun x6 h6 h=>ls _ rfl rfl h6<|mv rfl<|bE h fun VF nC h=>?_
 cases x6
 refine gm rfl<|gm rfl<|lE (F nC) fun ek gC nC=>gn rfl gC<|lE nC fun iI nh nC=>RT.geq (.some rfl rfl) _ rfl rfl T nh ?_
 obtain rfl:=O nC
 exact pF rfl<|dn<|⟨iI,h,wR []⟩
 obtain rfl:=O (V nC)
 exact ww<|ww<|ww<|ww<|pT rfl<|dn<|⟨true,h,wR []⟩
 try dsimp only
 refine ae.n ?_
 cases Qz
 refine fs<|sr<|mv rfl<|mv rfl<|bE (F h) fun dR fT h=>ix rfl rfl fT<|lr rfl rfl<|ag rfl<|dn<|aj ?_
 obtain rfl:=O h
 exact R1 rfl
 refine cT<|sr<|aI rfl (imp_nil (n:=4) (e:=eQ))<|dn<|aj<|ae.r ?_
 obtain rfl:=O (V h)
 exact R1 rfl
theorem Df(a:List (List Qr))(i:Nat):nk a (i:Int)=some (a.getD i []):=by
 unfold nk
 unfold b9
 by_cases h:i<a.length
 simp[cz,h,show ¬((i:Int)<0) by omega,show ¬((a.length:Int)≤(i:Int)) by omega,List.getD]
 simp[h,show ¬((i:Int)<0) by omega,show((a.length:Int)≤(i:Int)) by omega,iX (Nat.not_lt.1 h)]
theorem Bh(a b:List (List Qr)):Pure Tryz.prog 92 [(slc 1 (List.map (eS 4 eQ) a)),(slc 1 (List.map (eS 4 eQ) b))] (iC 138 [ref [(slc 1 (List.map (eS 4 eQ) a))],ref [(slc 1 (List.map (eS 4 eQ) b))]]):=by
 refine ay Tryz.func92 rfl (Nat.le_of_ble_eq_true rfl) (fun cO M vs hvs=>?_)
 refine sr<|RT.uf .none (s:=.sv _) rfl T rfl rfl<|RT.uf .none (s:=.sv _) rfl T rfl rfl<|ag rfl<|dn<|sr<|RT.makeFunc .none (.box rfl (.box rfl (.nil))) T<|an (s:=.eU _ _) rfl<|dn<|bt (gw (i:=2) rfl [(slc 1 (List.map (eS 4 eQ) a))] (.cons rfl .nil) .any 0 [(4,.eU 138 [.val (ref [(slc 1 (List.map (eS 4 eQ) a))]),.box 3])] (fun _ _ _=>trivial) (qN.h (l:=[(slc 1 (List.map (eS 4 eQ) a))])) ⟨@FT.eU _ _ _ _ _ 4 138 [.box 2,.box 3] rfl,trivial⟩) ?_
 exact bt (gw (i:=3) rfl [(slc 1 (List.map (eS 4 eQ) b))] (.cons rfl .nil) .any 0 [(4,.eU 138 [.val (ref [(slc 1 (List.map (eS 4 eQ) a))]),.val (ref [(slc 1 (List.map (eS 4 eQ) b))])])] (fun _ _ _=>trivial) (qN.h (l:=[(slc 1 (List.map (eS 4 eQ) b))])) ⟨@FT.eU _ _ _ _ _ 4 138 [.val (ref [(slc 1 (List.map (eS 4 eQ) a))]),.box 3] rfl,trivial⟩)<|bt (F3 4 (iC 138 [ref [(slc 1 (List.map (eS 4 eQ) a))],ref [(slc 1 (List.map (eS 4 eQ) b))]]) (fun _ _ h=>F4 h))<|aj<|⟨.inr rfl,FZ (.tmp rfl (.nil)) rfl⟩
theorem Bi(a b:List (List Qr)):Iter Tryz.prog 138 [ref [(slc 1 (List.map (eS 4 eQ) a))],ref [(slc 1 (List.map (eS 4 eQ) b))]] (max a.length b.length) (fun k=>[(slc 4 (List.map eQ (a.getD k []))),(slc 4 (List.map eQ (b.getD k [])))]):=by
 refine sD Tryz.func138 rfl rfl (Nat.le_of_ble_eq_true rfl) (fun cO M O l J hJ yg hr=>?_)
 obtain⟨oK,yg⟩:=yg
 have hla:a.length≤9223372036854775807:=by cases oK with|nil=>exact yg.elim|cons _ oK=>exact vO yg.1
 have hlb:b.length≤9223372036854775807:=by cases oK with|nil=>exact yg.elim|cons _ oK=>cases oK with|nil=>exact yg.2.elim|cons _ _=>exact vO yg.2.1
 refine aS ?_
 refine af ?_
 refine RT.di .none rfl rfl (tl rfl) ?_
 refine RT.len .none rfl (tl rfl) ?_
 refine RT.di .none rfl rfl (tl rfl) ?_
 refine RT.len .none rfl (tl rfl) ?_
 refine RT.max .none (((max a.length b.length:Nat):Int)) rfl rfl (tl rfl) (by simp only[List.length_map];split<;>omega) ?_
 refine RT.mv .none rfl (tl rfl) ?_
 refine RT.done ?_
 refine ae.n ?_
 refine ak ?_
 refine ym (I:=fun x:{i:Nat//i≤max a.length b.length}=>AS.bJ 23 [(0,.sv (.v (.func (.yield l) #[] #[]))),(1,.sv (ref [(slc 1 (List.map (eS 4 eQ) a))])),(2,.sv (ref [(slc 1 (List.map (eS 4 eQ) b))])),(9,.sv (.v (.int .i64 ((max a.length b.length:Nat):Int)))),(10,.sv (.v (.int .i64 ((x.1:Nat):Int))))] [] [] (x.1)) (μ:=fun x=>max a.length b.length-x.1) ⟨0,by omega⟩ (by(try dsimp only);exact cy id rfl rfl rfl rfl rfl ⟨.sv (by first|exact SV.aa _|exact SV.au (by omega)|exact SV.au (by push_cast;omega)|exact SV.au (by dsimp only;omega)|exact SV.imp_eq (by simp)),.sv (by first|exact SV.aa _|exact SV.au (by omega)|exact SV.au (by push_cast;omega)|exact SV.au (by dsimp only;omega)|exact SV.imp_eq (by simp)),.sv (by first|exact SV.aa _|exact SV.au (by omega)|exact SV.au (by push_cast;omega)|exact SV.au (by dsimp only;omega)|exact SV.imp_eq (by simp)),.sv (by first|exact SV.aa _|exact SV.au (by omega)|exact SV.au (by push_cast;omega)|exact SV.au (by dsimp only;omega)|exact SV.imp_eq (by simp)),.sv (by first|exact SV.aa _|exact SV.au (by omega)|exact SV.au (by push_cast;omega)|exact SV.au (by dsimp only;omega)|exact SV.imp_eq (by simp)),trivial⟩ trivial trivial (fun _ _=>rfl)) ?_
 rintro⟨i,Vc⟩
 try dsimp only
 rcases Nat.lt_or_eq_of_le Vc with hi|hi
 ·
  refine aS ?_
  refine af ?_
  refine RT.lss .none (true) rfl rfl (tl rfl) (by simp;omega) ?_
  refine RT.done ?_
  refine ae.n ?_
  refine aS ?_
  refine cU rfl ?_
  refine aH ?_
  refine ae.n ?_
  refine aS ?_
  refine ak ?_
  refine aS ?_
  refine af ?_
  refine RT.mv .none rfl (tl rfl) ?_
  refine RT.EP .none rfl (tl rfl) ?_
  refine RT.done ?_
  refine ae.n ?_
  refine aS ?_
  refine Cp 7 mixed ?_
  refine RT.mv .none rfl (tl rfl) ?_
  refine RT.di .none rfl rfl (tl rfl) ?_
  refine RT.mv .none rfl (tl rfl) ?_
  refine RT.call .none (xK (Df a i)) rfl ⟨rfl,rfl,trivial⟩ (tl rfl) ?_
  refine RT.di .none rfl rfl (tl rfl) ?_
  refine RT.mv .none rfl (tl rfl) ?_
  refine RT.call .none (xK (Df b i)) rfl ⟨rfl,rfl,trivial⟩ (tl rfl) ?_
  refine RT.done ⟨by kernel_rfl,?_⟩
  refine RT.yield .none hr rfl (fun _ h=>h) rfl (i) rfl rfl hi (by exact⟨rfl,rfl,trivial⟩) (tl rfl) (fun yb=>?_)
  cases yb
  ·
   refine RT.not .none rfl (tl rfl) true rfl ?_
   refine RT.done ?_
   refine ae.n ?_
   refine cU rfl ?_
   refine aj ?_
   refine aK.r ?_
   refine ae.r ?_
   refine ae.r ?_
   refine aK.r ?_
   exact⟨.inr rfl,(fun h=>by cases h)⟩
  ·
   refine RT.not .none rfl (tl rfl) false rfl ?_
   refine RT.done ?_
   refine ae.n ?_
   refine eV rfl ?_
   refine aH ?_
   refine aK.n ?_
   refine ae.n ?_
   refine af ?_
   refine RT.add .none (((i:Nat):Int)+1) rfl rfl (tl rfl) (mZ (by omega)) ?_
   refine RT.mv .none rfl (tl rfl) ?_
   refine RT.done ?_
   refine ae.n ?_
   refine⟨⟨i+1,by omega⟩,(by dsimp only;omega),?_⟩
   try dsimp only
   exact cy id rfl rfl rfl rfl rfl ⟨.sv (by first|exact SV.aa _|exact SV.au (by omega)|exact SV.au (by push_cast;omega)|exact SV.au (by dsimp only;omega)|exact SV.imp_eq (by simp)),.sv (by first|exact SV.aa _|exact SV.au (by omega)|exact SV.au (by push_cast;omega)|exact SV.au (by dsimp only;omega)|exact SV.imp_eq (by simp)),.sv (by first|exact SV.aa _|exact SV.au (by omega)|exact SV.au (by push_cast;omega)|exact SV.au (by dsimp only;omega)|exact SV.imp_eq (by simp)),.sv (by first|exact SV.aa _|exact SV.au (by omega)|exact SV.au (by push_cast;omega)|exact SV.au (by dsimp only;omega)|exact SV.imp_eq (by simp)),.sv (by first|exact SV.aa _|exact SV.au (by omega)|exact SV.au (by push_cast;omega)|exact SV.au (by dsimp only;omega)|exact SV.imp_eq (by simp)),trivial⟩ trivial trivial (fun _ _=>rfl)
 ·
  subst hi
  refine aS ?_
  refine af ?_
  refine RT.lss .none (false) rfl rfl (tl rfl) (by simp) ?_
  refine RT.done ?_
  refine ae.n ?_
  refine aS ?_
  refine eV rfl ?_
  refine bf ?_
  refine ae.x ?_
  refine ae.x ?_
  refine aK.x ?_
  exact⟨.inl rfl,(fun _=>rfl)⟩
theorem AH{x0:List (List Qr)}{r:Int}(h:nm x0=some r):Pure Tryz.prog 84 [slc 1 (List.map (eS 4 eQ) x0)] (.v (.int .i64 r)):=by
 refine ay Tryz.func84 rfl (Nat.le_of_ble_eq_true rfl) (fun cO M vs hvs=>?_)
 unfold nm at h
 refine sr<|ag rfl<|dn<|sr<|ag rfl<|dn<|qq<|sr<|mv rfl<|lE h fun x7 h7 h=>ln rfl h7<|mv rfl<|dn<|bE h fun e6 CI jd=>?_
 refine aT (fun(z8:Int)=>AS.bJ 18 [(3,.sv (.v (.int .i64 z8)))] [] []) (fun z8=>z8=e6) ?_ (fun z8 CJ=>?_)
 refine ak ?_
 refine aU CI (fun s6=>AS.bJ 18 [(3,.sv (.v (.int .i64 s6.1))),(6,.sv (slc 1 (List.map (eS 4 eQ) x0))),(7,.sv (.v (.int .i64 x7))),(8,.sv (.v (.int .i64 s6.2)))] [] []) (wR []) (fun s6 y6 G6 h CK yJ=>?_)
 obtain⟨qR,Tw⟩:=s6
 try dsimp only
 refine sr<|lE h fun x9 h9 h=>ls _ rfl rfl h9<|dn<|qq ?_
 cases x9
 refine cF<|bf<|ae.x<|ae.x<|aK.x<|ae.n ?_
 obtain rfl:=O (F h)
 exact⟨qR,yJ _ rfl,wR []⟩
 refine cT<|aH<|ae.n<|qq<|ak<|sr<|bE (V h) fun ek gC h=>ix rfl rfl gC<|lr rfl rfl<|ag rfl<|dn<|af<|mv rfl<|mv rfl<|lE h fun fg jv h=>ln rfl jv<|lE h fun dR fT h=>RT.max .none _ rfl rfl T (Im (p:=qR) (q:=fg) fT)<|ag rfl<|RT.done<|aK.n<|ae.n<|af<|lE h fun iY kX h=>ad _ rfl rfl kX<|mv rfl<|RT.done ?_
 obtain rfl:=O h
 exact ae.n ⟨(dR,iY),CK _ rfl,wR []⟩
 subst CJ
 try dsimp only
 refine ae.n<|sr<|mv rfl<|ag rfl<|dn<|aj ?_
 obtain rfl:=O jd
 exact R1 rfl
theorem ND{x0:List (List Qr)}{x1:Int}{x2:Int}{r:Qr}(h:uX x0 x1 x2=some r):Pure Tryz.prog 103 [slc 1 (List.map (eS 4 eQ) x0),.v (.int .i64 x1),.v (.int .i64 x2)] (.agg (eQ r)):=by
 refine ay Tryz.func103 rfl (Nat.le_of_ble_eq_true rfl) (fun cO M vs hvs=>?_)
 unfold uX at h
 refine sr<|al (cs:=[.v (.bool false),slc 1 (List.map ah []),.v (.bool false),slc 1 (List.map ah [])]) (by exact⟨SV.aa _,imp_nil,SV.aa _,imp_nil,trivial⟩) rfl<|dn<|sr<|mv rfl<|mv rfl<|bE h fun ek gC h=>cl (xK gC) ⟨rfl,rfl,trivial⟩<|ag rfl<|dn<|qq<|qq ?_
 refine aF h (fun j3=>AS.bJ 25 [(2,.sv (.v (.int .i64 x2))),(6,.ptr 6 0),(7,.sv (slc 4 (List.map eQ ek))),(18,.sv (.v (.bool j3)))] [(6,⟨43,[.sv (.v (.bool false)),.sv (slc 1 (List.map ah [])),.sv (.v (.bool false)),.sv (slc 1 (List.map ah []))]⟩)] []) (fun h=>?_) (fun QA h=>?_)
 refine af<|mv rfl<|lE h fun dW fj h=>ls _ rfl rfl fj<|mv rfl<|bE h fun VG nC h=>?_
 cases dW
 refine gm rfl<|gm rfl<|lE (F nC) fun iY kX nC=>gn rfl kX<|lE nC fun gx lH nC=>RT.geq (.some rfl rfl) _ rfl rfl T lH ?_
 obtain rfl:=O nC
 exact pF rfl<|dn<|⟨gx,h,wR []⟩
 obtain rfl:=O (V nC)
 exact ww<|ww<|ww<|ww<|pT rfl<|dn<|⟨true,h,wR []⟩
 try dsimp only
 refine ae.n ?_
 cases QA
 refine fs<|sr<|mv rfl<|mv rfl ?_
 obtain⟨⟨⟨yQ,yR⟩,⟨yS,yT⟩⟩,nS,h⟩:=bS (F h)
 refine ix rfl rfl nS<|RT.iW (cs:=[_,_,_,_]) .none rfl T rfl rfl ?_
 obtain⟨⟨⟨rL,rM⟩,⟨rN,rO⟩⟩,mP,h⟩:=bS h
 refine cl (gX mP) ⟨rfl,trivial⟩<|so rfl rfl rfl<|dn<|aj ?_
 obtain rfl:=O h
 exact RZ (.agg rfl rfl (.cons rfl (.cons rfl (.cons rfl (.cons rfl (.nil))))) rfl (.nil))
 refine cT<|sr<|bI (cs:=[_,_,_,_]) (cs':=[.v (.bool false),slc 1 (List.map ah []),.v (.bool false),slc 1 (List.map ah [])]) (.nil) ⟨SV.aa _,imp_nil,SV.aa _,imp_nil,trivial⟩<|so rfl rfl rfl<|dn<|aj<|ae.r ?_
 obtain rfl:=O (V h)
 exact RZ (.agg rfl rfl (.cons rfl (.cons rfl (.cons rfl (.cons rfl (.nil))))) rfl (.nil))
theorem kK{x0:List (List Qr)}{x1:List (List Qr)}{r:Bool}(h:eP x0 x1=some r):Pure Tryz.prog 46 [slc 1 (List.map (eS 4 eQ) x0),slc 1 (List.map (eS 4 eQ) x1)] (.v (.bool r)):=by
 refine ay Tryz.func46 rfl (Nat.le_of_ble_eq_true rfl) (fun cO M vs hvs=>?_)
 unfold eP at h
 refine sr<|al (cs:=[.v (.bool false)]) (by exact⟨SV.aa _,trivial⟩) rfl<|dn<|qq<|sr<|mv rfl<|mv rfl<|cl (Bh x0 x1) ⟨rfl,rfl,trivial⟩<|dn<|ak<|bE h fun e3 S6 Qx=>?_
 obtain⟨m3,st3,hs3,ht3,hn3⟩:=zO S6
 refine nB (Bi x0 x1) (fun _ _ _ _ _=>trivial) rfl (fun k=>AS.bJ 16 [(4,.ptr 4 0),(9,.sv (iC 138 [ref [slc 1 (List.map (eS 4 eQ) x0)],ref [slc 1 (List.map (eS 4 eQ) x1)]]))] [(4,⟨4,[.sv (.v (.bool false))]⟩)] []) [4] rfl (fun _=>⟨rfl,rfl⟩) (om rfl) (fun _=>rfl) (oq rfl) (by(try dsimp only);(try dsimp only);exact cy id rfl rfl rfl rfl rfl ⟨.ptr,.sv (SV.aa _),trivial⟩ ⟨⟨_,rfl,⟨.sv (SV.aa _),trivial⟩⟩,trivial⟩ trivial (fun _ _=>rfl)) m3 (fun k hk hkm D hD=>?_) (fun hdn=>?_)
 obtain⟨y3,h,hG3,hE3⟩:=ht3 k hk hkm
 dsimp only[AS.L4,oY]
 try dsimp only at h
 refine lE h fun p10 agN h=>?_
 rw[agN]
 refine lE h fun p11 Yk h=>?_
 rw[Yk]
 refine sr<|ag rfl<|dn<|af<|ag rfl<|RT.done ?_
 refine ae.n ⟨rfl,?_⟩
 dsimp only[AS.yy]
 refine ak<|sr<|mv rfl<|mv rfl<|bE h fun fg jv h=>cl (fk jv) ⟨rfl,rfl,trivial⟩<|lE h fun dR fT h=>nt rfl _ fT<|dn ?_
 cases dR
 refine cF<|aH<|aK.n ?_
 obtain rfl:=O (F h)
 obtain⟨hm3,hq3⟩:=hG3 _ rfl
 exact⟨hm3,rfl,rfl,wR []⟩
 refine cT<|sr<|RT.oh (cells:=[_]) .none (s:=.sv _) rfl rfl rfl T rfl<|dn<|aj<|aK.r ?_
 obtain rfl:=O (V h)
 have he3:=hE3 _ rfl
 subst he3
 refine⟨rfl,rfl,?_⟩
 refine aK.r<|ae.r ?_
 obtain rfl:=O Qx
 exact RZ (.one rfl rfl rfl (.nil))
 have hd3:=hn3 hdn
 subst hd3
 obtain⟨ee3,Qy⟩:∃q,st3 (max x0.length x1.length)=q:=⟨_,rfl⟩
 rw[Qy]at Qx
 try dsimp only
 refine aK.n<|ae.n<|sr<|RT.oh (cells:=[_]) .none (s:=.sv _) rfl rfl rfl T rfl<|dn<|aj ?_
 obtain rfl:=O Qx
 exact RZ (.one rfl rfl rfl (.nil))
theorem tL{x0:List (List Int)}{r:List (List Qr)}(h:iO x0=some r):Pure Tryz.prog 100 [slc 1 (List.map (eS 1 bj) x0)] (slc 1 (List.map (eS 4 eQ) r)):=by
 refine ay Tryz.func100 rfl (Nat.le_of_ble_eq_true rfl) (fun cO M vs hvs=>?_)
 unfold iO at h
 refine sr<|aI rfl (imp_nil (n:=1) (e:=(eS 4 eQ)))<|dn<|sr<|mv rfl<|lE h fun x7 h7 h=>ln rfl h7<|bE h fun x8 h8 h=>RT.kW (n:=1) (e:=(eS 4 eQ)) .none rfl rfl T rfl T (by rfl) (by decide) (by exact⟨imp_nil,trivial⟩) h8<|an (s:=.row _) rfl<|dn<|qq<|sr<|mv rfl<|lE h fun ek gC h=>ln rfl gC<|mv rfl<|dn<|bE h fun e8 Gr yM=>?_
 refine aT (fun(xI:(List (List Qr)))=>AS.bJ 23 [(3,.row 8)] [] [(8,TR 23 1 (eS 4 eQ) xI)]) (fun xI=>xI=e8) ?_ (fun xI Gs=>?_)
 refine ak ?_
 refine aU Gr (fun s8=>AS.bJ 23 [(3,.row 8),(9,.sv (slc 1 (List.map (eS 1 bj) x0))),(10,.sv (.v (.int .i64 ek))),(11,.sv (.v (.int .i64 s8.1)))] [] [(8,TR 23 1 (eS 4 eQ) s8.2)]) (wR []) (fun s8 y8 G8 h Gt Gu=>?_)
 obtain⟨uV,Db⟩:=s8
 try dsimp only
 refine sr<|lE h fun dW fj h=>ls _ rfl rfl fj<|dn<|qq ?_
 cases dW
 refine cF<|bf<|ae.x<|ae.x<|aK.x<|ae.n ?_
 obtain rfl:=O (F h)
 exact⟨Db,Gu _ rfl,wR []⟩
 refine cT<|aH<|ae.n<|qq<|ak<|sr<|mv rfl<|bE (V h) fun fg jv h=>ix rfl rfl jv<|lr rfl rfl<|ag rfl<|ag rfl<|dn<|af<|mo (s:=.row _) rfl<|mv rfl<|mv rfl<|bE h fun kS kJ h=>cl (dP kJ) ⟨rfl,trivial⟩<|bE h fun gO lW h=>iR rfl rfl rfl lW<|bE h fun yC pg h=>sR kS rfl rfl rfl rfl pg<|RT.done<|aK.n<|ae.n<|af<|lE h fun ik ni h=>ad _ rfl rfl ni ?_
 refine mv rfl<|RT.done ?_
 obtain rfl:=O h
 exact ae.n ⟨(ik,yC),Gt _ rfl,wR []⟩
 subst Gs
 try dsimp only
 refine ae.n<|sr<|mo (s:=.row _) rfl<|an (s:=.row _) rfl<|dn<|bt (dD (i:=8) (E1:=23) (n:=1) (e:=(eS 4 eQ)) (l:=xI) rfl)<|aj ?_
 obtain rfl:=O yM
 exact R1 rfl
end Go.Proofs.YtningmnklfpfjaaGreat
namespace Go.Fw
open Go.RowKit
class St4 (P:Program) (T:TypeId) (I:outParam TypeId):Prop where
 fs:(match P.underlying T with|some (.struct fs)=>(match fs.toList with|[f1,f2,f3,f4]=>(decide (f1.type=I)&&decide (f1.offset=0)&&decide (f1.name≠ "_"))&&(decide (f2.type=I)&&decide (f2.offset=1)&&decide (f2.name≠ "_"))&&(decide (f3.type=I)&&decide (f3.offset=2)&&decide (f3.name≠ "_"))&&(decide (f4.type=I)&&decide (f4.offset=3)&&decide (f4.name≠ "_"))|_=>false)|_=>false)=true
 hp:P.stoodInHeld T=false
 hI:P.underlying I=some (.int .i64)
 hg:P.eqGuardType P.depth T=false
theorem St4.ex{P:Program}{T I:TypeId}(h:St4 P T I):∃f1 f2 f3 f4:Field,P.underlying T=some (.struct #[f1,f2,f3,f4])∧(f1.type=I∧f1.offset=0∧f1.name≠ "_")∧(f2.type=I∧f2.offset=1∧f2.name≠ "_")∧(f3.type=I∧f3.offset=2∧f3.name≠ "_")∧(f4.type=I∧f4.offset=3∧f4.name≠ "_"):=by
 have h1:=h.fs
 cases hu:P.underlying T with
 |none=>rw[hu]at h1;cases h1
 |some d=>
  rw[hu]at h1
  cases d with
  |struct fs=>
   obtain⟨l⟩:=fs
   match l,h1 with
   |[f1,f2,f3,f4],h1=>
    simp only[Bool.and_eq_true,decide_eq_true_eq]at h1
    obtain⟨⟨⟨⟨⟨a1,a2⟩,a3⟩,⟨⟨b1,b2⟩,b3⟩⟩,⟨⟨c1,c2⟩,c3⟩⟩,⟨⟨d1,d2⟩,d3⟩⟩:=h1
    exact⟨f1,f2,f3,f4,rfl,⟨a1,a2,a3⟩,⟨b1,b2,b3⟩,⟨c1,c2,c3⟩,⟨d1,d2,d3⟩⟩
  |_=>cases h1
section steps
variable {P:Program}{C:Ctx}{ops:Array Oper}{S:AS}{nd:Bool}{K:List Ac→AS→Prop}{rest:List Oper}{acc:List Ac}
variable {gd:Option (Nat×Bool)}{rg:List Nat}{d:Nat}{ty:TypeId}{pos:String}{aft:Array Edge}{x y z:Operand}{T U E0:TypeId}
end steps
end Go.Fw
namespace Go.Fw
open Go.RowKit
def kZ:List (Nat×Row×Value)→(Nat→Value)→Nat→Value
 |[],ν,j=>ν j
 |(k,_,v)::l,ν,j=>if j=k then v else kZ l ν j
theorem nX{ν:Nat→Value}:∀{l:List (Nat×Row×Value)} {j:Nat},(∀R v,(j,R,v)∉l)→kZ l ν j=ν j
 |[],_,_=>rfl
 |(k,R,v)::l,j,h=>by
  have:j≠k:=fun e=>h R v (by rw[e];simp)
  rw[kZ,if_neg this]
  exact nX (fun R v hm=>h R v (List.mem_cons_of_mem _ hm))
theorem iP{ν:Nat→Value}:∀{l:List (Nat×Row×Value)} {j:Nat} {R:Row} {v:Value},(l.map (·.1)).Nodup→(j,R,v)∈l→kZ l ν j=v
 |(k,R',v')::l,j,R,v,hn,h=>by
  rw[List.map_cons,List.nodup_cons]at hn
  rcases List.mem_cons.1 h with e|e
  ·cases e;rw[kZ,if_pos rfl]
  ·have:j≠k:=fun q=>hn.1 (List.mem_map.2 ⟨(j,R,v),e,q⟩)
   rw[kZ,if_neg this];exact iP hn.2 e
def yV(olds:List Nat)(news:List (Nat×Row×Value)):List (Nat×lU):=olds.map (fun j=>(j,.dead))++news.map (fun n=>(n.1,.live n.2.1))
theorem td:∀(l k:List (Nat×lU)) (j:Nat),dh (l++k) j=match dh k j with|some R=>some R|none=>dh l j
 |[],k,j=>by cases h:dh k j<;>simp[h,dh]
 |(i,R)::l,k,j=>by
  rw[List.cons_append,dh,dh,td l k j]
  cases h:dh k j<;>simp
theorem xL{l:List (Nat×lU)}{j:Nat}(h:∀R,(j,R)∉l):dh l j=none:=by
 induction l with
 |nil=>rfl
 |cons p l ih=>
  obtain⟨i,R⟩:=p
  rw[dh,ih (fun R hm=>h R (List.mem_cons_of_mem _ hm))]
  have:j≠i:=fun e=>h R (by rw[e];simp)
  simp[this]
theorem xM{l:List (Nat×lU)}{j:Nat}{R:lU}(h:dh l j=some R):(j,R)∈l:=by
 induction l with
 |nil=>cases h
 |cons p l ih=>
  obtain⟨i,R'⟩:=p
  rw[dh]at h
  cases e:dh l j with
  |some R2=>rw[e]at h;cases h;exact List.mem_cons_of_mem _ (ih e)
  |none=>
   rw[e]at h
   by_cases q:j=i
   ·subst q;simp at h;subst h;simp
   ·simp[q]at h
theorem Dg{l:List (Nat×lU)}{j:Nat}{R:lU}(h:(j,R)∈l):∃R',dh l j=some R':=by
 induction l with
 |nil=>cases h
 |cons p l ih=>
  obtain⟨i,R'⟩:=p
  rw[dh]
  rcases List.mem_cons.1 h with e|e
  ·cases e
   cases q:dh l j with
   |some R2=>exact⟨R2,rfl⟩
   |none=>exact⟨R,by simp⟩
  ·obtain⟨R2,h2⟩:=ih e
   exact⟨R2,by rw[h2]⟩
section swap
variable {C:Ctx}{S:AS}
theorem az.ab2{E:Env}{a:Act}{w w':World}(h:az C S E a w){i:Nat}{T:TypeId}{cells cells':List AV}{us':List Value}{M':Mem}(hB:S.b i=some ⟨T,cells⟩)(olds:List Nat)(news:List (Nat×Row×Value))
  (hold:∀j∈olds,∃R,S.r j=.live R) (hnew:∀k R v,(k,R,v)∈news→S.r k=.un∧k<1000) (hnd:(news.map (·.1)).Nodup)
  (hM:E.M.le M') (hmn:∀b o x,M' b o=some x→E.M b o=some x∨w.heap.size≤b∨∃j∈olds,(E.ν j).ownBlock=some b) (hin:M'.cI w')
  (agP:w'.heap[E.β i]? =some (.cells ⟨us'⟩ T (0,0))) (hnb:∀o,M' (E.β i) o=none) (xm:cS {E with M:=M',ν:=kZ news E.ν} cells' us')
  (hcb:∀x∈cells',(∀j,¬x.mb j)∧∀j,x.mr j→∃R v,(j,R,v)∈news)
  (hrow:∀k R v,(k,R,v)∈news→(∃vs:List Value,w'.ownsRow 0 R.E R.sz v R.n vs∧SV.dH M' R.cells vs)∧∀g,v.ownBlock=some g→((∃j∈olds,(E.ν j).ownBlock=some g)∨w.heap.size≤g)∧(∀o,M' g o=none)∧g≠E.β i)
  (ab3:∀k R v k' R' v' g,(k,R,v)∈news→(k',R',v')∈news→v.ownBlock=some g→v'.ownBlock=some g→k=k')
  (hos:w'.os=w.os) (pE:w'.tape=w.tape) (hout:w'.output=w.output) (hsize:w.heap.size≤w'.heap.size)
  (ju:∀k,k<w.heap.size→k≠E.β i→(∀j∈olds,(E.ν j).ownBlock≠some k)→w'.heap[k]? =w.heap[k]?):
  az C (AS.bC (yV olds news) (AS.fG [(i,⟨T,cells'⟩)] S)) {E with M:=M',ν:=kZ news E.ν} a w':=by
 obtain⟨NF,agQ,Tx,Oh,NG,_⟩:=h.bx i _ hB
 have akU:E.β i<w.heap.size:=(Array.getElem?_eq_some_iff.1 NG).1
 obtain⟨n1,n2,n3,n4,n5⟩:=ff (yV olds news) (AS.fG [(i,⟨T,cells'⟩)] S)
 have tOf:(AS.bC (yV olds news) (AS.fG [(i,⟨T,cells'⟩)] S)).t=S.t:=n2
 have AZ:∀j,(AS.bC (yV olds news) (AS.fG [(i,⟨T,cells'⟩)] S)).b j=if j=i then some ⟨T,cells'⟩else S.b j:=fun j=>by
  rw[n3]
  by_cases e:j=i
  ·subst e;rw[if_pos rfl];exact AS.cD _ _ _
  ·rw[if_neg e];exact AS.bw _ _ _ _ e
 have ab4:∀k R v,(k,R,v)∈news→dh (news.map (fun n=>(n.1,lU.live n.2.1))) k=some (.live R):=fun k R v hm=>by
  obtain⟨R',mY⟩:=Dg (l:=news.map (fun n=>(n.1,lU.live n.2.1))) (j:=k) (R:=.live R) (List.mem_map.2 ⟨(k,R,v),hm,rfl⟩)
  obtain⟨⟨k2,R2,v2⟩,Oe,e⟩:=List.mem_map.1 (xM mY)
  have e1:k2=k:=congrArg Prod.fst e
  have e2:lU.live R2=R':=congrArg Prod.snd e
  rw[e1]at Oe
  have:R2=R:=by
   have key:∀(l:List (Nat×Row×Value)),(l.map (·.1)).Nodup→(k,R2,v2)∈l→(k,R,v)∈l→R2=R:=by
    intro l
    induction l with
    |nil=>intro _ h;cases h
    |cons p l ih=>
     intro hn h1 h2
     rw[List.map_cons,List.nodup_cons]at hn
     rcases List.mem_cons.1 h1 with e1|e1<;>rcases List.mem_cons.1 h2 with e2|e2
     ·rw[←e1]at e2;cases e2;rfl
     ·exact absurd (List.mem_map.2 ⟨_,e2,by rw[←e1]⟩) hn.1
     ·exact absurd (List.mem_map.2 ⟨_,e1,by rw[←e2]⟩) hn.1
     ·exact ih hn.2 e1 e2
   exact key news hnd Oe hm
  rw[mY,←e2,this]
 have ab5:∀k R v,(k,R,v)∈news→(AS.bC (yV olds news) (AS.fG [(i,⟨T,cells'⟩)] S)).r k=.live R:=fun k R v hm=>by
  rw[lp,yV,td,ab4 k R v hm];rfl
 have ab6:∀j,(∀R v,(j,R,v)∉news)→(AS.bC (yV olds news) (AS.fG [(i,⟨T,cells'⟩)] S)).r j=if j∈olds then .dead else S.r j:=fun j hn=>by
  have e1:dh (news.map (fun n=>(n.1,lU.live n.2.1))) j=none:=xL (fun R hm=>by
   obtain⟨⟨k2,R2,v2⟩,Oe,e⟩:=List.mem_map.1 hm
   cases e;exact hn R2 v2 Oe)
  rw[lp,yV,td,e1]
  by_cases ho:j∈olds
  ·rw[if_pos ho]
   obtain⟨R',mY⟩:=Dg (l:=olds.map (fun j=>(j,lU.dead))) (j:=j) (R:=.dead) (List.mem_map.2 ⟨j,ho,rfl⟩)
   obtain⟨j2,_,e⟩:=List.mem_map.1 (xM mY)
   cases e
   rw[mY];rfl
  ·rw[if_neg ho,xL (fun R hm=>by obtain⟨j2,Oe,e⟩:=List.mem_map.1 hm;cases e;exact ho Oe)];rfl
 have QB:∀j,S.r j≠ .un→∀R v,(j,R,v)∉news:=fun j hj R v hm=>hj (hnew j R v hm).1
 have rne:∀j,S.r j≠ .un→(AS.bC (yV olds news) (AS.fG [(i,⟨T,cells'⟩)] S)).r j≠ .un:=fun j hj=>by
  rw[ab6 j (QB j hj)]
  split
  ·simp
  ·exact hj
 have z9:∀j∈olds,∀g,(E.ν j).ownBlock=some g→(C.w0.heap.size≤g∨C.vK g)∧(∀o,E.M g o=none)∧¬E.O g∧(∀n B,S.b n=some B→E.β n≠g)∧g<w.heap.size∧∃c e,w.heap[g]? =some (Obj.cells c e (0,0)):=fun j hj g hg=>by
  obtain⟨R,hR⟩:=hold j hj
  obtain⟨⟨us,q1,_⟩,q2⟩:=h.rx j R hR
  obtain⟨q3,q4,q5,q6⟩:=q2 g hg
  refine⟨q3,q4,q5,q6,jZ h hR hg,?_⟩
  rcases q1.2 with⟨q7,_⟩|⟨g',cap,cur,q7,_,q8,_⟩
  ·rw[q7]at hg;cases hg
  ·rw[q7]at hg;cases hg;exact⟨_,_,q8⟩
 have keep:∀x:AV,(∀j,x.mr j→S.r j≠ .un)→∀v,x.holds E v→x.holds {E with M:=M',ν:=kZ news E.ν} v:=fun x hx v hv=>
  AV.cu (E:=E) (E':={E with M:=M',ν:=kZ news E.ν}) hM (fun _ _=>rfl) (fun j hj=>nX (QB j (hx j hj))) hv
 have Yl:∀b,b<w.heap.size→(∀o,E.M b o=none)→(∀j∈olds,(E.ν j).ownBlock≠some b)→∀o,M' b o=none:=fun b h1 h2 h3 o=>by
  cases e:M' b o with
  |none=>rfl
  |some v=>
   rcases hmn b o v e with q|q|⟨j,q1,q2⟩
   ·rw[h2 o]at q;cases q
   ·omega
   ·exact absurd q2 (h3 j q1)
 have live:∀j R,(AS.bC (yV olds news) (AS.fG [(i,⟨T,cells'⟩)] S)).r j=.live R→(∃v,(j,R,v)∈news)∨((∀R v,(j,R,v)∉news)∧j∉olds∧S.r j=.live R):=fun j R hj=>by
  by_cases hn:∃R v,(j,R,v)∈news
  ·obtain⟨R',v,hm⟩:=hn
   rw[ab5 j R' v hm]at hj;cases hj;exact .inl ⟨v,hm⟩
  ·have hn:∀R v,(j,R,v)∉news:=fun R v hm=>hn ⟨R,v,hm⟩
   rw[ab6 j hn]at hj
   by_cases ho:j∈olds
   ·rw[if_pos ho]at hj;cases hj
   ·rw[if_neg ho]at hj;exact .inr ⟨hn,ho,hj⟩
 have oth:∀j R,S.r j=.live R→j∉olds→∀g,(E.ν j).ownBlock=some g→∀j'∈olds,(E.ν j').ownBlock≠some g:=fun j R hR ho g hg j' hj' e=>by
  obtain⟨R',mY⟩:=hold j' hj'
  have:=h.eW j j' R R' hR mY g hg e
  subst this;exact ho hj'
 exact{
  wf:=by
   refine⟨fun s j hj=>?_,fun s j hj=>?_,fun j B fu x hx m hm=>?_,fun j B fu x hx m hm=>?_⟩
   ·rw[tOf]at hj
    obtain⟨B,fu⟩:=h.wf.tb s j hj
    rw[AZ]
    by_cases e:j=i
    ·exact⟨_,if_pos e⟩
    ·exact⟨B,by rw[if_neg e];exact fu⟩
   ·rw[tOf]at hj
    exact rne j (h.wf.tr s j hj)
   ·rw[AZ]at fu⊢
    by_cases e:j=i
    ·rw[if_pos e]at fu;cases fu;exact absurd hm ((hcb x hx).1 m)
    ·rw[if_neg e]at fu
     obtain⟨B2,hB2⟩:=h.wf.bb j B fu x hx m hm
     by_cases e2:m=i
     ·exact⟨_,if_pos e2⟩
     ·exact⟨B2,by rw[if_neg e2];exact hB2⟩
   ·rw[AZ]at fu
    by_cases e:j=i
    ·rw[if_pos e]at fu;cases fu
     obtain⟨R,v,Oe⟩:=(hcb x hx).2 m hm
     rw[ab5 m R v Oe];simp
    ·rw[if_neg e]at fu;exact rne m (h.wf.br j B fu x hx m hm)
  marks:=by
   obtain⟨ds,d1,d2,d3⟩:=h.marks
   refine⟨ds,d1,d2,fun r hr=>?_⟩
   obtain⟨p1,p2,p3⟩:=d3 r hr
   refine⟨p1,p2,?_⟩
   rw[ju r (Array.getElem?_eq_some_iff.1 p3).1 (fun e=>by rw[e,NG]at p3;cases p3) (fun j hj e=>by
    obtain⟨_,_,_,_,_,c,e2,q⟩:=z9 j hj r e
    rw[q]at p3;cases p3)]
   exact p3
  size:=by rw[n1];exact h.size
  os:=hos.trans h.os
  tape:=pE.trans h.tape
  output:=hout.trans h.output
  grown:=Nat.le_trans h.grown hsize
  frame:=fun k hk hown=>by
   rw[ju k (Nat.lt_of_lt_of_le hk h.grown) (fun e=>by
    rcases NF with q|q
    ·omega
    ·exact hown (C.D8 _ (by rw[e];exact q))) (fun j hj e=>by
    rcases(z9 j hj k e).1 with q|q
    ·omega
    ·exact hown (C.D8 _ q))]
   exact h.frame k hk hown
  m0:=Mem.le_trans h.m0 hM
  eu:=fun b o v e=>by
   rcases hmn b o v e with q|q|⟨j,q1,q2⟩
   ·exact h.eu b o v q
   ·exact .inr (.inl (Nat.le_trans h.grown q))
   ·rcases(z9 j q1 b q2).1 with q|q
    ·exact .inr (.inl q)
    ·exact .inr (.inr (C.D8 _ q))
  cI:=hin
  tm:=fun s=>by rw[tOf];exact keep _ (h.wf.tr s) _ (h.tm s)
  bx:=fun j B fu=>by
   rw[AZ]at fu
   by_cases e:j=i
   ·rw[if_pos e]at fu;cases fu;subst e
    exact⟨NF,hnb,Tx,us',agP,xm⟩
   ·rw[if_neg e]at fu
    obtain⟨p1,p2,p3,vs,p4,p5⟩:=h.bx j B fu
    have hlt:=(Array.getElem?_eq_some_iff.1 p4).1
    have hno:∀j'∈olds,(E.ν j').ownBlock≠some (E.β j):=fun j' hj' q=>(z9 j' hj' _ q).2.2.2.1 j B fu rfl
    refine⟨p1,Yl _ hlt p2 hno,p3,vs,?_,p5.imp (fun x hx v hv=>keep x (h.wf.br j B fu x hx) v hv)⟩
    show w'.heap[E.β j]? =_
    rw[ju _ hlt (fun q=>e (h.inj j i B _ fu hB q)) hno];exact p4
  inj:=fun j j' B B' h1 h2 e=>by
   have key:∀n B,(AS.bC (yV olds news) (AS.fG [(i,⟨T,cells'⟩)] S)).b n=some B→∃B',S.b n=some B':=fun n B hn=>by
    rw[AZ]at hn
    by_cases e:n=i
    ·subst e;exact⟨_,hB⟩
    ·rw[if_neg e]at hn;exact⟨B,hn⟩
   obtain⟨B1,p1⟩:=key j B h1
   obtain⟨B2,p2⟩:=key j' B' h2
   exact h.inj j j' B1 B2 p1 p2 e
  rx:=fun j R hj=>by
   have boxes:∀g,(∀n B,S.b n=some B→E.β n≠g)→∀n B,(AS.bC (yV olds news) (AS.fG [(i,⟨T,cells'⟩)] S)).b n=some B→E.β n≠g:=fun g hg n B hn=>by
    rw[AZ]at hn
    by_cases e:n=i
    ·subst e;exact hg _ _ hB
    ·rw[if_neg e]at hn;exact hg n B hn
   rcases live j R hj with⟨v,hm⟩|⟨hn,ho,hR⟩
   ·rw[show({E with M:=M',ν:=kZ news E.ν}:Env).ν j=v from iP hnd hm]
    obtain⟨p1,p2⟩:=hrow j R v hm
    refine⟨p1,fun g hg=>?_⟩
    obtain⟨p3,p4,p5⟩:=p2 g hg
    rcases p3 with⟨j',q1,q2⟩|p3
    ·obtain⟨o1,o2,o3,o4,_⟩:=z9 j' q1 g q2
     exact⟨o1,p4,o3,boxes g o4⟩
    ·refine⟨.inl (Nat.le_trans h.grown p3),p4,fun q=>?_,boxes g (fun n B hn q=>?_)⟩
     ·have:=(h.lj g q).1;omega
     ·obtain⟨_,_,_,vs,q4,_⟩:=h.bx n B hn
      have:=(Array.getElem?_eq_some_iff.1 q4).1
      omega
   ·rw[show({E with M:=M',ν:=kZ news E.ν}:Env).ν j=E.ν j from nX hn]
    obtain⟨⟨us,p1,p2⟩,p3⟩:=h.rx j R hR
    refine⟨⟨us,c6 p1 fun g hg=>ju g (jZ h hR hg) (fun e=>(p3 g hg).2.2.2 i _ hB e.symm) (oth j R hR ho g hg),p2.mono hM⟩,fun g hg=>?_⟩
    obtain⟨p4,p5,p6,p7⟩:=p3 g hg
    exact⟨p4,Yl g (jZ h hR hg) p5 (oth j R hR ho g hg),p6,boxes g p7⟩
  eW:=fun j j' R R' h1 h2 g e1 e2=>by
   have mixed:∀j R v j' R' g,(j,R,v)∈news→S.r j'=.live R'→j'∉olds→v.ownBlock=some g→(E.ν j').ownBlock=some g→False:=fun j R v j' R' g hm mY ho e1 e2=>by
    rcases((hrow j R v hm).2 g e1).1 with⟨j2,q1,q2⟩|q
    ·exact oth j' R' mY ho g e2 j2 q1 q2
    ·have:=jZ h mY e2;omega
   rcases live j R h1 with⟨v,hm⟩|⟨hn,ho,hR⟩<;>rcases live j' R' h2 with⟨v',hm'⟩|⟨hn',ho',mY⟩
   ·rw[show({E with M:=M',ν:=kZ news E.ν}:Env).ν j=v from iP hnd hm]at e1
    rw[show({E with M:=M',ν:=kZ news E.ν}:Env).ν j'=v' from iP hnd hm']at e2
    exact ab3 j R v j' R' v' g hm hm' e1 e2
   ·rw[show({E with M:=M',ν:=kZ news E.ν}:Env).ν j=v from iP hnd hm]at e1
    rw[show({E with M:=M',ν:=kZ news E.ν}:Env).ν j'=E.ν j' from nX hn']at e2
    exact(mixed j R v j' R' g hm mY ho' e1 e2).elim
   ·rw[show({E with M:=M',ν:=kZ news E.ν}:Env).ν j=E.ν j from nX hn]at e1
    rw[show({E with M:=M',ν:=kZ news E.ν}:Env).ν j'=v' from iP hnd hm']at e2
    exact(mixed j' R' v' j R g hm' hR ho e2 e1).elim
   ·rw[show({E with M:=M',ν:=kZ news E.ν}:Env).ν j=E.ν j from nX hn]at e1
    rw[show({E with M:=M',ν:=kZ news E.ν}:Env).ν j'=E.ν j' from nX hn']at e2
    exact h.eW j j' R R' hR mY g e1 e2
  gP:=h.gP
  dQ:=fun k v e=>by
   rw[show({E with M:=M',ν:=kZ news E.ν}:Env).ν k=E.ν k from nX (fun R v hm=>by have:=(hnew k R v hm).2;have:=C.Nc k _ e;omega)]
   exact h.dQ k v e
  lj:=fun b hb=>by
   obtain⟨p1,p2,p3⟩:=h.lj b hb
   exact⟨Nat.lt_of_lt_of_le p1 hsize,Yl b p1 p2 (fun j hj e=>(z9 j hj b e).2.2.1 hb),p3⟩
  jj:=by
   have hj:=C.jf S.g S.go E.O E.M M' w w' h.jj hM hin (fun b o v e=>by
    rcases hmn b o v e with q|q|⟨j,q1,q2⟩
    ·exact .inl q
    ·exact .inr ⟨.inl (Nat.le_trans h.grown q),fun q2=>by have:=(h.lj b q2).1;omega⟩
    ·obtain⟨o1,_,o3,_⟩:=z9 j q1 b q2
     exact .inr ⟨o1,o3⟩) (fun b hb=>by
    have hlt:b<w.heap.size∨w.heap.size≤b:=Nat.lt_or_ge _ _
    have hb':b<w.heap.size:=by
     rcases hb with⟨q,_⟩|q
     ·exact Nat.lt_of_lt_of_le q h.grown
     ·exact(h.lj b q).1
    refine ju b hb' (fun e=>?_) (fun j hj e=>?_)
    ·subst e
     rcases hb with⟨q1,q2⟩|q
     ·rcases NF with p|p
      ·omega
      ·exact q2 p
     ·exact Tx q
    ·obtain⟨o1,_,o3,_⟩:=z9 j hj b e
     rcases hb with⟨q1,q2⟩|q
     ·rcases o1 with p|p
      ·omega
      ·exact q2 p
     ·exact o3 q) hos pE hout hsize
   rw[n4,n5];exact hj}
end swap
end Go.Fw
namespace Go.Fw
open Go.RowKit
inductive Oc where
 |s (x:SV)
 |r (R:Row)
def pG(M:Mem)(w:World):List Oc→List Value→Prop
 |[],[]=>True
 |.s x::l,v::vs=>x.h M v∧pG M w l vs
 |.r R::l,v::vs=>(∃us:List Value,w.ownsRow 0 R.E R.sz v R.n us∧SV.dH M R.cells us)∧pG M w l vs
 |_,_=>False
def rowsOf:List Oc→List Row
 |[]=>[]
 |.s _::l=>rowsOf l
 |.r R::l=>R::rowsOf l
def bu:List Oc→List Value→List (Row×Value)
 |.s _::l,_::vs=>bu l vs
 |.r R::l,v::vs=>(R,v)::bu l vs
 |_,_=>[]
def ec(c:List Oc)(us:List Value)(g:Nat):Prop:=∃p∈bu c us,p.2.ownBlock=some g
def bG:List Nat→List Oc→List AV
 |ids,.s x::l=>.sv x::bG ids l
 |i::ids,.r _::l=>.row i::bG ids l
 |[],.r _::l=>.sv .any::bG [] l
 |_,[]=>[]
def I7(l:List (Row×Value)):Prop:=l.Pairwise fun p q=>∀g,p.2.ownBlock=some g→q.2.ownBlock≠some g
structure qC (M:Mem) (w:World) (β:Nat) (T:TypeId) (c:List Oc) (us:List Value):Prop where
 hp:w.heap[β]? =some (.cells ⟨us⟩ T (0,0))
 al:pG M w c us
 nb:∀o,M β o=none
 nr:∀g,ec c us g→g≠β∧∀o,M g o=none
 ap:I7 (bu c us)
theorem gp{M:Mem}{w:World}:∀{c:List Oc} {us:List Value},pG M w c us→(bu c us).map (·.1)=rowsOf c
 |[],[],_=>rfl
 |.s _::l,_::vs,h=>gp (c:=l) (us:=vs) h.2
 |.r R::l,v::vs,h=>congrArg (R:: ·) (gp (c:=l) (us:=vs) h.2)
 |[],_::_,h=>h.elim
 |.s _::_,[],h=>h.elim
 |.r _::_,[],h=>h.elim
theorem lK{M:Mem}{w:World}:∀{c:List Oc} {us:List Value},pG M w c us→∀p∈bu c us,∃vs:List Value,w.ownsRow 0 p.1.E p.1.sz p.2 p.1.n vs∧SV.dH M p.1.cells vs
 |[],[],_,p,hp=>by cases hp
 |.s _::l,_::vs,h,p,hp=>lK (c:=l) (us:=vs) h.2 p hp
 |.r R::l,v::vs,h,p,hp=>by
  rcases List.mem_cons.1 hp with rfl|hp
  ·exact h.1
  ·exact lK (c:=l) (us:=vs) h.2 p hp
 |[],_::_,h,_,_=>h.elim
 |.s _::_,[],h,_,_=>h.elim
 |.r _::_,[],h,_,_=>h.elim
theorem jV{α β:Type}:∀{l:List α} {k:List β} {a:α} {b:β},(a,b)∈l.zip k→a∈l∧b∈k
 |_::_,_::_,_,_,h=>by
  rw[List.zip_cons_cons]at h
  rcases List.mem_cons.1 h with e|e
  ·cases e;simp
  ·have:=jV e;exact⟨List.mem_cons_of_mem _ this.1,List.mem_cons_of_mem _ this.2⟩
 |[],_,_,_,h=>by simp at h
 |_::_,[],_,_,h=>by simp at h
theorem yW{α β:Type}:∀{l:List α} {k:List β},l.length=k.length→(l.zip k).map (·.1)=l
 |[],[],_=>rfl
 |_::l,_::k,h=>by rw[List.zip_cons_cons,List.map_cons,yW (by simpa using h)]
 |[],_::_,h=>by simp at h
 |_::_,[],h=>by simp at h
theorem Aa:∀{ids:List Nat} {l:List (Row×Value)},ids.Nodup→I7 l→∀k R v k' R' v' g,(k,R,v)∈ids.zip l→(k',R',v')∈ids.zip l→v.ownBlock=some g→v'.ownBlock=some g→k=k'
 |i::ids,p::l,hn,ha,k,R,v,k',R',v',g,h1,h2,e1,e2=>by
  rw[List.zip_cons_cons]at h1 h2
  rw[List.nodup_cons]at hn
  obtain⟨ha1,ha2⟩:=List.pairwise_cons.1 ha
  rcases List.mem_cons.1 h1 with q1|q1<;>rcases List.mem_cons.1 h2 with q2|q2
  ·cases q1;cases q2;rfl
  ·cases q1;exact absurd e2 (ha1 (R',v') (jV q2).2 g e1)
  ·cases q2;exact absurd e1 (ha1 (R,v) (jV q1).2 g e2)
  ·exact Aa hn.2 ha2 k R v k' R' v' g q1 q2 e1 e2
 |[],_,_,_,_,_,_,_,_,_,_,h1,_,_,_=>by simp at h1
 |_::_,[],_,_,_,_,_,_,_,_,_,h1,_,_,_=>by simp at h1
theorem pH{E:Env}{w:World}:∀{ids:List Nat} {c:List Oc} {us:List Value},ids.length=(rowsOf c).length→pG E.M w c us→(∀i p,(i,p)∈ids.zip (bu c us)→E.ν i=p.2)→cS E (bG ids c) us
 |ids,[],[],_,_,_=>by cases ids<;>exact trivial
 |ids,.s x::l,v::vs,hl,h,hv=>by
  have ih:=pH (E:=E) (w:=w) (ids:=ids) (c:=l) (us:=vs) hl h.2 hv
  cases ids<;>exact⟨h.1,ih⟩
 |i::ids,.r R::l,v::vs,hl,h,hv=>by
  refine⟨(hv i (R,v) (by rw[bu,List.zip_cons_cons];simp)).symm,pH (w:=w) (ids:=ids) (c:=l) (us:=vs) (by simpa[rowsOf]using hl) h.2 (fun j p hm=>hv j p ?_)⟩
  rw[bu,List.zip_cons_cons];exact List.mem_cons_of_mem _ hm
 |[],.r R::l,_::_,hl,_,_=>by simp[rowsOf]at hl
 |_,[],_::_,_,h,_=>h.elim
 |_,.s _::_,[],_,h,_=>h.elim
 |_,.r _::_,[],_,h,_=>h.elim
theorem pI:∀{ids:List Nat} {c:List Oc} (x:AV),x∈bG ids c→(∀j,¬x.mb j)∧∀j,x.mr j→j∈ids
 |ids,[],x,h=>by cases ids<;>simp[bG]at h
 |ids,.s y::l,x,h=>by
  have h':x∈AV.sv y::bG ids l:=by cases ids<;>exact h
  rcases List.mem_cons.1 h' with rfl|h'
  ·exact⟨fun j e=>e,fun j e=>e.elim⟩
  ·exact pI x h'
 |i::ids,.r _::l,x,h=>by
  rcases List.mem_cons.1 (show x∈AV.row i::bG ids l from h)with rfl|h'
  ·exact⟨fun j e=>e,fun j e=>by cases e;simp⟩
  ·obtain⟨h1,h2⟩:=pI x h'
   exact⟨h1,fun j e=>List.mem_cons_of_mem _ (h2 j e)⟩
 |[],.r _::l,x,h=>by
  rcases List.mem_cons.1 (show x∈AV.sv .any::bG [] l from h)with rfl|h'
  ·exact⟨fun j e=>e,fun j e=>e.elim⟩
  ·exact pI x h'
def Lv(S:AS):List Nat→List Row→Prop
 |[],[]=>True
 |j::js,R::Rs=>S.r j=.live R∧Lv S js Rs
 |_,_=>False
theorem Lv.len{S:AS}:∀{js:List Nat} {Rs:List Row},Lv S js Rs→js.length=Rs.length
 |[],[],_=>rfl
 |_::_,_::_,h=>congrArg (· +1) (Lv.len h.2)
 |[],_::_,h=>h.elim
 |_::_,[],h=>h.elim
theorem Lv.mem{S:AS}:∀{js:List Nat} {Rs:List Row},Lv S js Rs→∀j∈js,∃R,S.r j=.live R
 |j::js,R::Rs,h,k,hk=>by
  rcases List.mem_cons.1 hk with rfl|hk
  ·exact⟨R,h.1⟩
  ·exact Lv.mem h.2 k hk
 |[],_,_,k,hk=>by cases hk
 |_::_,[],h,_,_=>h.elim
theorem rR{C:Ctx}{S:AS}{E:Env}{a:Act}{w:World}(h:az C S E a w):∀{js:List Nat} {c:List Oc} {us:List Value},Lv S js (rowsOf c)→cS E (bG js c) us→pG E.M w c us∧bu c us=(rowsOf c).zip (js.map E.ν)
 |[],[],[],_,_=>⟨trivial,rfl⟩
 |js,.s x::l,v::vs,hL,hv=>by
  have wv:cS E (AV.sv x::bG js l) (v::vs):=by cases js<;>exact hv
  obtain⟨h1,h2⟩:=rR h (js:=js) (c:=l) (us:=vs) hL wv.2
  exact⟨⟨wv.1,h1⟩,h2⟩
 |j::js,.r R::l,v::vs,hL,hv=>by
  have hL:S.r j=.live R∧Lv S js (rowsOf l):=hL
  have wv:cS E (AV.row j::bG js l) (v::vs):=hv
  obtain⟨h1,h2⟩:=rR h (js:=js) (c:=l) (us:=vs) hL.2 wv.2
  have e:v=E.ν j:=wv.1
  obtain⟨q1,_⟩:=h.rx j R hL.1
  rw[←e]at q1
  refine⟨⟨q1,h1⟩,?_⟩
  rw[bu,h2,e];rfl
 |[],.r _::_,_,hL,_=>hL.elim
 |_::_,[],_,hL,_=>hL.elim
 |[],[],_::_,_,hv=>by simp[bG]at hv;exact hv.elim
 |js,.s x::l,[],_,hv=>by
  have wv:cS E (AV.sv x::bG js l) []:=by cases js<;>exact hv
  exact wv.elim
 |_::_,.r _::_,[],_,hv=>hv.elim
theorem uY{α β:Type}:∀{l:List α} {k:List β} {b:β},l.length=k.length→b∈k→∃a,(a,b)∈l.zip k
 |a::l,c::k,b,h,hb=>by
  rcases List.mem_cons.1 hb with rfl|hb
  ·exact⟨a,by rw[List.zip_cons_cons];simp⟩
  ·obtain⟨a',h'⟩:=uY (l:=l) (k:=k) (by simpa using h) hb
   exact⟨a',by rw[List.zip_cons_cons];exact List.mem_cons_of_mem _ h'⟩
 |[],[],_,_,hb=>by cases hb
 |[],_::_,_,h,_=>by simp at h
theorem nY{C:Ctx}{S:AS}{E:Env}{a:Act}{w:World}(h:az C S E a w){i:Nat}{T:TypeId}{js:List Nat}{c:List Oc}(hB:S.b i=some ⟨T,bG js c⟩)(hL:Lv S js (rowsOf c))(hn:js.Nodup):
  ∃us,qC E.M w (E.β i) T c us∧(∀g,ec c us g↔∃j∈js,(E.ν j).ownBlock=some g):=by
 obtain⟨_,q1,_,us,q2,q3⟩:=h.bx i _ hB
 obtain⟨p1,p2⟩:=rR h hL q3
 have hlen:=hL.len
 have FY:∀g,ec c us g↔∃j∈js,(E.ν j).ownBlock=some g:=fun g=>by
  unfold ec
  rw[p2]
  constructor
  ·rintro⟨⟨R,v⟩,hm,hg⟩
   obtain⟨j,hj,rfl⟩:=List.mem_map.1 (jV hm).2
   exact⟨j,hj,hg⟩
  ·rintro⟨j,hj,hg⟩
   obtain⟨R,hR⟩:=uY (l:=rowsOf c) (k:=js.map E.ν) (by simp[hlen]) (List.mem_map.2 ⟨j,hj,rfl⟩)
   exact⟨(R,E.ν j),hR,hg⟩
 refine⟨us,⟨q2,p1,q1,fun g hg=>?_,?_⟩,FY⟩
 ·obtain⟨j,hj,xn⟩:=(FY g).1 hg
  obtain⟨R,hR⟩:=hL.mem j hj
  obtain⟨_,q4⟩:=h.rx j R hR
  obtain⟨_,q5,_,q6⟩:=q4 g xn
  exact⟨fun e=>q6 i _ hB e.symm,q5⟩
 ·rw[p2]
  have key:∀(js:List Nat) (Rs:List Row),Lv S js Rs→js.Nodup→I7 (Rs.zip (js.map E.ν)):=by
   intro js
   induction js with
   |nil=>intro Rs hL _;cases Rs with|nil=>exact List.Pairwise.nil|cons _ _=>exact hL.elim
   |cons j js ih=>
    intro Rs hL hn
    cases Rs with
    |nil=>exact hL.elim
    |cons R Rs=>
     rw[List.nodup_cons]at hn
     rw[List.map_cons,List.zip_cons_cons]
     refine List.pairwise_cons.2 ⟨fun p hp g e1 e2=>?_,ih Rs hL.2 hn.2⟩
     obtain⟨R',v'⟩:=p
     obtain⟨j',hj',rfl⟩:=List.mem_map.1 (jV hp).2
     obtain⟨R2,hR2⟩:=hL.2.mem j' hj'
     have:=h.eW j j' R R2 hL.1 hR2 g e1 e2
     subst this;exact hn.1 hj'
  exact key js _ hL hn
def pJ(M:Mem)(β:Nat):Env:=⟨fun _=>β,fun _=>.nilIface,fun _=>False,M⟩
def Fc.oy:Fc→Bool
 |.val _=>true
 |.box i=>Nat.beq i 1000
 |.row _=>false
def AV.oy:AV→Bool
 |.sv _=>true
 |.ptr i _=>Nat.beq i 1000
 |.cmp _ js=>js.all Fc.oy
 |_=>false
def Fc.Ty(i:Nat):Fc→Fc
 |.box _=>.box i
 |c=>c
def AV.Ty(i:Nat):AV→AV
 |.ptr _ o=>.ptr i o
 |.cmp t js=>.cmp t (js.map (Fc.Ty i))
 |x=>x
theorem NH{E:Env}{i:Nat}{x:AV}{v:Value}(hx:x.oy=true)(h:(x.Ty i).holds E v):x.holds (pJ E.M (E.β i)) v:=by
 cases x with
 |sv s=>exact h
 |ptr k o=>exact h
 |cmp t js=>
  obtain⟨vs,rfl,h⟩:=h
  refine⟨vs,rfl,?_⟩
  have key:∀(l:List Fc) (vs:List Value),(l.all Fc.oy)=true→yh E (l.map (Fc.Ty i)) vs→yh (pJ E.M (E.β i)) l vs:=by
   intro l
   induction l with
   |nil=>intro vs _ h;cases vs with|nil=>trivial|cons _ _=>exact h.elim
   |cons c l ih=>
    intro vs ho h
    rw[List.all_cons,Bool.and_eq_true]at ho
    cases vs with
    |nil=>exact h.elim
    |cons u vs=>
     refine⟨?_,ih vs ho.2 h.2⟩
     cases c with
     |val s=>exact h.1
     |box k=>exact h.1
     |row k=>exact(Bool.false_ne_true ho.1).elim
  exact key js vs hx h
 |_=>exact(Bool.false_ne_true hx).elim
theorem yX{E:Env}{i:Nat}:∀{l:List AV} {vs:List Value},(l.all AV.oy)=true→cS E (l.map (AV.Ty i)) vs→cS (pJ E.M (E.β i)) l vs
 |[],[],_,_=>trivial
 |x::l,v::vs,h,hv=>by
  rw[List.all_cons,Bool.and_eq_true]at h
  exact⟨NH h.1 hv.1,yX h.2 hv.2⟩
 |[],_::_,_,h=>h.elim
 |_::_,[],_,h=>h.elim
def Tz(P:Program)(f:FuncId)(args:List AV)(T:TypeId)(c0:List Oc)(res:SV)(c1:List Oc):Prop:=
 ∀(M:Mem) (w:World) (β:Nat) (vs us:List Value),M.cI w→qC M w β T c0 us→cS (pJ M β) args vs→
  Calls P f ⟨vs⟩ w fun e w'=>∃v M' us',e=.returned v∧M.le M'∧(∀b o x,M' b o=some x→M b o=some x∨w.heap.size≤b∨ec c0 us b)∧M'.cI w'∧res.h M' v∧
   qC M' w' β T c1 us'∧(∀g,ec c1 us' g→ec c0 us g∨w.heap.size≤g)∧w'.os=w.os∧w'.tape=w.tape∧w'.output=w.output∧w.heap.size≤w'.heap.size∧
   ∀k,k<w.heap.size→k≠β→¬ec c0 us k→w'.heap[k]? =w.heap[k]?
def Ym(w:World)(M:Mem)(β:Nat)(c:List Oc)(us:List Value):Ctx:={w0:=w,M0:=M,own:=fun k=>k=β∨ec c us k,vK:=fun k=>k=β∨ec c us k,gP:=fun i=>bif Nat.beq i 1000 then some β else none,dQ:=fun _=>none,ro:=none,J:=fun _ _ _ _ _=>True,D8:=fun _ h=>h,Nc:=fun _ _ h=>(by cases h),jf:=fun _ _ _ _ _ _ _ _ _ _ _ _ _ _ _ _=>trivial}
theorem yY{M:Mem}{w:World}:∀{ids:List Nat} {c:List Oc} {us:List Value},pG M w c us→∀{i:Nat} {R:Row},(i,R)∈ids.zip (rowsOf c)→∃v,(i,R,v)∈ids.zip (bu c us)
 |ids,.s x::l,v::vs,h,i,R,hm=>by
  have hm':(i,R)∈ids.zip (rowsOf l):=hm
  exact yY (c:=l) (us:=vs) h.2 hm'
 |k::ids,.r R'::l,v::vs,h,i,R,hm=>by
  have hm':(i,R)∈(k,R')::ids.zip (rowsOf l):=hm
  rw[bu,List.zip_cons_cons]
  rcases List.mem_cons.1 hm' with e|e
  ·cases e;exact⟨v,by simp⟩
  ·obtain⟨v',h'⟩:=yY (ids:=ids) (c:=l) (us:=vs) h.2 e
   exact⟨v',List.mem_cons_of_mem _ h'⟩
 |[],.r _::_,_::_,_,_,_,hm=>by simp at hm
 |_,[],[],_,_,_,hm=>by simp[rowsOf]at hm
 |_,[],_::_,h,_,_,_=>h.elim
 |_,.s _::_,[],h,_,_,_=>h.elim
 |_,.r _::_,[],h,_,_,_=>h.elim
theorem GL{n:Nat}{args:List AV}{T:TypeId}{c:List Oc}{M:Mem}{w:World}{β:Nat}{vs us:List Value}(ids:List Nat)(hM:M.cI w)(ho:qC M w β T c us)(hv:cS (pJ M β) args vs)(Fk:args.all AV.oy=true)(hn:args.length≤n)(zG:ids.Nodup)(Oo:ids.length=(rowsOf c).length):
  az (Ym w M β c us) (AS.A0 n args [(1000,⟨T,bG ids c⟩)] (ids.zip (rowsOf c))) ⟨fun _=>β,kZ (ids.zip (bu c us)) (fun _=>.nilIface),fun _=>False,M⟩ {tmps:=⟨vs⟩++Array.replicate (n-(⟨vs⟩:Array Value).size) undef,defers:=[]} w:=by
 have hl:=hv.length
 have Yn:(bu c us).length=(rowsOf c).length:=by rw[←gp ho.al,List.length_map]
 have hnd:((ids.zip (bu c us)).map (·.1)).Nodup:=by rw[yW (by omega)];exact zG
 have VH:∀s,(sB args s).oy=true:=fun s=>by
  rcases yt (l:=args) (k:=s)with e|e
  ·rw[e];rfl
  ·exact List.all_eq_true.1 Fk _ e
 have oyB:∀x:AV,x.oy=true→(∀j,x.mb j→j=1000)∧∀j,¬x.mr j:=fun x hx=>by
  cases x with
  |sv s=>exact⟨fun j e=>e.elim,fun j e=>e⟩
  |ptr k o=>exact⟨fun j e=>by cases e;exact Nat.eq_of_beq_eq_true hx,fun j e=>e⟩
  |cmp t js=>
   refine⟨fun j e=>?_,fun j e=>?_⟩
   ·exact Nat.eq_of_beq_eq_true (List.all_eq_true.1 hx _ e)
   ·exact Bool.false_ne_true (List.all_eq_true.1 hx _ e)
  |_=>exact(Bool.false_ne_true hx).elim
 have hall:cS ⟨fun _=>β,kZ (ids.zip (bu c us)) (fun _=>.nilIface),fun _=>False,M⟩ args vs:=by
  refine hv.imp (fun x hx v hh=>?_)
  exact AV.cu (E:=pJ M β) (E':=⟨fun _=>β,kZ (ids.zip (bu c us)) (fun _=>.nilIface),fun _=>False,M⟩) (Mem.le_refl _) (fun _ _=>rfl) (fun j hj=>absurd hj ((oyB x (List.all_eq_true.1 Fk x hx)).2 j)) hh
 have live:∀j R,(AS.A0 n args [(1000,⟨T,bG ids c⟩)] (ids.zip (rowsOf c))).r j=.live R→(j,R)∈ids.zip (rowsOf c):=fun j R hj=>by
  have hj:(match D3 (ids.zip (rowsOf c)) j with|some R=>lU.live R|none=>.un)=.live R:=hj
  cases e:D3 (ids.zip (rowsOf c)) j with
  |none=>rw[e]at hj;cases hj
  |some R'=>rw[e]at hj;cases hj;exact By e
 have isLive:∀j∈ids,(AS.A0 n args [(1000,⟨T,bG ids c⟩)] (ids.zip (rowsOf c))).r j≠ .un:=fun j hj=>by
  have key:∀(ids:List Nat) (Rs:List Row),ids.length=Rs.length→j∈ids→∃R,D3 (ids.zip Rs) j=some R:=by
   intro ids
   induction ids with
   |nil=>intro _ _ h;cases h
   |cons k ids ih=>
    intro Rs hl hm
    cases Rs with
    |nil=>simp at hl
    |cons R Rs=>
     rw[List.zip_cons_cons,D3]
     by_cases e:j=k
     ·subst e;exact⟨R,by simp⟩
     ·rw[bp e]
      rcases List.mem_cons.1 hm with q|q
      ·exact absurd q e
      ·exact ih Rs (by simpa using hl) q
  obtain⟨R,hR⟩:=key ids _ Oo hj
  show(match D3 (ids.zip (rowsOf c)) j with|some R=>lU.live R|none=>.un)≠ .un
  rw[hR];simp
 have box:∀j B,(AS.A0 n args [(1000,⟨T,bG ids c⟩)] (ids.zip (rowsOf c))).b j=some B→j=1000∧B=⟨T,bG ids c⟩:=fun j B h=>by
  have:=qo h
  simpa using this
 have OS:(AS.A0 n args [(1000,⟨T,bG ids c⟩)] (ids.zip (rowsOf c))).b 1000=some ⟨T,bG ids c⟩:=rfl
 exact{
  wf:=by
   refine⟨fun s j hj=>?_,fun s j hj=>?_,fun i B hB x hx j hj=>?_,fun i B hB x hx j hj=>?_⟩
   ·have:=(oyB _ (VH s)).1 j hj
    subst this;exact⟨_,OS⟩
   ·exact absurd hj ((oyB _ (VH s)).2 j)
   ·obtain⟨rfl,rfl⟩:=box i B hB
    exact absurd hj ((pI x hx).1 j)
   ·obtain⟨rfl,rfl⟩:=box i B hB
    exact isLive j ((pI x hx).2 j hj)
  marks:=⟨[],rfl,List.nodup_nil,by simp⟩
  size:=by simp[AS.A0];omega
  os:=rfl
  tape:=rfl
  output:=rfl
  grown:=Nat.le_refl _
  frame:=fun _ _ _=>rfl
  m0:=Mem.le_refl _
  eu:=fun _ _ _ e=>.inl e
  cI:=hM
  tm:=fun s=>Kx hall s
  bx:=fun i B h=>by
   obtain⟨rfl,rfl⟩:=box i B h
   refine⟨.inr (.inl rfl),ho.nb,fun h=>h,us,ho.hp,?_⟩
   exact pH (w:=w) Oo ho.al (fun j p hm=>iP (R:=p.1) (v:=p.2) hnd hm)
  inj:=fun i j B1 B2 hi hj _=>by rw[(box i B1 hi).1,(box j B2 hj).1]
  rx:=fun j R hj=>by
   obtain⟨v,hm⟩:=yY ho.al (live j R hj)
   have hν:kZ (ids.zip (bu c us)) (fun _=>Value.nilIface) j=v:=iP hnd hm
   show(∃vs:List Value,w.ownsRow 0 R.E R.sz (kZ (ids.zip (bu c us)) (fun _=>.nilIface) j) R.n vs∧SV.dH M R.cells vs)∧_
   rw[hν]
   refine⟨lK ho.al (R,v) (jV hm).2,fun g hg=>?_⟩
   have hg:v.ownBlock=some g:=by rw[←hν];exact hg
   have hb:ec c us g:=⟨(R,v),(jV hm).2,hg⟩
   obtain⟨q1,q2⟩:=ho.nr g hb
   refine⟨.inr (.inr hb),q2,fun h=>h,fun k B _ e=>q1 e.symm⟩
  eW:=fun j j' R R' h1 h2 g e1 e2=>by
   obtain⟨v,hm⟩:=yY ho.al (live j R h1)
   obtain⟨v',hm'⟩:=yY ho.al (live j' R' h2)
   have hν:kZ (ids.zip (bu c us)) (fun _=>Value.nilIface) j=v:=iP hnd hm
   have agV:kZ (ids.zip (bu c us)) (fun _=>Value.nilIface) j'=v':=iP hnd hm'
   exact Aa zG ho.ap j R v j' R' v' g hm hm' (by rw[←hν];exact e1) (by rw[←agV];exact e2)
  gP:=fun i b e=>by
   simp only[Ym]at e
   cases h:Nat.beq i 1000 with
   |false=>rw[h]at e;cases e
   |true=>rw[h]at e;cases e;rfl
  dQ:=fun i v e=>by cases e
  lj:=fun b e=>e.elim
  jj:=trivial}
theorem Dh{P:Program}{f:FuncId}{fn:Func}{code:Code}{args:List AV}{T:TypeId}{c0 c1:List Oc}{res:SV}(ids:List Nat)(hf:P.funcs[f]? =some fn)(hb:fn.body=some code)(hn:args.length≤fn.ntmps)(Fk:args.all AV.oy=true)(zG:ids.Nodup)(Oo:ids.length=(rowsOf c0).length)
  (h:∀(w:World) (M:Mem) (β:Nat) (us:List Value),Ok P (Ym w M β c0 us) code (AS.A0 fn.ntmps args [(1000,⟨T,bG ids c0⟩)] (ids.zip (rowsOf c0))) (fun e S=>(e=.normal∨e=.ret)∧Og P S fn.results.toList res∧∃ks:List Nat,S.b 1000=some ⟨T,bG ks c1⟩∧Lv S ks (rowsOf c1)∧ks.Nodup)):Tz P f args T c0 res c1:=by
 intro M w β vs us hM ho hv
 refine gh rfl hf hb (GL ids hM ho hv Fk hn zG Oo) (h w M β us) ?_
 rintro S' E a w' ⟨hr,ks,hB,hL,hk⟩ hh
 obtain⟨v,hv,hx⟩:=(yq.sv hr).run hh
 have hβ:E.β 1000=β:=hh.gP 1000 β rfl
 obtain⟨us',ho',ju⟩:=nY hh hB hL hk
 rw[hβ]at ho'
 refine⟨v,hv,v,E.M,us',rfl,hh.m0,fun b o x e=>?_,hh.cI,hx,ho',fun g hg=>?_,hh.os,hh.tape,hh.output,hh.grown,fun k hk hne hno=>hh.frame k hk (fun e=>e.elim hne hno)⟩
 ·rcases hh.eu b o x e with q|q|q|q
  ·exact .inl q
  ·exact .inr (.inl q)
  ·rw[show b=β from q,ho'.nb o]at e;cases e
  ·exact .inr (.inr q)
 ·obtain⟨j,hj,xn⟩:=(ju g).1 hg
  obtain⟨R,hR⟩:=hL.mem j hj
  obtain⟨_,q⟩:=hh.rx j R hR
  rcases(q g xn).1 with q1|q1|q1
  ·exact .inr q1
  ·exact absurd q1 (ho'.nr g hg).1
  ·exact .inl q1
end Go.Fw
namespace Go.Fw
open Go.RowKit
def Un(S:AS):List Nat→Prop
 |[]=>True
 |k::ks=>(S.r k=.un∧k<1000)∧Un S ks
theorem Un.mem{S:AS}:∀{ks:List Nat},Un S ks→∀k∈ks,S.r k=.un∧k<1000
 |k::ks,h,j,hj=>by
  rcases List.mem_cons.1 hj with rfl|hj
  ·exact h.1
  ·exact Un.mem h.2 j hj
 |[],_,j,hj=>by cases hj
theorem Un.congr{S S':AS}:∀{ks:List Nat},(∀k∈ks,S'.r k=S.r k)→Un S ks→Un S' ks
 |[],_,_=>trivial
 |k::ks,h,hu=>⟨by rw[h k (by simp)];exact hu.1,Un.congr (fun j hj=>h j (List.mem_cons_of_mem _ hj)) hu.2⟩
theorem Lv.congr{S S':AS}:∀{js:List Nat} {Rs:List Row},(∀k∈js,S'.r k=S.r k)→Lv S js Rs→Lv S' js Rs
 |[],[],_,_=>trivial
 |j::js,R::Rs,h,hl=>⟨by rw[h j (by simp)];exact hl.1,Lv.congr (fun k hk=>h k (List.mem_cons_of_mem _ hk)) hl.2⟩
 |[],_::_,_,h=>h.elim
 |_::_,[],_,h=>h.elim
def yZ(js ks:List Nat)(c:List Oc):List (Nat×lU):=js.map (fun j=>(j,lU.dead))++(ks.zip (rowsOf c)).map (fun p=>(p.1,.live p.2))
theorem I8:∀(ks:List Nat) (l:List (Row×Value)),(ks.zip l).map (fun n=>(n.1,lU.live n.2.1))=(ks.zip (l.map (·.1))).map (fun p=>(p.1,.live p.2))
 |[],_=>rfl
 |_::_,[]=>rfl
 |k::ks,p::l=>by rw[List.map_cons,List.zip_cons_cons,List.zip_cons_cons,List.map_cons,List.map_cons,I8 ks l]
theorem I9{M:Mem}{w:World}{c:List Oc}{us:List Value}(h:pG M w c us)(js ks:List Nat):yV js (ks.zip (bu c us))=yZ js ks c:=by
 unfold yV yZ
 rw[I8,gp h]
section steps
variable {P:Program}{C:Ctx}{ops:Array Oper}{S:AS}{nd:Bool}{K:List Ac→AS→Prop}{rest:List Oper}{acc:List Ac}
variable {gd:Option (Nat×Bool)}{rg:List Nat}{d:Nat}{ty:TypeId}{pos:String}{aft:Array Edge}{x y z:Operand}{T U E0:TypeId}
theorem az.TA{E:Env}{a:Act}{w w':World}(h:az C S E a w){i:Nat}{js ks:List Nat}{c0 c1:List Oc}{us us':List Value}{M':Mem}(hB:S.b i=some ⟨T,bG js c0⟩)(hL:Lv S js (rowsOf c0))(hks:ks.Nodup)(Eg:ks.length=(rowsOf c1).length)(TB:Un S ks)
  (AI:∀g,ec c0 us g↔∃j∈js,(E.ν j).ownBlock=some g) (hM:E.M.le M') (hn:∀b o x,M' b o=some x→E.M b o=some x∨w.heap.size≤b∨ec c0 us b) (hin:M'.cI w') (ho:qC M' w' (E.β i) T c1 us') (hg:∀g,ec c1 us' g→ec c0 us g∨w.heap.size≤g)
  (hos:w'.os=w.os) (pE:w'.tape=w.tape) (hout:w'.output=w.output) (hsize:w.heap.size≤w'.heap.size) (ju:∀k,k<w.heap.size→k≠E.β i→¬ec c0 us k→w'.heap[k]? =w.heap[k]?):
  ∃E':Env,E'.M=M'∧E'.β=E.β∧az C (AS.bC (yZ js ks c1) (AS.fG [(i,⟨T,bG ks c1⟩)] S)) E' a w':=by
 have Yn:(bu c1 us').length=(rowsOf c1).length:=by rw[←gp ho.al,List.length_map]
 have hnd:((ks.zip (bu c1 us')).map (·.1)).Nodup:=by rw[yW (by omega)];exact hks
 rw[←I9 ho.al js ks]
 refine⟨{E with M:=M',ν:=kZ (ks.zip (bu c1 us')) E.ν},rfl,rfl,h.ab2 hB js (ks.zip (bu c1 us')) (fun j hj=>hL.mem j hj) (fun k R v hm=>TB.mem k (jV hm).1) hnd hM (fun b o x e=>?_) hin ho.hp ho.nb ?_ (fun x hx=>?_) (fun k R v hm=>?_) (Aa hks ho.ap) hos pE hout hsize (fun k hk hne hno=>ju k hk hne (fun q=>?_))⟩
 ·rcases hn b o x e with q|q|q
  ·exact .inl q
  ·exact .inr (.inl q)
  ·exact .inr (.inr ((AI b).1 q))
 ·exact pH (E:={E with M:=M',ν:=kZ (ks.zip (bu c1 us')) E.ν}) (w:=w') Eg ho.al (fun j p hm=>iP (R:=p.1) (v:=p.2) hnd hm)
 ·obtain⟨q1,q2⟩:=pI x hx
  refine⟨q1,fun j hj=>?_⟩
  have hj:=q2 j hj
  have key:∀(ks:List Nat) (l:List (Row×Value)),ks.length=l.length→j∈ks→∃R v,(j,R,v)∈ks.zip l:=by
   intro ks
   induction ks with
   |nil=>intro _ _ h;cases h
   |cons k ks ih=>
    intro l hl hm
    cases l with
    |nil=>simp at hl
    |cons p l=>
     rw[List.zip_cons_cons]
     rcases List.mem_cons.1 hm with q|q
     ·subst q;exact⟨p.1,p.2,by simp⟩
     ·obtain⟨R,v,h⟩:=ih l (by simpa using hl) q
      exact⟨R,v,List.mem_cons_of_mem _ h⟩
  exact key ks _ (by omega) hj
 ·refine⟨lK ho.al (R,v) (jV hm).2,fun g HQ=>?_⟩
  have hb:ec c1 us' g:=⟨(R,v),(jV hm).2,HQ⟩
  obtain⟨q1,q2⟩:=ho.nr g hb
  refine⟨?_,q2,q1⟩
  rcases hg g hb with q|q
  ·exact .inl ((AI g).1 q)
  ·exact .inr q
 ·obtain⟨j,hj,e⟩:=(AI k).1 q
  exact hno j hj e
theorem RT.Di(hg:Gd ops S gd rg){f:FuncId}[bF P f]{g:Operand}{xs:Array Operand}{at_:Array TypeId}{args:List AV}{T:TypeId}{c0 c1:List Oc}{res:SV}(hp:Tz P f args T c0 res c1)(i:Nat)(js ks:List Nat)(hB:S.b i=some ⟨T,bG js c0⟩)(hL:Lv S js (rowsOf c0))(QC:js.Nodup)(hks:ks.Nodup)(Eg:ks.length=(rowsOf c1).length)(TB:Un S ks)
  (Fk:args.all AV.oy=true) (hf:S.ev g=.sv (.v (.func (.func f) #[] #[]))) (hargs:ur S xs.toList (args.map (AV.Ty i))) (hd:d<S.n)
  (next:RunT P C ops nd K rest (⟨rg++(aq g++xs.toList.flatMap aq),[i],js++ks,⟨some (d,.sv res),[(i,⟨T,bG ks c1⟩)],yZ js ks c1⟩⟩::acc) ((AS.bC (yZ js ks c1) (AS.fG [(i,⟨T,bG ks c1⟩)] S)).set d (.sv res))):RunT P C ops nd K (⟨some d,.call ⟨.value g,xs,at_⟩,ty,pos,aft,gd⟩::rest) acc S:=by
 refine .inl ⟨_,[i],js++ks,_,?_,next⟩
 rintro S' hn ht hb hr k a w L Q ho ⟨E,h⟩ Yo
 refine bW (C:=C) ho (hg.wanted h (fun s hs=>ht s (List.mem_append_left _ hs)) rfl) ?_
 have tW:a.eval g=.func (.func f) #[] ⟨[]⟩:=by
  have h1:=h.ev g;rw[aJ (fun _ h=>List.mem_append_right _ (List.mem_append_left _ h)) ht,hf]at h1;exact h1
 have hall:=yX Fk (ur.vals h hargs (fun s hs=>ht s (List.mem_append_right _ (List.mem_append_right _ hs))))
 have fu:S'.b i=some ⟨T,bG js c0⟩:=by rw[hb i (by simp)];exact hB
 have QD:Lv S' js (rowsOf c0):=hL.congr (fun k hk=>hr k (List.mem_append_left _ hk))
 have agW:Un S' ks:=TB.congr (fun k hk=>hr k (List.mem_append_right _ hk))
 obtain⟨us,Mi,AI⟩:=nY h fu QD QC
 refine bR (C:=C) (by intro c h;cases h) (l8 tW) ?_
 rw[List.append_nil]
 refine⟨fun h=>by simp at h,gB ((hp E.M w (E.β i) _ us h.cI Mi hall).mono ?_)⟩
 rintro e w' ⟨v,M',us',rfl,hM,hnew,hin,hv,Kk,Oq,hos,pE,hout,hsize,ju⟩
 obtain⟨E',e1,e2,h1⟩:=h.TA fu QD hks Eg agW AI hM hnew hin Kk Oq hos pE hout hsize ju
 refine Yo _ _ ⟨_,h1.put (x:=.sv res) (v:=v) (by show res.h E'.M v;rw[e1];exact hv) ?_ eY⟩
 rw[(ff _ _).1];show d<S'.n;omega
theorem RT.bY(hg:Gd ops S gd rg){i o:Nat}(hx:S.ev x=.ptr i o)(hd:d<S.n)
  (next:RunT P C ops nd K rest (⟨rg++aq x,[],[],⟨some (d,.ptr i o),[],[]⟩⟩::acc) (S.set d (.ptr i o))):RunT P C ops nd K (⟨some d,.nilCheck x,ty,pos,aft,gd⟩::rest) acc S:=
 RT.value hg (aq x) [] [] (.ptr i o) hd (by intro c h;cases h) (fun S' ht _ _ E a w h=>by
  have hx':S'.ev x=.ptr i o:=by rw[aJ (fun _ h=>h) ht,hx]
  have h1:=h.ev x
  rw[hx']at h1
  have h2:a.eval x=.pointer (some ⟨E.β i,o,none⟩):=h1
  exact⟨a.eval x,by simp[execOp,h2],h1,lY h.wf hx'⟩) next
class AJ (P:Program) (T:TypeId):Prop where
 u:P.underlying T=some (.pointer (P.pointee T))
theorem RT.GM(hg:Gd ops S gd rg)[tT:AJ P T]{i o:Nat}(hx:S.ev x=.ptr i o)(hy:S.ev y=.sv (.v (.pointer none)))(hd:d<S.n)
  (next:RunT P C ops nd K rest (⟨rg++(aq x++aq y),[],[],⟨some (d,.sv (.v (.bool false))),[],[]⟩⟩::acc) (S.set d (.sv (.v (.bool false))))):RunT P C ops nd K (⟨some d,.binOp .eql T x y U,ty,pos,aft,gd⟩::rest) acc S:=
 RT.value hg (aq x++aq y) [] [] (.sv (.v (.bool false))) hd (by intro c h;cases h) (fun S' ht _ _ E a w h=>by
  have h1:=h.ev x
  rw[aJ (fun _ h=>List.mem_append_left _ h) ht,hx]at h1
  have h2:=h.ev y
  rw[aJ (fun _ h=>List.mem_append_right _ h) ht,hy]at h2
  have h1:a.eval x=.pointer (some ⟨E.β i,o,none⟩):=h1
  have h2:a.eval y=.pointer none:=h2
  have e:=run_eql_pointer_nil (P:=P) w T (some ⟨E.β i,o,none⟩) tT.u
  refine⟨.bool false,?_,rfl,eY⟩
  simp[execOp,h1,h2,eqGuard,e]) next
def Fc.av:Fc→AV
 |.val s=>.sv s
 |.box i=>.ptr i 0
 |.row i=>.row i
theorem RT.nZ(hg:Gd ops S gd rg){i:Nat}{js:List Fc}{s:Fc}(hx:S.ev x=.cmp .wm js)(hi:js[i]? =some s)(hd:d<S.n)
  (next:RunT P C ops nd K rest (⟨rg++aq x,[],[],⟨some (d,s.av),[],[]⟩⟩::acc) (S.set d s.av)):RunT P C ops nd K (⟨some d,.extract x i,ty,pos,aft,gd⟩::rest) acc S:=
 RT.value hg (aq x) [] [] s.av hd (by intro c h;cases h) (fun S' ht _ _ E a w h=>by
  have hx':S'.ev x=.cmp .wm js:=by rw[aJ (fun _ h=>h) ht,hx]
  have h1:=h.ev x
  rw[hx']at h1
  obtain⟨l1,l2⟩:=lY h.wf hx'
  obtain⟨vs,hv,hall⟩:=h1
  have hv:a.eval x=.tuple ⟨vs⟩:=hv
  obtain⟨u,hu,hs⟩:=hall.get hi
  have hm:=List.mem_of_getElem? hi
  refine⟨u,by simp[execOp,hv,Instr.extract,hu],?_,fun j e=>?_,fun j e=>?_⟩
  ·cases s<;>exact hs
  ·cases s with
   |val s=>exact e.elim
   |box k=>have e:j=k:=e;subst e;exact l1 j hm
   |row k=>exact e.elim
  ·cases s with
   |val s=>exact e.elim
   |box k=>exact e.elim
   |row k=>have e:j=k:=e;subst e;exact l2 j hm) next
def agX(tp:Bool)(p:Value)(rs:List Value):Value:=bif tp then .tuple ⟨p::rs⟩else p
def Le(P:Program)(f:FuncId)(args:List SV)(tp:Bool)(rest:List SV)(T:TypeId)(c:List Oc):Prop:=
 ∀(M:Mem) (w:World) (vs:List Value),M.cI w→SV.dH M args vs→
  Calls P f ⟨vs⟩ w fun e w'=>∃β rs M' us,e=.returned (agX tp (.pointer (some ⟨β,0,none⟩)) rs)∧M.le M'∧(∀b o x,M' b o=some x→M b o=some x∨w.heap.size≤b)∧M'.cI w'∧SV.dH M' rest rs∧
   qC M' w' β T c us∧w.heap.size≤β∧(∀g,ec c us g→w.heap.size≤g)∧Below w.heap.size w w'
theorem Ja{w:World}{M:Mem}{S':AS}{E:Env}{a:Act}{w':World}{k:Nat}{ks:List Nat}{c:List Oc}(hB:S'.b k=some ⟨T,bG ks c⟩)(hL:Lv S' ks (rowsOf c))(hk:ks.Nodup)(hh:az (Ib w M) S' E a w'):
  ∃us,M.le E.M∧(∀b o x,E.M b o=some x→M b o=some x∨w.heap.size≤b)∧E.M.cI w'∧qC E.M w' (E.β k) T c us∧w.heap.size≤E.β k∧(∀g,ec c us g→w.heap.size≤g)∧Below w.heap.size w w':=by
 obtain⟨us,ho,ju⟩:=nY hh hB hL hk
 refine⟨us,hh.m0,fun b o x e=>?_,hh.cI,ho,(hh.bx k _ hB).1.elim id (fun h=>h.elim),fun g hg=>?_,hh.os,hh.tape,hh.output,hh.grown,fun k hk=>hh.frame k hk (fun h=>h)⟩
 ·rcases hh.eu b o x e with h|h|h
  ·exact .inl h
  ·exact .inr h
  ·exact h.elim
 ·obtain⟨j,hj,xn⟩:=(ju g).1 hg
  obtain⟨R,hR⟩:=hL.mem j hj
  exact((hh.rx j R hR).2 g xn).1.elim id (fun h=>h.elim)
theorem Jb{f:FuncId}{fn:Func}{code:Code}{args:List SV}{c:List Oc}(hf:P.funcs[f]? =some fn)(hb:fn.body=some code)(hn:args.length≤fn.ntmps)
  (h:∀(w:World) (M:Mem) (vs:List Value),SV.dH M args vs→Ok P (Ib w M) code (AS.init fn.ntmps args) (fun e S=>(e=.normal∨e=.ret)∧∃(k:Nat) (ks:List Nat),yq P S fn.results.toList (.ptr k 0)∧S.b k=some ⟨T,bG ks c⟩∧Lv S ks (rowsOf c)∧ks.Nodup)):Le P f args false [] T c:=by
 intro M w vs hM hvs
 refine gh rfl hf hb (lF hM hvs hn) (h w M vs hvs) ?_
 rintro S' E a w' ⟨k,ks,hr,hB,hL,hk⟩ hh
 obtain⟨v,hv,hx⟩:=hr.run hh
 obtain rfl:v=.pointer (some ⟨E.β k,0,none⟩):=hx
 obtain⟨us,q1,q2,q3,q4,q5,q6,q7⟩:=Ja hB hL hk hh
 exact⟨_,hv,E.β k,[],E.M,us,rfl,q1,q2,q3,trivial,q4,q5,q6,q7⟩
theorem AK{f:FuncId}{fn:Func}{code:Code}{args:List SV}{s:SV}{c:List Oc}{t1 t2:Nat}(hf:P.funcs[f]? =some fn)(hb:fn.body=some code)(hn:args.length≤fn.ntmps)(hres:fn.results=#[.tmp t1,.tmp t2])
  (h:∀(w:World) (M:Mem) (vs:List Value),SV.dH M args vs→Ok P (Ib w M) code (AS.init fn.ntmps args) (fun e S=>(e=.normal∨e=.ret)∧∃(k:Nat) (ks:List Nat),S.t t1=.ptr k 0∧S.t t2=.sv s∧S.b k=some ⟨T,bG ks c⟩∧Lv S ks (rowsOf c)∧ks.Nodup)):Le P f args true [s] T c:=by
 intro M w vs hM hvs
 refine gh rfl hf hb (lF hM hvs hn) (h w M vs hvs) ?_
 rintro S' E a w' ⟨k,ks,Yp,hr2,hB,hL,hk⟩ hh
 have h1:=hh.tm t1
 rw[Yp]at h1
 have h1:a.tmps.getD t1 undef=.pointer (some ⟨E.β k,0,none⟩):=h1
 have h2:=hh.tm t2
 rw[hr2]at h2
 obtain⟨us,q1,q2,q3,q4,q5,q6,q7⟩:=Ja hB hL hk hh
 refine⟨.tuple #[.pointer (some ⟨E.β k,0,none⟩),a.tmps.getD t2 undef],?_,E.β k,[a.tmps.getD t2 undef],E.M,us,rfl,q1,q2,q3,⟨h2,trivial⟩,q4,q5,q6,q7⟩
 rw[Array.getD_eq_getD_getElem?]at h1
 simp[results,hres,h1]
theorem az.Mj{a:Act}{w:World}:∀(ks:List Nat) (l:List (Row×Value)) {S:AS} {E:Env},az C S E a w→ks.length=l.length→ks.Nodup→Un S ks→(∀p∈l,∃vs:List Value,w.ownsRow 0 p.1.E p.1.sz p.2 p.1.n vs∧SV.dH E.M p.1.cells vs)→I7 l→(∀p∈l,∀g,p.2.ownBlock=some g→Nh C S E g)→
  ∃E':Env,E'.M=E.M∧E'.β=E.β∧E'.O=E.O∧(∀i p,(i,p)∈ks.zip l→E'.ν i=p.2)∧(∀i,i∉ks→E'.ν i=E.ν i)∧az C (AS.bC ((ks.zip l).map (fun n=>(n.1,.live n.2.1))) S) E' a w
 |[],[],S,E,h,_,_,_,_,_,_=>⟨E,rfl,rfl,rfl,fun i p hm=>(by simp at hm),fun _ _=>rfl,h⟩
 |k::ks,p::l,S,E,h,hl,hn,hu,ho,ha,hf=>by
  obtain⟨R,v⟩:=p
  rw[List.nodup_cons]at hn
  obtain⟨ha1,ha2⟩:=List.pairwise_cons.1 ha
  obtain⟨vs,Mi,Kk⟩:=ho (R,v) (by simp)
  have h1:=h.Bz hu.1.1 hu.1.2 [] none (.inl ⟨rfl,rfl⟩) (R':=R) Mi Kk (fun g hg=>.inr (hf (R,v) (by simp) g hg)) (oX w none)
  have hu':Un (AS.bC ([]++[(k,.live R)]) S) ks:=hu.2.congr (fun j hj=>by
   show(AS.oV S k _).r j=_
   exact AS.lB _ _ _ _ (fun e=>hn.1 (e▸hj)))
  obtain⟨E',q1,q2,q3,q4,q5,q6⟩:=az.Mj ks l h1 (by simpa using hl) hn.2 hu' (fun p hp=>ho p (List.mem_cons_of_mem _ hp)) ha2 (fun p hp g hg=>by
   obtain⟨f1,f2,f3,f4,f5⟩:=hf p (List.mem_cons_of_mem _ hp) g hg
   refine⟨f1,f2,f3,f4,fun j R' mY e=>?_⟩
   have mY:(AS.oV S k (.live R)).r j=.live R':=mY
   by_cases ej:j=k
   ·subst ej
    have e:(if j=j then v else E.ν j).ownBlock=some g:=e
    rw[if_pos rfl]at e
    exact ha1 p hp g e hg
   ·rw[AS.lB _ _ _ _ ej]at mY
    have e:(if j=k then v else E.ν j).ownBlock=some g:=e
    rw[if_neg ej]at e
    exact f5 j R' mY e)
  refine⟨E',q1,q2,q3,fun i p hm=>?_,fun i hi=>?_,q6⟩
  ·rw[List.zip_cons_cons]at hm
   rcases List.mem_cons.1 hm with e|e
   ·cases e
    rw[q5 k hn.1]
    show(if k=k then v else E.ν k)=v
    rw[if_pos rfl]
   ·exact q4 i p e
  ·rw[q5 i (fun hm=>hi (List.mem_cons_of_mem _ hm))]
   show(if i=k then v else E.ν i)=E.ν i
   rw[if_neg (fun e=>hi (by rw[e];simp))]
 |[],_::_,_,_,_,hl,_,_,_,_,_=>by simp at hl
 |_::_,[],_,_,_,hl,_,_,_,_,_=>by simp at hl
theorem Dj(i:Nat)(B:oG):∀(l:List (Nat×lU)) (S:AS),AS.bC l (S.kH i B)=(AS.bC l S).kH i B
 |[],_=>rfl
 |(j,R)::l,S=>Dj i B l (S.oV j R)
theorem uZ{α β:Type}:∀{l:List α} {k:List β} {a:α},l.length=k.length→a∈l→∃b,(a,b)∈l.zip k
 |a::l,c::k,b,h,hb=>by
  rcases List.mem_cons.1 hb with rfl|hb
  ·exact⟨c,by rw[List.zip_cons_cons];simp⟩
  ·obtain⟨a',h'⟩:=uZ (l:=l) (k:=k) (by simpa using h) hb
   exact⟨a',by rw[List.zip_cons_cons];exact List.mem_cons_of_mem _ h'⟩
 |[],_,_,_,hb=>by cases hb
 |_::_,[],_,h,_=>by simp at h
theorem az.newObj{E:Env}{a:Act}{w w':World}(h:az C S E a w){i:Nat}(hi:S.b i=none)(hp:C.gP i=none){ks:List Nat}{c:List Oc}{us:List Value}{M':Mem}{β:Nat}(hks:ks.Nodup)(Eg:ks.length=(rowsOf c).length)(TB:Un S ks)
  (hM:E.M.le M') (hn:∀b o x,M' b o=some x→E.M b o=some x∨w.heap.size≤b) (hin:M'.cI w') (ho:qC M' w' β T c us) (hβ:w.heap.size≤β) (hg:∀g,ec c us g→w.heap.size≤g) (Sx:Below w.heap.size w w'):
  ∃E':Env,E'.M=M'∧E'.β i=β∧az C (AS.bC (yZ [] ks c) (AS.fG [(i,⟨T,bG ks c⟩)] S)) E' a w':=by
 have Yn:(bu c us).length=(rowsOf c).length:=by rw[←gp ho.al,List.length_map]
 have h0:=h.grow hM hn hin Sx
 obtain⟨E1,q1,q2,q3,q4,q5,h1⟩:=az.Mj ks (bu c us) h0 (by omega) hks TB (lK ho.al) ho.ap (fun p hp g HQ=>h.yw (hg g ⟨p,hp,HQ⟩) (ho.nr g ⟨p,hp,HQ⟩).2)
 have hS1:AS.bC ((ks.zip (bu c us)).map (fun n=>(n.1,.live n.2.1))) S=AS.bC (yZ [] ks c) S:=by rw[←I9 ho.al [] ks];rfl
 rw[hS1]at h1
 obtain⟨f1,f2,f3,f4,f5⟩:=h.yw (M':=M') hβ ho.nb
 have hi1:(AS.bC (yZ [] ks c) S).b i=none:=by rw[(ff _ _).2.2.1];exact hi
 have hfree:Nh C (AS.bC (yZ [] ks c) S) E1 β:=by
  refine⟨f1,by rw[q1];exact f2,by rw[q3];exact f3,fun j B hB=>?_,fun j R hR e=>?_⟩
  ·rw[(ff _ _).2.2.1]at hB;rw[q2];exact f4 j B hB
  ·by_cases hj:j∈ks
   ·obtain⟨p,hm⟩:=uZ (l:=ks) (k:=bu c us) (by omega) hj
    rw[q4 j p hm]at e
    exact(ho.nr β ⟨p,(jV hm).2,e⟩).1 rfl
   ·rw[lp,xL (fun R hm=>by
     obtain⟨x,hx,e⟩:=List.mem_map.1 (show(j,R)∈(ks.zip (rowsOf c)).map (fun p=>(p.1,lU.live p.2))from hm)
     obtain⟨k,R2⟩:=x
     have e:k=j:=congrArg Prod.fst e
     exact hj (e▸(jV hx).1))]at hR
    rw[q5 j hj]at e
    exact f5 j R hR e
 have h2:=h1.L3 hi1 hp hfree ho.hp (pH (w:=w') Eg (by rw[q1];exact ho.al) q4) (fun x hx=>by
  obtain⟨p1,p2⟩:=pI x hx
  refine⟨fun j e=>absurd e (p1 j),fun j e=>?_⟩
  obtain⟨R,hm⟩:=uZ (l:=ks) (k:=rowsOf c) Eg (p2 j e)
  obtain⟨R',mY⟩:=Dg (l:=yZ [] ks c) (j:=j) (R:=.live R) (List.mem_map.2 ⟨(j,R),hm,rfl⟩)
  rw[lp,mY]
  obtain⟨x,hx,e⟩:=List.mem_map.1 (show(j,R')∈(ks.zip (rowsOf c)).map (fun p=>(p.1,lU.live p.2))from xM mY)
  rw[←show lU.live x.2=R' from congrArg Prod.snd e]
  simp)
 refine⟨{E1 with β:=fun j=>if j=i then β else E1.β j},q1,?_,?_⟩
 rotate_left 1
 ·rw[show AS.fG [(i,(⟨T,bG ks c⟩:oG))] S=S.kH i ⟨T,bG ks c⟩from rfl,Dj]
  exact h2
 ·show(if i=i then β else E1.β i)=β
  rw[if_pos rfl]
theorem RT.Lf(hg:Gd ops S gd rg){f:FuncId}[bF P f]{g:Operand}{xs:Array Operand}{at_:Array TypeId}{args:List SV}{T:TypeId}{c:List Oc}(hp:Le P f args false [] T c)(ks:List Nat)(hks:ks.Nodup)(Eg:ks.length=(rowsOf c).length)(TB:Un S ks)(hf:S.ev g=.sv (.v (.func (.func f) #[] #[])))(hargs:gN S xs.toList args)(hd:d<S.n)(hdb:S.b d=none)(KB:C.gP d=none)
  (next:RunT P C ops nd K rest (⟨rg++(aq g++xs.toList.flatMap aq),[d],ks,⟨some (d,.ptr d 0),[(d,⟨T,bG ks c⟩)],yZ [] ks c⟩⟩::acc) ((AS.bC (yZ [] ks c) (AS.fG [(d,⟨T,bG ks c⟩)] S)).set d (.ptr d 0))):RunT P C ops nd K (⟨some d,.call ⟨.value g,xs,at_⟩,ty,pos,aft,gd⟩::rest) acc S:=by
 refine .inl ⟨_,[d],ks,_,?_,next⟩
 rintro S' hn ht hb hr i a w L Q ho ⟨E,h⟩ hL
 refine bW (C:=C) ho (hg.wanted h (fun s hs=>ht s (List.mem_append_left _ hs)) rfl) ?_
 have tW:a.eval g=.func (.func f) #[] ⟨[]⟩:=by
  have h1:=h.ev g;rw[aJ (fun _ h=>List.mem_append_right _ (List.mem_append_left _ h)) ht,hf]at h1;exact h1
 have hall:=gN.vals h hargs (fun s hs=>ht s (List.mem_append_right _ (List.mem_append_right _ hs)))
 have hdn:S'.b d=none:=by rw[hb d (by simp)];exact hdb
 refine bR (C:=C) (by intro c h;cases h) (l8 tW) ?_
 rw[List.append_nil]
 refine⟨fun h=>by simp at h,gB ((hp E.M w _ h.cI hall).mono ?_)⟩
 rintro e w' ⟨β,rs,M',us,rfl,hM,hnew,hin,hrs,Kk,hβ,Oq,Sx⟩
 obtain⟨E',e1,e2,h1⟩:=h.newObj hdn KB hks Eg (TB.congr hr) hM hnew hin Kk hβ Oq Sx
 refine hL _ _ ⟨_,h1.put (x:=.ptr d 0) (v:=.pointer (some ⟨β,0,none⟩)) (by show _=Value.pointer (some ⟨E'.β d,0,none⟩);rw[e2]) ?_ ⟨fun j e=>?_,fun j e=>e.elim⟩⟩
 ·rw[(ff _ _).1];show d<S'.n;omega
 ·have e:j=d:=e
  subst e
  rw[(ff _ _).2.2.1]
  exact⟨_,AS.cD _ _ _⟩
theorem RT.BG(hg:Gd ops S gd rg){f:FuncId}[bF P f]{g:Operand}{xs:Array Operand}{at_:Array TypeId}{args:List SV}{T:TypeId}{c:List Oc}{s:SV}(hp:Le P f args true [s] T c)(ks:List Nat)(hks:ks.Nodup)(Eg:ks.length=(rowsOf c).length)(TB:Un S ks)(hf:S.ev g=.sv (.v (.func (.func f) #[] #[])))(hargs:gN S xs.toList args)(hd:d<S.n)(hdb:S.b d=none)(KB:C.gP d=none)
  (next:RunT P C ops nd K rest (⟨rg++(aq g++xs.toList.flatMap aq),[d],ks,⟨some (d,.cmp .wm [.box d,.val s]),[(d,⟨T,bG ks c⟩)],yZ [] ks c⟩⟩::acc) ((AS.bC (yZ [] ks c) (AS.fG [(d,⟨T,bG ks c⟩)] S)).set d (.cmp .wm [.box d,.val s]))):RunT P C ops nd K (⟨some d,.call ⟨.value g,xs,at_⟩,ty,pos,aft,gd⟩::rest) acc S:=by
 refine .inl ⟨_,[d],ks,_,?_,next⟩
 rintro S' hn ht hb hr i a w L Q ho ⟨E,h⟩ hL
 refine bW (C:=C) ho (hg.wanted h (fun s hs=>ht s (List.mem_append_left _ hs)) rfl) ?_
 have tW:a.eval g=.func (.func f) #[] ⟨[]⟩:=by
  have h1:=h.ev g;rw[aJ (fun _ h=>List.mem_append_right _ (List.mem_append_left _ h)) ht,hf]at h1;exact h1
 have hall:=gN.vals h hargs (fun s hs=>ht s (List.mem_append_right _ (List.mem_append_right _ hs)))
 have hdn:S'.b d=none:=by rw[hb d (by simp)];exact hdb
 refine bR (C:=C) (by intro c h;cases h) (l8 tW) ?_
 rw[List.append_nil]
 refine⟨fun h=>by simp at h,gB ((hp E.M w _ h.cI hall).mono ?_)⟩
 rintro e w' ⟨β,rs,M',us,rfl,hM,hnew,hin,hrs,Kk,hβ,Oq,Sx⟩
 obtain⟨E',e1,e2,h1⟩:=h.newObj hdn KB hks Eg (TB.congr hr) hM hnew hin Kk hβ Oq Sx
 match rs,hrs with
 |[r],hrs=>
  refine hL _ _ ⟨_,h1.put (x:=.cmp .wm [.box d,.val s]) (v:=.tuple #[.pointer (some ⟨β,0,none⟩),r]) ⟨[.pointer (some ⟨β,0,none⟩),r],rfl,by show _=Value.pointer (some ⟨E'.β d,0,none⟩);rw[e2],by show s.h E'.M r;rw[e1];exact hrs.1,trivial⟩ ?_ ⟨fun j e=>?_,fun j e=>?_⟩⟩
  ·rw[(ff _ _).1];show d<S'.n;omega
  ·have e:j=d:=by simpa[AV.mb]using e
   subst e
   rw[(ff _ _).2.2.1]
   exact⟨_,AS.cD _ _ _⟩
  ·simp[AV.mr]at e
end steps
end Go.Fw
namespace Go.Fw
open Go.RowKit
def xN(P:Program)(f:FuncId)(args:List AV)(T:TypeId)(c:List Oc)(res:SV):Prop:=
 ∀(M:Mem) (w:World) (β:Nat) (vs us:List Value),M.cI w→qC M w β T c us→cS (pJ M β) args vs→
  Calls P f ⟨vs⟩ w fun e w'=>∃v M',e=.returned v∧M.le M'∧(∀b o x,M' b o=some x→M b o=some x∨w.heap.size≤b)∧M'.cI w'∧res.h M' v∧
   qC M' w' β T c us∧w'.os=w.os∧w'.tape=w.tape∧w'.output=w.output∧w.heap.size≤w'.heap.size∧∀k,k<w.heap.size→k≠β→¬ec c us k→w'.heap[k]? =w.heap[k]?
def lkV:List (Nat×Row×Value)→Nat→Option Value
 |[],_=>none
 |(k,_,v)::l,j=>if j=k then some v else lkV l j
theorem BH:∀{l:List (Nat×Row×Value)} {j:Nat} {v:Value},lkV l j=some v→∃R,(j,R,v)∈l
 |(k,R,u)::l,j,v,h=>by
  rw[lkV]at h
  by_cases e:j=k
  ·rw[if_pos e]at h;cases h;subst e;exact⟨R,by simp⟩
  ·rw[if_neg e]at h
   obtain⟨R',hm⟩:=BH h
   exact⟨R',List.mem_cons_of_mem _ hm⟩
 |[],_,_,h=>by cases h
theorem Lg:∀{l:List (Nat×Row×Value)} {j:Nat} {R:Row} {v:Value},(l.map (·.1)).Nodup→(j,R,v)∈l→lkV l j=some v
 |(k,R',v')::l,j,R,v,hn,h=>by
  rw[List.map_cons,List.nodup_cons]at hn
  rw[lkV]
  rcases List.mem_cons.1 h with e|e
  ·cases e;rw[if_pos rfl]
  ·have:j≠k:=fun q=>hn.1 (List.mem_map.2 ⟨(j,R,v),e,q⟩)
   rw[if_neg this];exact Lg hn.2 e
theorem Yq{ids:List Nat}(h:(ids.all fun i=>Nat.ble 1000 i)=true):∀i∈ids,1000≤i:=fun i hi=>Nat.le_of_ble_eq_true (List.all_eq_true.1 h i hi)
def Jc(w:World)(M:Mem)(β:Nat)(c:List Oc)(us:List Value)(ids:List Nat)(zG:(ids.all fun i=>Nat.ble 1000 i)=true):Ctx:={w0:=w,M0:=M,own:=fun k=>k=β∨ec c us k,vK:=fun k=>k=β∨ec c us k,gP:=fun i=>bif Nat.beq i 1000 then some β else none,dQ:=lkV (ids.zip (bu c us)),ro:=none,J:=fun _ _ _ _ _=>True,D8:=fun _ h=>h,Nc:=fun _ _ h=>(by obtain⟨R,hm⟩:=BH h;exact Yq zG _ (jV hm).1),jf:=fun _ _ _ _ _ _ _ _ _ _ _ _ _ _ _ _=>trivial}
def Oc.cst:Oc→Prop
 |.s x=>∃v,x=.v v
 |.r _=>True
def Ab:List Oc→Prop
 |[]=>True
 |c::l=>c.cst∧Ab l
theorem BI{M M':Mem}{w w':World}:∀{c:List Oc} {us us':List Value},Ab c→pG M w c us→pG M' w' c us'→bu c us=bu c us'→us=us'
 |[],[],[],_,_,_,_=>rfl
 |.s x::l,v::vs,v'::vs',hc,h,h',e=>by
  obtain⟨y,rfl⟩:=hc.1
  have e1:v=y:=h.1
  have e2:v'=y:=h'.1
  rw[e1,e2,BI hc.2 h.2 h'.2 e]
 |.r R::l,v::vs,v'::vs',hc,h,h',e=>by
  rw[bu,bu]at e
  have e1:=(List.cons.inj e).1
  have e2:=(List.cons.inj e).2
  rw[BI hc.2 h.2 h'.2 e2]
  rw[(Prod.mk.inj e1).2]
 |[],[],_::_,_,_,h,_=>h.elim
 |[],_::_,_,_,h,_,_=>h.elim
 |.s _::_,[],_,_,h,_,_=>h.elim
 |.r _::_,[],_,_,h,_,_=>h.elim
 |.s _::_,_::_,[],_,_,h,_=>h.elim
 |.r _::_,_::_,[],_,_,h,_=>h.elim
theorem Lh{P:Program}{f:FuncId}{fn:Func}{code:Code}{args:List AV}{T:TypeId}{c:List Oc}{res:SV}(ids:List Nat)(hf:P.funcs[f]? =some fn)(hb:fn.body=some code)(hn:args.length≤fn.ntmps)(Fk:args.all AV.oy=true)(zG:ids.Nodup)(Oo:ids.length=(rowsOf c).length)(hge:(ids.all fun i=>Nat.ble 1000 i)=true)(Li:Ab c)
  (h:∀(w:World) (M:Mem) (β:Nat) (us:List Value),Ok P (Jc w M β c us ids hge) code (AS.A0 fn.ntmps args [(1000,⟨T,bG ids c⟩)] (ids.zip (rowsOf c))) (fun e S=>(e=.normal∨e=.ret)∧Og P S fn.results.toList res∧S.b 1000=some ⟨T,bG ids c⟩∧Lv S ids (rowsOf c))):xN P f args T c res:=by
 intro M w β vs us hM ho hv
 have Yn:(bu c us).length=(rowsOf c).length:=by rw[←gp ho.al,List.length_map]
 have hnd:((ids.zip (bu c us)).map (·.1)).Nodup:=by rw[yW (by omega)];exact zG
 have OT:az (Jc w M β c us ids hge) (AS.A0 fn.ntmps args [(1000,⟨T,bG ids c⟩)] (ids.zip (rowsOf c))) ⟨fun _=>β,kZ (ids.zip (bu c us)) (fun _=>.nilIface),fun _=>False,M⟩ {tmps:=⟨vs⟩++Array.replicate (fn.ntmps-(⟨vs⟩:Array Value).size) undef,defers:=[]} w:=by
  have h0:=GL (n:=fn.ntmps) ids hM ho hv Fk hn zG Oo
  exact{wf:=h0.wf,marks:=h0.marks,size:=h0.size,os:=h0.os,tape:=h0.tape,output:=h0.output,grown:=h0.grown,frame:=h0.frame,m0:=h0.m0,eu:=h0.eu,cI:=h0.cI,tm:=h0.tm,bx:=h0.bx,inj:=h0.inj,rx:=h0.rx,eW:=h0.eW,gP:=h0.gP,dQ:=fun i v e=>(by
   obtain⟨R,hm⟩:=BH e
   exact iP hnd hm),lj:=h0.lj,jj:=trivial}
 refine gh rfl hf hb OT (h w M β us) ?_
 rintro S' E a w' ⟨hr,hB,hL⟩ hh
 obtain⟨v,hv,hx⟩:=(yq.sv hr).run hh
 have hβ:E.β 1000=β:=hh.gP 1000 β rfl
 obtain⟨us',ho',ju⟩:=nY hh hB hL zG
 rw[hβ]at ho'
 obtain⟨_,_,_,OL,q2,q3⟩:=hh.bx 1000 _ hB
 rw[hβ,ho'.hp]at q2
 obtain rfl:us'=OL:=by
  have:=Option.some.inj q2
  injection this with e
  injection e
 obtain⟨_,Yr⟩:=rR hh hL q3
 have jt:bu c us=bu c us':=by
  rw[Yr]
  have key:∀(ids:List Nat) (l:List (Row×Value)) (Rs:List Row),ids.length=l.length→l.map (·.1)=Rs→(∀i R v,(i,R,v)∈ids.zip l→E.ν i=v)→l=Rs.zip (ids.map E.ν):=by
   intro ids
   induction ids with
   |nil=>intro l Rs hl hm _;cases l with|nil=>cases hm;rfl|cons _ _=>simp at hl
   |cons i ids ih=>
    intro l Rs hl hm hν
    cases l with
    |nil=>simp at hl
    |cons p l=>
     cases hm
     obtain⟨R,v⟩:=p
     rw[List.map_cons,List.map_cons,List.zip_cons_cons,hν i R v (by rw[List.zip_cons_cons];simp),←ih l _ (by simpa using hl) rfl (fun i R v hm=>hν i R v (by rw[List.zip_cons_cons];exact List.mem_cons_of_mem _ hm))]
  exact key ids _ _ (by omega) (gp ho.al) (fun i R v hm=>hh.dQ i v (Lg hnd hm))
 obtain rfl:us=us':=BI Li ho.al ho'.al jt
 refine⟨v,hv,v,E.M,rfl,hh.m0,fun b o x e=>?_,hh.cI,hx,ho',hh.os,hh.tape,hh.output,hh.grown,fun k hk hne hno=>hh.frame k hk (fun e=>e.elim hne hno)⟩
 rcases hh.eu b o x e with q|q|q|q
 ·exact .inl q
 ·exact .inr q
 ·rw[show b=β from q,ho'.nb o]at e;cases e
 ·rw[(ho'.nr b q).2 o]at e;cases e
section steps
variable {P:Program}{C:Ctx}{ops:Array Oper}{S:AS}{nd:Bool}{K:List Ac→AS→Prop}{rest:List Oper}{acc:List Ac}
variable {gd:Option (Nat×Bool)}{rg:List Nat}{d:Nat}{ty:TypeId}{pos:String}{aft:Array Edge}{x y z:Operand}{T U E0:TypeId}
theorem az.GN{E:Env}{a:Act}{w w':World}(h:az C S E a w){i:Nat}{js:List Nat}{c:List Oc}{us:List Value}{M':Mem}(hB:S.b i=some ⟨T,bG js c⟩)(hL:Lv S js (rowsOf c))(QC:js.Nodup)(AY:qC E.M w (E.β i) T c us)
  (hM:E.M.le M') (hn:∀b o x,M' b o=some x→E.M b o=some x∨w.heap.size≤b) (hin:M'.cI w') (ho:qC M' w' (E.β i) T c us)
  (hos:w'.os=w.os) (pE:w'.tape=w.tape) (hout:w'.output=w.output) (hsize:w.heap.size≤w'.heap.size) (ju:∀k,k<w.heap.size→k≠E.β i→¬ec c us k→w'.heap[k]? =w.heap[k]?):
  az C S {E with M:=M'} a w':=by
 obtain⟨NF,agQ,Tx,TC,NG,ab9⟩:=h.bx i _ hB
 obtain rfl:TC=us:=by
  rw[AY.hp]at NG
  have:=Option.some.inj NG
  injection this with e
  injection e with e
  exact e.symm
 obtain⟨_,Yn⟩:=rR h hL ab9
 have hlen:=hL.len
 have FY:∀g,ec c TC g↔∃j∈js,(E.ν j).ownBlock=some g:=fun g=>by
  unfold ec
  rw[Yn]
  constructor
  ·rintro⟨⟨R,v⟩,hm,hg⟩
   obtain⟨j,hj,rfl⟩:=List.mem_map.1 (jV hm).2
   exact⟨j,hj,hg⟩
  ·rintro⟨j,hj,hg⟩
   obtain⟨R,hR⟩:=uY (l:=rowsOf c) (k:=js.map E.ν) (by simp[hlen]) (List.mem_map.2 ⟨j,hj,rfl⟩)
   exact⟨(R,E.ν j),hR,hg⟩
 have z9:∀g,ec c TC g→(C.w0.heap.size≤g∨C.vK g)∧¬E.O g∧(∀n B,S.b n=some B→E.β n≠g)∧∃c e,w.heap[g]? =some (Obj.cells c e (0,0)):=fun g hg=>by
  obtain⟨j,hj,xn⟩:=(FY g).1 hg
  obtain⟨R,hR⟩:=hL.mem j hj
  obtain⟨⟨us,q1,_⟩,q2⟩:=h.rx j R hR
  obtain⟨q3,q4,q5,q6⟩:=q2 g xn
  refine⟨q3,q5,q6,?_⟩
  rcases q1.2 with⟨q7,_⟩|⟨g',cap,cur,q7,_,q8,_⟩
  ·rw[q7]at xn;cases xn
  ·rw[q7]at xn;cases xn;exact⟨_,_,q8⟩
 have keep:∀x:AV,∀v,x.holds E v→x.holds {E with M:=M'} v:=fun x v hv=>AV.cu (E:=E) (E':={E with M:=M'}) hM (fun _ _=>rfl) (fun _ _=>rfl) hv
 have Yl:∀b,b<w.heap.size→(∀o,E.M b o=none)→∀o,M' b o=none:=fun b h1 h2 o=>by
  cases e:M' b o with
  |none=>rfl
  |some v=>
   rcases hn b o v e with q|q
   ·rw[h2 o]at q;cases q
   ·omega
 exact{
  wf:=h.wf
  marks:=by
   obtain⟨ds,d1,d2,d3⟩:=h.marks
   refine⟨ds,d1,d2,fun r hr=>?_⟩
   obtain⟨p1,p2,p3⟩:=d3 r hr
   refine⟨p1,p2,?_⟩
   rw[ju r (Array.getElem?_eq_some_iff.1 p3).1 (fun e=>by rw[e,NG]at p3;cases p3) (fun e=>by
    obtain⟨_,_,_,c,e2,q⟩:=z9 r e
    rw[q]at p3;cases p3)]
   exact p3
  size:=h.size
  os:=hos.trans h.os
  tape:=pE.trans h.tape
  output:=hout.trans h.output
  grown:=Nat.le_trans h.grown hsize
  frame:=fun k hk hown=>by
   rw[ju k (Nat.lt_of_lt_of_le hk h.grown) (fun e=>by
    rcases NF with q|q
    ·omega
    ·exact hown (C.D8 _ (by rw[e];exact q))) (fun e=>by
    rcases(z9 k e).1 with q|q
    ·omega
    ·exact hown (C.D8 _ q))]
   exact h.frame k hk hown
  m0:=Mem.le_trans h.m0 hM
  eu:=fun b o v e=>by
   rcases hn b o v e with q|q
   ·exact h.eu b o v q
   ·exact .inr (.inl (Nat.le_trans h.grown q))
  cI:=hin
  tm:=fun s=>keep _ _ (h.tm s)
  bx:=fun j B fu=>by
   obtain⟨p1,p2,p3,vs,p4,p5⟩:=h.bx j B fu
   have hlt:=(Array.getElem?_eq_some_iff.1 p4).1
   by_cases e:j=i
   ·subst e
    rw[hB]at fu;cases fu
    refine⟨p1,ho.nb,p3,TC,ho.hp,?_⟩
    exact ab9.imp (fun x _ v hv=>keep x v hv)
   ·refine⟨p1,Yl _ hlt p2,p3,vs,?_,p5.imp (fun x _ v hv=>keep x v hv)⟩
    show w'.heap[E.β j]? =_
    rw[ju _ hlt (fun q=>e (h.inj j i B _ fu hB q)) (fun q=>(z9 _ q).2.2.1 j B fu rfl)];exact p4
  inj:=h.inj
  rx:=fun j R hR=>by
   obtain⟨⟨vs,p1,p2⟩,p3⟩:=h.rx j R hR
   by_cases hj:j∈js
   ·have hz:(R,E.ν j)∈bu c TC:=by
     rw[Yn]
     have key:∀(js:List Nat) (Rs:List Row),Lv S js Rs→j∈js→(R,E.ν j)∈Rs.zip (js.map E.ν):=by
      intro js
      induction js with
      |nil=>intro _ _ h;cases h
      |cons k js ih=>
       intro Rs hl hm
       cases Rs with
       |nil=>exact hl.elim
       |cons R' Rs=>
        rw[List.map_cons,List.zip_cons_cons]
        rcases List.mem_cons.1 hm with q|q
        ·subst q
         have:=hl.1
         rw[hR]at this;cases this
         simp
        ·exact List.mem_cons_of_mem _ (ih Rs hl.2 q)
     exact key js _ hL hj
    refine⟨lK ho.al _ hz,fun g hg=>?_⟩
    obtain⟨p4,p5,p6,p7⟩:=p3 g hg
    exact⟨p4,(ho.nr g ⟨_,hz,hg⟩).2,p6,p7⟩
   ·have oth:∀g,(E.ν j).ownBlock=some g→¬ec c TC g:=fun g hg q=>by
     obtain⟨j',hj',e⟩:=(FY g).1 q
     obtain⟨R',mY⟩:=hL.mem j' hj'
     have:=h.eW j j' R R' hR mY g hg e
     subst this;exact hj hj'
    refine⟨⟨vs,c6 p1 fun g hg=>ju g (jZ h hR hg) (fun e=>(p3 g hg).2.2.2 i _ hB e.symm) (oth g hg),p2.mono hM⟩,fun g hg=>?_⟩
    obtain⟨p4,p5,p6,p7⟩:=p3 g hg
    exact⟨p4,Yl g (jZ h hR hg) p5,p6,p7⟩
  eW:=h.eW
  gP:=h.gP
  dQ:=h.dQ
  lj:=fun b hb=>by
   obtain⟨p1,p2,p3⟩:=h.lj b hb
   exact⟨Nat.lt_of_lt_of_le p1 hsize,Yl b p1 p2,p3⟩
  jj:=C.jf S.g S.go E.O E.M M' w w' h.jj hM hin (fun b o v e=>by
    rcases hn b o v e with q|q
    ·exact .inl q
    ·exact .inr ⟨.inl (Nat.le_trans h.grown q),fun q2=>by have:=(h.lj b q2).1;omega⟩) (fun b hb=>by
    have hb':b<w.heap.size:=by
     rcases hb with⟨q,_⟩|q
     ·exact Nat.lt_of_lt_of_le q h.grown
     ·exact(h.lj b q).1
    refine ju b hb' (fun e=>?_) (fun e=>?_)
    ·subst e
     rcases hb with⟨q1,q2⟩|q
     ·rcases NF with p|p
      ·omega
      ·exact q2 p
     ·exact Tx q
    ·obtain⟨o1,o3,_⟩:=z9 b e
     rcases hb with⟨q1,q2⟩|q
     ·rcases o1 with p|p
      ·omega
      ·exact q2 p
     ·exact o3 q) hos pE hout hsize}
theorem RT.cW(hg:Gd ops S gd rg){f:FuncId}[bF P f]{g:Operand}{xs:Array Operand}{at_:Array TypeId}{args:List AV}{T:TypeId}{c:List Oc}{res:SV}(hp:xN P f args T c res)(i:Nat)(js:List Nat)(hB:S.b i=some ⟨T,bG js c⟩)(hL:Lv S js (rowsOf c))(QC:js.Nodup)
  (Fk:args.all AV.oy=true) (hf:S.ev g=.sv (.v (.func (.func f) #[] #[]))) (hargs:ur S xs.toList (args.map (AV.Ty i))) (hd:d<S.n)
  (next:RunT P C ops nd K rest (⟨rg++(aq g++xs.toList.flatMap aq),[i],js,⟨some (d,.sv res),[],[]⟩⟩::acc) (S.set d (.sv res))):RunT P C ops nd K (⟨some d,.call ⟨.value g,xs,at_⟩,ty,pos,aft,gd⟩::rest) acc S:=by
 refine .inl ⟨_,[i],js,_,?_,next⟩
 rintro S' hn ht hb hr k a w L Q ho ⟨E,h⟩ Yo
 refine bW (C:=C) ho (hg.wanted h (fun s hs=>ht s (List.mem_append_left _ hs)) rfl) ?_
 have tW:a.eval g=.func (.func f) #[] ⟨[]⟩:=by
  have h1:=h.ev g;rw[aJ (fun _ h=>List.mem_append_right _ (List.mem_append_left _ h)) ht,hf]at h1;exact h1
 have hall:=yX Fk (ur.vals h hargs (fun s hs=>ht s (List.mem_append_right _ (List.mem_append_right _ hs))))
 have fu:S'.b i=some ⟨T,bG js c⟩:=by rw[hb i (by simp)];exact hB
 have QD:Lv S' js (rowsOf c):=hL.congr (fun k hk=>hr k hk)
 obtain⟨us,Mi,AI⟩:=nY h fu QD QC
 refine bR (C:=C) (by intro c h;cases h) (l8 tW) ?_
 rw[List.append_nil]
 refine⟨fun h=>by simp at h,gB ((hp E.M w (E.β i) _ us h.cI Mi hall).mono ?_)⟩
 rintro e w' ⟨v,M',rfl,hM,hnew,hin,hv,Kk,hos,pE,hout,hsize,ju⟩
 have h1:=h.GN fu QD QC Mi hM hnew hin Kk hos pE hout hsize ju
 exact Yo _ _ ⟨_,h1.put (x:=.sv res) (v:=v) hv (by show d<S'.n;omega) eY⟩
end steps
end Go.Fw
namespace Go.Fw
open Go.RowKit
section
variable {P:Program}
def Ys(P:Program)(f:FuncId)(args:List SV)(c:List Oc):Prop:=
 ∀(M:Mem) (w:World) (vs:List Value),M.cI w→SV.dH M args vs→
  Calls P f ⟨vs⟩ w fun e w'=>∃us M',e=.returned (.agg ⟨us⟩)∧M.le M'∧(∀b o x,M' b o=some x→M b o=some x∨w.heap.size≤b)∧M'.cI w'∧pG M' w' c us∧
   (∀g,ec c us g→w.heap.size≤g∧∀o,M' g o=none)∧I7 (bu c us)∧Below w.heap.size w w'
theorem Ys.w{f:FuncId}{args args':List SV}{c:List Oc}(h:Ys P f args c)(hi:bB args' args):Ys P f args' c:=fun M w vs hM hv=>h M w vs hM (hi.holds hv)
end
section
variable {P:Program}{C:Ctx}{ops:Array Oper}{S:AS}{nd:Bool}{K:List Ac→AS→Prop}{rest:List Oper}{acc:List Ac}
variable {gd:Option (Nat×Bool)}{rg:List Nat}{d:Nat}{ty:TypeId}{pos:String}{aft:Array Edge}{x y z:Operand}{T U E0:TypeId}
inductive Dk (S:AS):List (Nat×Operand)→List (Nat×Fc)→Prop
 |nil:Dk S [] []
 |one {i:Nat} {x:Operand} {s:SV} {ps:List (Nat×Operand)} {qs:List (Nat×Fc)} [o:One s] (h:S.ev x=.sv s) (t:Dk S ps qs):Dk S ((i,x)::ps) ((i,.val s)::qs)
 |row {i j:Nat} {x:Operand} {R:Row} {ps:List (Nat×Operand)} {qs:List (Nat×Fc)} (h:S.ev x=.row j) (hR:S.r j=.live R) (t:Dk S ps qs):Dk S ((i,x)::ps) ((i,.row j)::qs)
end
end Go.Fw
namespace Go.Proofs.YtningmnklfpfjaaGreat
open Go.Fw
noncomputable def oR(x0:Lr):Option (Sz):=match x0 with|⟨aC,aD,aM,aN⟩=>(some (aD.length:Int)).bind fun x7=>(some (aM.length:Int)).bind fun ek=>(some (aN.length:Int)).bind fun iA=>some ⟨aC,x7,ek,iA⟩
noncomputable def iu(x0:Lr):Option (Bool):=match x0 with|⟨aC,aD,aM,aN⟩=>(oR ⟨aC,aD,aM,aN⟩).bind fun⟨Et,IU,Eu,GH⟩=>b9 (fun(QE:Bool)=>(bif QE then some false else b9 (fun(Lj:Bool)=>(bif Lj then some false else b9 (fun(VI:Bool)=>some VI) fun K16=>(nm aD).bind fun oP=>(some (decide ((oP:Int)≤Et))).bind fun tX=>(bif tX then(nm aM).bind fun tJ=>(some (decide ((tJ:Int)≤Et))).bind fun vU=>some vU else some false).bind fun QF=>K16 QF)) fun Oj=>(some (decide ((128:Int)<Eu))).bind fun lG=>(bif lG then some true else(some (decide ((GH:Int)≠Eu))).bind fun iD=>some iD).bind fun QG=>Oj QG)) fun VJ=>(some (decide ((Et:Int)<0))).bind fun x8=>(bif x8 then some true else(some (decide ((64:Int)<Et))).bind fun dW=>some dW).bind fun QH=>(bif QH then some true else(some (decide ((IU:Int)<1))).bind fun gx=>some gx).bind fun Yt=>(bif Yt then some true else(some (decide ((4:Int)<IU))).bind fun jB=>some jB).bind fun Yu=>VJ Yu
end Go.Proofs.YtningmnklfpfjaaGreat
namespace Go.Proofs.YtningmnklfpfjaaGreat
open Go.Fw Go.Fw.Z Go.RowKit
instance:St4 Tryz.prog 97 3:=⟨by kernel_rfl,by kernel_rfl,by kernel_rfl,by kernel_rfl⟩
theorem Ew{x0:Lr}{r:Sz}(h:oR x0=some r):Pure Tryz.prog 83 [.agg (Kh x0)] (.agg (eSz r)):=by
 obtain⟨aC,aD,aM,aN⟩:=x0
 refine ay Tryz.func83 rfl (Nat.le_of_ble_eq_true rfl) (fun cO M vs hvs=>?_)
 unfold oR at h
 refine sr<|bx rfl<|al (cs:=[.v (.int .i64 0),.v (.int .i64 0),.v (.int .i64 0),.v (.int .i64 0)]) (by exact⟨SV.aa _,SV.aa _,SV.aa _,SV.aa _,trivial⟩) rfl<|dn<|sr<|fa rfl rfl<|lV rfl rfl rfl<|fa rfl rfl<|lV rfl rfl rfl<|lE h fun x7 h7 h=>ln rfl h7<|fa rfl rfl<|lV rfl rfl rfl<|lE h fun ek gC h=>ln rfl gC<|fa rfl rfl ?_
 refine lV rfl rfl rfl<|lE h fun iA gW h=>ln rfl gW<|bI (cs:=[_,_,_,_]) (cs':=[.v (.int .i64 aC),.v (.int .i64 x7),.v (.int .i64 ek),.v (.int .i64 iA)]) (.one rfl (.one rfl (.one rfl (.one rfl (.nil))))) ⟨SV.aa _,SV.aa _,SV.aa _,SV.aa _,trivial⟩<|so rfl rfl rfl<|dn<|aj ?_
 obtain rfl:=O h
 exact RZ (.agg rfl rfl (.cons rfl (.cons rfl (.cons rfl (.cons rfl (.nil))))) rfl (.nil))
theorem qD{x0:Lr}{r:Bool}(h:iu x0=some r):Pure Tryz.prog 34 [.agg (Kh x0)] (.v (.bool r)):=by
 obtain⟨aC,aD,aM,aN⟩:=x0
 refine ay Tryz.func34 rfl (Nat.le_of_ble_eq_true rfl) (fun cO M vs hvs=>?_)
 unfold iu at h
 refine sr<|bx rfl<|ag rfl<|dn<|sr<|ld rfl rfl (.cons rfl (.cons rfl (.cons rfl (.cons rfl (.nil))))) ?_
 obtain⟨⟨Et,IU,Eu,GH⟩,h5,h⟩:=bS h
 refine cl (Ew h5) ⟨rfl,trivial⟩<|al (cs:=[.v (.int .i64 0),.v (.int .i64 0),.v (.int .i64 0),.v (.int .i64 0)]) (by exact⟨SV.aa _,SV.aa _,SV.aa _,SV.aa _,trivial⟩) rfl<|so rfl rfl rfl<|dn<|qq<|qq ?_
 refine aF h (fun Yv=>AS.bJ 48 [(1,.ptr 1 0),(3,.ptr 3 0),(23,.sv (.v (.bool Yv)))] [(3,⟨97,[.sv (.v (.int .i64 Et)),.sv (.v (.int .i64 IU)),.sv (.v (.int .i64 Eu)),.sv (.v (.int .i64 GH))]⟩),(1,⟨25,[.sv (.v (.int .i64 aC)),.sv (slc 1 (List.map (eS 4 eQ) aD)),.sv (slc 1 (List.map (eS 4 eQ) aM)),.sv (slc 4 (List.map eQ aN))]⟩)] []) (fun h=>?_) (fun QE h=>?_)
 refine af<|fa rfl rfl<|lV rfl rfl rfl<|lE h fun x8 h8 h=>ls _ rfl rfl h8<|mv rfl<|bE h fun QH GO h=>?_
 cases x8
 refine RT.fieldAddr (.some rfl rfl) rfl T rfl<|RT.sy (.some rfl rfl) rfl rfl rfl T<|lE (F GO) fun dW fj GO=>gg _ rfl rfl fj ?_
 obtain rfl:=O GO
 refine pF rfl<|mv rfl<|bE h fun ag0 TD h=>?_
 cases dW
 refine RT.fieldAddr (.some rfl rfl) rfl T rfl<|RT.sy (.some rfl rfl) rfl rfl rfl T<|lE (F TD) fun gx lH TD=>RT.lss (.some rfl rfl) _ rfl rfl T lH ?_
 obtain rfl:=O TD
 refine pF rfl<|mv rfl<|bE h fun ag1 TE h=>?_
 cases gx
 refine RT.fieldAddr (.some rfl rfl) rfl T rfl<|RT.sy (.some rfl rfl) rfl rfl rfl T<|lE (F TE) fun jB nS TE=>gg _ rfl rfl nS ?_
 obtain rfl:=O TE
 exact pF rfl<|dn<|⟨jB,h,wR []⟩
 obtain rfl:=O (V TE)
 exact ww<|ww<|ww<|pT rfl<|dn<|⟨true,h,wR []⟩
 obtain rfl:=O (V TD)
 refine ww<|ww<|ww<|pT rfl<|mv rfl<|bE h fun Yw vc h=>?_
 obtain rfl:=O (V vc)
 exact ww<|ww<|ww<|pT rfl<|dn<|⟨true,h,wR []⟩
 obtain rfl:=O (V GO)
 refine ww<|ww<|ww<|pT rfl<|mv rfl<|bE h fun ag2 tf h=>?_
 obtain rfl:=O (V tf)
 refine ww<|ww<|ww<|pT rfl<|mv rfl<|bE h fun ag3 ve h=>?_
 obtain rfl:=O (V ve)
 exact ww<|ww<|ww<|pT rfl<|dn<|⟨true,h,wR []⟩
 try dsimp only
 refine ae.n ?_
 cases QE
 refine fs<|qq<|qq ?_
 refine aF (F h) (fun Nz=>AS.bJ 48 [(1,.ptr 1 0),(3,.ptr 3 0),(33,.sv (.v (.bool Nz)))] [(3,⟨97,[.sv (.v (.int .i64 Et)),.sv (.v (.int .i64 IU)),.sv (.v (.int .i64 Eu)),.sv (.v (.int .i64 GH))]⟩),(1,⟨25,[.sv (.v (.int .i64 aC)),.sv (slc 1 (List.map (eS 4 eQ) aD)),.sv (slc 1 (List.map (eS 4 eQ) aM)),.sv (slc 4 (List.map eQ aN))]⟩)] []) (fun h=>?_) (fun Lj h=>?_)
 refine af<|fa rfl rfl<|lV rfl rfl rfl<|lE h fun lG oQ h=>gt _ rfl rfl oQ<|mv rfl<|bE h fun QG oA h=>?_
 cases lG
 refine RT.fieldAddr (.some rfl rfl) rfl T rfl<|RT.sy (.some rfl rfl) rfl rfl rfl T<|RT.fieldAddr (.some rfl rfl) rfl T rfl<|RT.sy (.some rfl rfl) rfl rfl rfl T<|lE (F oA) fun iD kV oA=>gq _ rfl rfl (F6 (p:=GH) (q:=Eu) kV) ?_
 obtain rfl:=O oA
 exact pF rfl<|dn<|⟨iD,h,wR []⟩
 obtain rfl:=O (V oA)
 exact ww<|ww<|ww<|ww<|ww<|pT rfl<|dn<|⟨true,h,wR []⟩
 try dsimp only
 refine ae.n ?_
 cases Lj
 refine fs<|qq ?_
 refine aF (F h) (fun j16=>AS.bJ 48 [(2,.sv (.v (.bool j16)))] [] []) (fun h=>?_) (fun VI h=>?_)
 refine ai mixed<|fa rfl rfl<|lV rfl rfl rfl<|bE h fun oP qe h=>cl (AH qe) ⟨rfl,trivial⟩<|fa rfl rfl<|lV rfl rfl rfl<|lE h fun tX CM h=>RT.leq .none _ rfl rfl T CM<|mv rfl<|bE h fun QF kU h=>?_
 cases tX
 obtain rfl:=O (F kU)
 refine ww<|ww<|ww<|ww<|ww<|ww<|pF rfl<|ag rfl ?_
 refine RT.done ⟨by kernel_rfl,?_⟩
 exact ae.n<|⟨false,h,wR []⟩
 refine RT.fieldAddr (.some rfl rfl) rfl T rfl<|RT.sy (.some rfl rfl) rfl rfl rfl T<|bE (V kU) fun tJ BF kU=>gc (AH BF) ⟨rfl,trivial⟩<|RT.fieldAddr (.some rfl rfl) rfl T rfl<|RT.sy (.some rfl rfl) rfl rfl rfl T<|lE kU fun vU h46 kU=>RT.leq (.some rfl rfl) _ rfl rfl T h46 ?_
 obtain rfl:=O kU
 refine pT rfl<|ag rfl ?_
 refine RT.done ⟨by kernel_rfl,?_⟩
 exact ae.n<|⟨vU,h,wR []⟩
 try dsimp only
 refine ae.n<|aj ?_
 obtain rfl:=O h
 exact R1 rfl
 refine cT<|sr<|ag rfl<|dn<|aj<|ae.r ?_
 obtain rfl:=O (V h)
 exact R1 rfl
 refine cT<|sr<|ag rfl<|dn<|aj<|ae.r ?_
 obtain rfl:=O (V h)
 exact R1 rfl
end Go.Proofs.YtningmnklfpfjaaGreat
namespace Go.Fw
open Go.RowKit
def Mem.fr(M:Mem)(N:Nat):Mem:=fun b o=>if N≤b then M b o else none
theorem Mem.acd(M:Mem)(N:Nat):(M.fr N).le M:=fun b o v h=>by
 unfold Mem.fr at h
 split at h
 ·exact h
 ·cases h
theorem Mem.Mk{M M':Mem}(h:M.le M')(N:Nat):(M.fr N).le (M'.fr N):=fun b o v e=>by
 unfold Mem.fr at*
 split at e
 ·rename_i hn;rw[if_pos hn];exact h b o v e
 ·cases e
theorem Mem.Jd(M:Mem)(N:Nat):(M.fr N).fr N=M.fr N:=by
 funext b o;unfold Mem.fr;split<;>rfl
def nw(N:Nat)(s:SV):SV:=⟨fun M v=>s.h (M.fr N) v∧∀g,v.ownBlock=some g→∃o,M.fr N g o=some (.agg #[]),fun hM h=>⟨s.mono (Mem.Mk hM N) h.1,fun g e=>by obtain⟨o,q⟩:=h.2 g e;exact⟨o,Mem.Mk hM N _ _ _ q⟩⟩⟩
theorem e5{N:Nat}{s:SV}:SV.imp (nw N s) s:=fun M _ h=>s.mono (Mem.acd M N) h.1
instance{N:Nat}{s:SV}{n:Nat}[h:Len s n]:Len (nw N s) n:=⟨fun M v hv=>h.h M v (e5 M v hv)⟩
instance{N:Nat}{s:SV}{n:Nat}{rows:List (List SV)}[h:SQ s n rows]:SQ (nw N s) n rows:=⟨fun M v hv=>h.h M v (e5 M v hv)⟩
instance{N:Nat}{s:SV}{n sz:Nat}{f:Nat→Nat→SV}[h:Sub s n sz f]:Sub (nw N s) n sz (fun a b=>nw N (f a b)):=⟨fun M v hv=>by
 obtain⟨a,c,e,hc,hs⟩:=h.h (M.fr N) v hv.1
 refine⟨a,c,e,hc,fun lo hi h1 h2=>⟨hs lo hi h1 h2,fun g hg=>hv.2 g ?_⟩⟩
 subst e
 cases a with
 |none=>split at hg<;>cases hg
 |some a=>
  split at hg
  ·exact hg
  ·have e:(a.add (lo*sz)).block=a.block:=by unfold Addr.add;split<;>rfl
   rw[show(Value.slice (Option.map (fun x=>x.add (lo*sz)) (some a)) (hi-lo) (c-lo)).ownBlock=some (a.add (lo*sz)).block from rfl,e]at hg
   exact hg⟩
instance{N:Nat}{s:SV}[h:One s]:One (nw N s):=⟨fun M v hv=>h.h _ v hv.1⟩
class Sup (N:Nat) (s:SV):Prop where
 h:∀M v,s.h M v→s.h (M.fr N) v
instance{N:Nat}{x:Value}:Sup N (.v x):=⟨fun _ _ h=>h⟩
instance{N:Nat}{s:SV}:Sup N (nw N s):=⟨fun M v h=>by show s.h ((M.fr N).fr N) v∧∀g,v.ownBlock=some g→∃o,(M.fr N).fr N g o=some (.agg #[]);rw[Mem.Jd];exact h⟩
class TF (N:Nat) (l:List SV):Prop where
 h:∀s∈l,∀M v,s.h M v→s.h (M.fr N) v
instance{N:Nat}:TF N []:=⟨fun s h=>by cases h⟩
instance{N:Nat}{s:SV}{l:List SV}[a:Sup N s][b:TF N l]:TF N (s::l):=⟨fun t ht=>by
 rcases List.mem_cons.1 ht with rfl|ht
 ·exact a.h
 ·exact b.h t ht⟩
class Dl (N:Nat) {α:Type} (e:α→List SV):Prop where
 h:∀x,TF N (e x)
instance{N:Nat}:Dl N ah:=⟨fun _=>inferInstance⟩
instance{N:Nat}:Dl N bj:=⟨fun _=>inferInstance⟩
instance{N:Nat}:Dl N eB:=⟨fun _=>inferInstance⟩
abbrev fZ(N:Nat)(z:Zr):List SV:=[.v (.bool z.neg),nw N (slc 1 (z.w.map ah))]
abbrev fQ(N:Nat)(q:Qr):List SV:=[.v (.bool q.num.neg),nw N (slc 1 (q.num.w.map ah)),.v (.bool q.den.neg),nw N (slc 1 (q.den.w.map ah))]
instance{N:Nat}:EL (fZ N) 2:=⟨fun _=>rfl,fun _=>inferInstance⟩
instance{N:Nat}:EL (fQ N) 4:=⟨fun _=>rfl,fun _=>inferInstance⟩
instance{N:Nat}:Dl N (fZ N):=⟨fun _=>inferInstance⟩
instance{N:Nat}:Dl N (fQ N):=⟨fun _=>inferInstance⟩
theorem aB{α:Type}{N n:Nat}{e:α→List SV}:SV.imp (.v (.slice none 0 0)) (nw N (slc n (([]:List α).map e))):=fun _ _ h=>⟨.inl ⟨none,h,rfl⟩,fun g e=>by rw[show _=Value.slice none 0 0 from h]at e;cases e⟩
theorem bB.at:∀{l l':List SV},bB l l'→∀(k:Nat) (s':SV),l'[k]? =some s'→∃s,l[k]? =some s∧SV.imp s s':=fun h _ _ e=>bB.get h e
theorem Ml{α:Type}{n:Nat}{e e':α→List SV}(h:∀x,bB (e' x) (e x))(l:List α):SV.imp (slc n (l.map e')) (slc n (l.map e)):=by
 rintro M v (⟨a,h1,h2⟩|⟨b,o,c,h1,h2,h3,h4⟩)
 ·exact .inl ⟨a,h1,by have:=List.map_eq_nil_iff.1 h2;rw[this];rfl⟩
 ·refine .inr ⟨b,o,c,by simpa using h1,by simpa using h2,by simpa using h3,fun i row hr=>?_⟩
  rw[List.getElem?_map]at hr
  cases hx:l[i]? with
  |none=>rw[hx]at hr;cases hr
  |some x=>
   rw[hx]at hr
   have hr:e x=row:=Option.some.inj hr
   subst hr
   obtain⟨g1,g2⟩:=h4 i (e' x) (by rw[List.getElem?_map,hx];rfl)
   refine⟨by rw[bB.len (h x)];exact g1,fun k s hs=>?_⟩
   obtain⟨s2,Ef,hi⟩:=bB.get (h x) hs
   obtain⟨y,hy,ho,hh⟩:=g2 k s2 Ef
   exact⟨y,hy,ho,hi M y hh⟩
theorem qI(N:Nat)(q:Qr):bB (fQ N q) (eQ q):=⟨SV.aa _,e5,SV.aa _,e5,trivial⟩
theorem nwQ{N:Nat}{l:List Qr}:SV.imp (nw N (slc 4 (l.map (fQ N)))) (slc 4 (l.map eQ)):=fun M v h=>Ml (qI N) l M v (e5 M v h)
theorem GP{N n:Nat}{α:Type}{e:α→List SV}[he:Dl N e]{l:List α}{M:Mem}{v:Value}(h:(slc n (l.map e)).h M v)(hb:∀g,v.ownBlock=some g→N≤g∧∃o,M g o=some (.agg #[])):(nw N (slc n (l.map e))).h M v:=by
 refine⟨?_,fun g hg=>by obtain⟨h1,o,h2⟩:=hb g hg;exact⟨o,by unfold Mem.fr;rw[if_pos h1];exact h2⟩⟩
 rcases h with⟨a,h1,h2⟩|⟨b,o,c,h1,h2,h3,h4⟩
 ·exact .inl ⟨a,h1,h2⟩
 ·have hN:N≤b:=(hb b (by rw[h1];rfl)).1
  refine .inr ⟨b,o,c,h1,h2,h3,fun i row hr=>⟨(h4 i row hr).1,fun k s hs=>?_⟩⟩
  obtain⟨y,hy,ho,hh⟩:=(h4 i row hr).2 k s hs
  refine⟨y,by unfold Mem.fr;rw[if_pos hN];exact hy,ho,?_⟩
  rw[List.getElem?_map]at hr
  cases hx:l[i]? with
  |none=>rw[hx]at hr;cases hr
  |some x=>
   rw[hx]at hr
   have hr:e x=row:=Option.some.inj hr
   subst hr
   exact(he.h x).h s (List.mem_of_getElem? hs) M y hh
section
variable {P:Program}{C:Ctx}{S:AS}{Q:Exit→AS→Prop}
theorem az.TG{E:Env}{a:Act}{w:World}(h:az C S E a w)(vs:List Value)(T:TypeId)(hone:∀v∈vs,v.oneCell'=true):az C S {E with M:=fun b o=>if b=w.heap.size then(vs++[.agg #[]])[o]? else E.M b o} a (w.alloc (.cells ⟨vs⟩ T)):=by
 have hno:∀o,E.M w.heap.size o=none:=fun o=>by
  cases e:E.M w.heap.size o with
  |none=>rfl
  |some v=>have:=og h.cI e;omega
 refine h.grow (fun b o v e=>?_) (fun b o v e=>?_) (fun b o v e=>?_) (((Below.refl _ _).alloc (Nat.le_refl _) _))
 ·have:b≠w.heap.size:=by rintro rfl;rw[hno o]at e;cases e
  simp[this,e]
 ·by_cases hb:b=w.heap.size
  ·exact .inr (by omega)
  ·simp only[if_neg hb]at e;exact .inl e
 ·by_cases hb:b=w.heap.size
  ·subst hb
   simp only[if_true]at e
   by_cases ho:o<vs.length
   ·rw[List.getElem?_append_left ho]at e
    refine .of ?_ (hone v (List.mem_of_getElem? e))
    rw[World.cell?_alloc_new];simpa using e
   ·rw[List.getElem?_append_right (by omega)]at e
    cases Kk:o-vs.length with
    |succ k=>rw[Kk]at e;simp at e
    |zero=>
     rw[Kk]at e
     simp at e
     subst e
     exact⟨⟨vs⟩,T,by show(w.heap.push _)[w.heap.size]? =_;rw[Array.getElem?_push,if_pos rfl]⟩
  ·simp only[if_neg hb]at e
   refine(h.cI b o v e).same ?_
   show(w.heap.push _)[b]? =_
   rw[Array.getElem?_push,if_neg hb]
theorem jm{c:Code}{i n N:Nat}{E1:TypeId}{α:Type}{e:α→List SV}{l:List α}[el:EL e n][he:Dl N e](hN:N≤C.w0.heap.size)(hb:∀k,¬C.vK k)(hR:S.r i=.live (TR E1 n e l))(hk:Ok P C c (S.oH i (nw N (slc n (l.map e)))) Q):Ok P C c S Q:=fun a w hs=>by
 obtain⟨E,h⟩:=hs
 have hlen:l.length≤9223372036854775807:=by
  obtain⟨⟨vs,ho,hv⟩,_⟩:=h.rx i _ hR
  rcases ho.2 with⟨_,q2⟩|⟨g',cap,cur,q1,_,q2,q3,q4,q5,q6⟩
  ·have q2:l.length=0:=q2
   omega
  ·have q3:l.length≤cap:=q3
   have:maxLen=9223372036854775807:=by decide
   omega
 exact hk a w (h.oH hR (rE l) (by rw[List.length_map]) hlen (m7 l) (fun M v hv hg=>GP hv (fun g e=>⟨(hg g e).1.elim (fun q=>Nat.le_trans hN q) (fun q=>absurd q (hb g)),(hg g e).2⟩)))
def cL(P:Program)(f:FuncId)(N:Nat)(args:List SV)(r:SV):Prop:=
 ∀(M:Mem) (w:World) (vs:List Value),N≤w.heap.size→M.cI w→SV.dH M args vs→
  Calls P f ⟨vs⟩ w fun e w'=>∃v M',e=.returned v∧M.le M'∧(∀b o x,M' b o=some x→M b o=some x∨w.heap.size≤b)∧M'.cI w'∧r.h M' v∧Below w.heap.size w w'
theorem cL.w{f:FuncId}{N:Nat}{args args':List SV}{r:SV}(h:cL P f N args r)(hi:bB args' args):cL P f N args' r:=fun M w vs hN hM hv=>h M w vs hN hM (hi.holds hv)
theorem aO{f:FuncId}{fn:Func}{code:Code}{N:Nat}{args:List SV}{r:SV}(hf:P.funcs[f]? =some fn)(hb:fn.body=some code)(hn:args.length≤fn.ntmps)
  (h:∀(w:World) (M:Mem) (vs:List Value),N≤w.heap.size→SV.dH M args vs→Ok P (Ib w M) code (AS.init fn.ntmps args) (fun e S=>(e=.normal∨e=.ret)∧Og P S fn.results.toList r)):cL P f N args r:=by
 intro M w vs hN hM hvs
 refine(callsIn_wide (n:=0)).1 (callsIn_of_wp_marks (F:=Fence.wide) hf hb trivial ?_)
 refine wpIn_mono (h w M vs hN hvs _ w ⟨_,lF hM hvs hn⟩) ?_
 rintro e a' w' ⟨S',⟨he,ss,UX,himp⟩,E,hh⟩
 have key:LeavesInM Fence.wide 0 P fn a'.tmps (fun e w'=>∃v M',e=.returned v∧M.le M'∧(∀b o x,M' b o=some x→M b o=some x∨w.heap.size≤b)∧M'.cI w'∧r.h M' v∧Below w.heap.size w w') a'.defers .returning w':=by
  obtain⟨ds,h1,h2,h3⟩:=hh.marks
  rw[h1]
  refine oO ds w' h2 (fun r hr=>(h3 r hr).2.2) (fun w2 g1 g2 g3 g4 g5=>?_)
  have Ee:=hh.B6 h3 g1 g2 g3 g4 g5
  obtain⟨v,hv,hs⟩:=FX Ee UX
  refine⟨v,hv,v,E.M,rfl,Ee.m0,fun b o x e=>?_,Ee.cI,himp _ _ hs,Ee.os,Ee.tape,Ee.output,Ee.grown,fun k hk=>Ee.frame k hk (fun h=>h)⟩
  rcases Ee.eu b o x e with h|h|h
  ·exact .inl h
  ·exact .inr h
  ·exact h.elim
 rcases he with rfl|rfl
 ·exact key
 ·exact key
theorem TH{f:FuncId}{N:Nat}{args:List SV}{E1:TypeId}{n:Nat}{α:Type}{e:α→List SV}{l:List α}[el:EL e n][he:Dl N e](hp:F2 P f args (TR E1 n e l)):cL P f N args (nw N (slc n (l.map e))):=by
 intro M w vs hN hM hvs
 refine(hp M w vs hM hvs).mono ?_
 rintro ex w' ⟨v,M',us,rfl,hle,hnew,hin,hown,AY,ju,ace⟩
 have jt:Rows n (l.map e) (l.flatMap e):=rE l
 have sq:=uj jt
 rcases hown.2 with⟨h1,h2⟩|⟨g,cap,cur,h1,_,h2,h3,_,h5,h6⟩
 ·exact⟨v,M',rfl,hle,hnew,hin,⟨.inl ⟨none,h1,by have h2:l.length=0:=h2;rw[List.length_eq_zero_iff.1 h2];rfl⟩,fun g e=>by rw[h1]at e;cases e⟩,ace⟩
 ·have hg:v.ownBlock=some g:=by rw[h1];rfl
  obtain⟨hge,hno⟩:=ju g hg
  have h3:l.length≤cap:=h3
  have al6:maxLen=9223372036854775807:=by decide
  refine⟨v,fun b o=>if b=g∧o<l.length*n then us[o]? else if b=g∧o=l.length*n then some (.agg #[])else M' b o,rfl,fun b o x q=>?_,fun b o x q=>?_,fun b o x q=>?_,?_,ace⟩
  ·have:=hle b o x q
   have:b≠g:=by rintro rfl;rw[hno o]at this;cases this
   simp[this];assumption
  ·simp only at q
   split at q
   ·rename_i hc;exact .inr (by rw[hc.1];exact hge)
   ·split at q
    ·rename_i hc;exact .inr (by rw[hc.1];exact hge)
    ·exact hnew b o x q
  ·simp only at q
   split at q
   ·rename_i hc
    obtain⟨rfl,Ia⟩:=hc
    refine .of ?_ (m7 l _ _ AY x (List.mem_of_getElem? q))
    simp only[World.cell?,h2]
    have h6:cur.toList.take (l.length*n)=us:=h6
    rw[←h6,List.getElem?_take,if_pos Ia]at q
    simpa using q
   ·split at q
    ·rename_i hc
     cases q
     rw[hc.1];exact⟨_,_,h2⟩
    ·exact hin b o x q
  ·refine GP ?_ (fun g' e'=>by rw[hg]at e';cases e';exact⟨Nat.le_trans hN hge,l.length*n,by simp⟩)
   refine .inr ⟨g,0,cap,by rw[h1,List.length_map],by rw[List.length_map];exact h3,by rw[List.length_map];omega,fun k row hk=>?_⟩
   obtain⟨q1,q2⟩:=rB jt k row hk
   refine⟨q1,fun j s hs=>?_⟩
   have Ef:=q2 j s hs
   obtain⟨y,hy,hys⟩:=AY.get Ef
   have hlt:k*n+j<l.length*n:=by
    have:=(List.getElem?_eq_some_iff.1 Ef).1
    rw[sq,List.length_map]at this;exact this
   refine⟨y,by simp[hlt,hy],m7 l _ _ AY y (List.mem_of_getElem? hy),s.mono (fun b o x q=>?_) hys⟩
   have:b≠g:=by rintro rfl;rw[hno o]at q;cases q
   simp[this,q]
end
section
variable {P:Program}{C:Ctx}{ops:Array Oper}{S:AS}{nd:Bool}{K:List Ac→AS→Prop}{rest:List Oper}{acc:List Ac}
variable {gd:Option (Nat×Bool)}{rg:List Nat}{d:Nat}{ty:TypeId}{pos:String}{aft:Array Edge}{x y z:Operand}{T U E0:TypeId}
variable {α:Type}{l l' k:List α}{e:α→List SV}{n by_ N:Nat}{zv:Value}
theorem RT.aX(hg:Gd ops S gd rg){f:FuncId}[bF P f]{g:Operand}{xs:Array Operand}{at_:Array TypeId}{args:List SV}{r:SV}(hp:cL P f N args r)(hN:N≤C.w0.heap.size)(hf:S.ev g=.sv (.v (.func (.func f) #[] #[])))(hargs:gN S xs.toList args)(hd:d<S.n)
  (next:RunT P C ops nd K rest (⟨rg++(aq g++xs.toList.flatMap aq),[],[],⟨some (d,.sv r),[],[]⟩⟩::acc) (S.set d (.sv r))):RunT P C ops nd K (⟨some d,.call ⟨.value g,xs,at_⟩,ty,pos,aft,gd⟩::rest) acc S:=by
 refine .inl ⟨_,[],[],_,?_,next⟩
 rintro S' hn ht _ _ i a w L Q ho ⟨E,h⟩ hL
 refine bW (C:=C) ho (hg.wanted h (fun s hs=>ht s (List.mem_append_left _ hs)) rfl) ?_
 have tW:a.eval g=.func (.func f) #[] #[]:=by
  have h1:=h.ev g;rw[aJ (fun _ h=>List.mem_append_right _ (List.mem_append_left _ h)) ht,hf]at h1;exact h1
 have hall:=gN.vals h hargs (fun s hs=>ht s (List.mem_append_right _ (List.mem_append_right _ hs)))
 have hr:(execOp a.eval ⟨some d,.call ⟨.value g,xs,at_⟩,ty,pos,aft,gd⟩).run P w=.ok (.enter f ⟨xs.toList.map a.eval⟩) w:=by
  have e2:xs.map a.eval=⟨xs.toList.map a.eval⟩:=by apply Array.ext';simp
  have e1:=bF.run (P:=P) (f:=f) (xs.map a.eval) w
  rw[←e2]
  simp[execOp,resolve,tW,Deferred.ofValue,invoke,e1]
 refine bR (C:=C) (by intro c h;cases h) hr ?_
 refine⟨fun h=>by simp at h,gB ((hp E.M w _ (Nat.le_trans hN h.grown) h.cI hall).mono ?_)⟩
 rintro e w' ⟨v,M',rfl,hM,hnew,hin,hv,hb⟩
 exact hL _ _ ⟨_,(h.grow hM hnew hin hb).put (x:=.sv r) hv (by show d<S'.n;omega) eY⟩
theorem RT.Fl(hg:Gd ops S gd rg){m:Nat}[tS:eK P T E0 m]{c:Int}(hx:S.ev x=.sv (nw N (slc n (l.map e))))(hd:d<S.n)(hc:(l.length:Int)=c)
  (next:RunT P C ops nd K rest (⟨rg++aq x,[],[],⟨some (d,.sv (.v (.int .i64 c))),[],[]⟩⟩::acc) (S.set d (.sv (.v (.int .i64 c))))):RunT P C ops nd K (⟨some d,.call ⟨.builtin .len,#[x],#[T]⟩,ty,pos,aft,gd⟩::rest) acc S:=
 RT.len hg hx hd (by rw[List.length_map,hc];exact next)
theorem RT.acf(hg:Gd ops S gd rg)[tS:eK P T E0 n]{kk:IntKind}{i:Int}{a:α}(hx:S.ev x=.sv (nw N (slc n (l.map e))))(hy:S.ev y=.sv (.v (.int kk i)))(hd:d<S.n)(ha:cz l i=some a)
  (next:RunT P C ops nd K rest (⟨rg++(aq x++aq y),[],[],⟨some (d,.sv (ref (e a))),[],[]⟩⟩::acc) (S.set d (.sv (ref (e a))))):RunT P C ops nd K (⟨some d,.indexAddr T x y,ty,pos,aft,gd⟩::rest) acc S:=
 RT.indexAddr hg (e a) hx hy hd (rC ha).1 (by rw[List.getElem?_map,(rC ha).2];rfl) next
theorem RT.TI(hg:Gd ops S gd rg)[tS:eK P T E0 n]{lo hi:Option Operand}(a b:Int)(hx:S.ev x=.sv (nw N (slc n (l.map e))))(hlo:Cb S 0 lo a)(hhi:Cb S l.length hi b)(hd:d<S.n)(h:Ei l a b=some l')
  (next:RunT P C ops nd K rest (⟨rg++(aq x++(oJ lo++oJ hi)),[],[],⟨some (d,.sv (nw N (slc n (l'.map e)))),[],[]⟩⟩::acc) (S.set d (.sv (nw N (slc n (l'.map e)))))):RunT P C ops nd K (⟨some d,.slice T x lo hi none,ty,pos,aft,gd⟩::rest) acc S:=by
 obtain⟨h0,h1,h2,h3⟩:=ER h
 exact RT.slice hg hx a b hlo (by rw[List.length_map];exact hhi) hd h0 h1 (by rw[List.length_map];exact h2) _ (by rw[L0,h3]) next
theorem RT.acg(hg:Gd ops S gd rg)[tS:eK P T E0 n][tE:aL P E0 n by_ zv][el:EL e n][he:Dl N e]{i:Nat}(hN:N≤C.w0.heap.size)(hb:∀k,¬C.vK k)(hx:S.ev x=.row i)(hR:S.r i=.live (TR E0 n e l))(hy:S.ev y=.sv (slc n (k.map e)))(hd:d<S.n)(yp:S.r d=.un)(wL:d<1000)(h:zM by_ l k=some l')
  (next:RunT P C ops nd K rest (⟨rg++(aq x++aq y),[],[d,i],⟨some (d,.sv (nw N (slc n (l'.map e)))),[],[(i,.dead),(d,.dead)]⟩⟩::acc) ((AS.bC [(i,.dead),(d,.dead)] S).set d (.sv (nw N (slc n (l'.map e)))))):RunT P C ops nd K (⟨some d,.call ⟨.builtin .append,#[x,y],#[T,T]⟩,ty,pos,aft,gd⟩::rest) acc S:=by
 obtain⟨h1,h2,rfl⟩:=uw h
 have hf:l.flatMap e++(k.map e).flatten=(l++k).flatMap e:=by simp[ux]
 exact RT.L6 hg (.row hx hR) hy hd yp wL (by simpa using h1) (by simpa using h2) _ (rows':=(l++k).map e) (fun _ _ hv hg=>GP hv (fun g e=>⟨(hg g e).1.elim (fun q=>Nat.le_trans hN q) (fun q=>absurd q (hb g)),(hg g e).2⟩)) (by rw[hf];exact rE _) (by simp) (by rw[hf];exact m7 _) next
theorem RT.y4(hg:Gd ops S gd rg)[tS:eK P T E0 n][tE:aL P E0 n by_ zv][he:Dl N e](hN:N≤C.w0.heap.size){len:Nat}{parts:Array (Nat×Operand)}{qs:List (Nat×List SV)}(hp:oI S parts.toList qs)(hd:d<S.n)
  (hc:qP 0 qs=true) (hl:qs.length=len) (hsz:(qs.all fun q=>Nat.beq q.2.length n)=true) (hlen:Nat.ble (len*n) 16777216=true) (Ni:(zv.cells.toList.all fun v=>v.oneCell')=true) (jt:qs.map (·.2)=l.map e)
  (next:RunT P C ops nd K rest (⟨rg++l7 parts.toList,[],[],⟨some (d,.sv (nw N (slc n (l.map e)))),[],[]⟩⟩::acc) (S.set d (.sv (nw N (slc n (l.map e)))))):RunT P C ops nd K (⟨some d,.buildSlice T len parts,ty,pos,aft,gd⟩::rest) acc S:=by
 refine .inl ⟨_,[],[],_,?_,next⟩
 rintro S' hn ht _ _ i a w L Q ho ⟨E,h⟩ hL
 refine bW (C:=C) ho (hg.wanted h (fun s hs=>ht s (List.mem_append_left _ hs)) rfl) ?_
 obtain⟨vs,hr,hall,hone⟩:=oW (P:=P) (T:=T) (E0:=E0) (n:=n) (by_:=by_) (zv:=zv) (d:=d) (ty:=ty) (pos:=pos) (aft:=aft) (gd:=gd) h hp (fun s hs=>ht s (List.mem_append_right _ hs)) hc hl hsz (Nat.le_of_ble_eq_true hlen) (List.all_eq_true.1 Ni)
 refine bR (C:=C) (by intro c h;cases h) hr (hL _ _ ⟨_,(h.TG vs E0 hone).put (d:=d) (x:=.sv (nw N (slc n (l.map e)))) (v:=.slice (some ⟨w.heap.size,0,none⟩) len len) ?_ (by show d<S'.n;omega) eY⟩)
 have hrw:Rows n (qs.map (·.2)) (qs.map (·.2)).flatten:=⟨rfl,fun r hr=>by
  obtain⟨q,hq,rfl⟩:=List.mem_map.1 hr
  exact Nat.eq_of_beq_eq_true (List.all_eq_true.1 hsz q hq)⟩
 have ON:=tE.p
 have hlb:len≤16777216:=Nat.le_trans (Nat.le_mul_of_pos_right _ ON) (Nat.le_of_ble_eq_true hlen)
 refine GP ?_ (fun g e=>by cases e;exact⟨Nat.le_trans hN h.grown,vs.length,by simp⟩)
 rw[←jt]
 refine .inr ⟨w.heap.size,0,len,by rw[List.length_map,hl],by rw[List.length_map,hl];exact Nat.le_refl _,by rw[List.length_map,hl];omega,fun k row hk=>?_⟩
 obtain⟨q1,q2⟩:=rB hrw k row hk
 refine⟨q1,fun j s hs=>?_⟩
 obtain⟨y,hy,hys⟩:=hall.get (q2 j s hs)
 refine⟨y,by show(if w.heap.size=w.heap.size then(vs++[Value.agg #[]])[0+k*n+j]? else _)=_;rw[if_pos rfl,Nat.zero_add,List.getElem?_append_left (List.getElem?_eq_some_iff.1 hy).1];exact hy,hone y (List.mem_of_getElem? hy),s.mono (fun b o v e=>?_) hys⟩
 have:b≠w.heap.size:=by rintro rfl;have:=og h.cI e;omega
 simp[this,e]
end
end Go.Fw
