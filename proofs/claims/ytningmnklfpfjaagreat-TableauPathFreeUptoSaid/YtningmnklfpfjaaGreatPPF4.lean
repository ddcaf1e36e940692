/- A part of the proof: the framework, the plain functions, the followed functions, the plain laws. -/
import Derived.Test.YtningmnklfpfjaaGreatPPF3
set_option linter.unusedVariables false
set_option linter.unusedSimpArgs false
namespace Go.Proofs.YtningmnklfpfjaaGreat
open Go.Fw Go.Fw.Z Go.RowKit
theorem oB{x0:List Nat}(N:Nat){r:List Nat}(h:dj x0=some r):cL Tryz.prog 175 N [slc 1 (List.map ah x0)] (nw N (slc 1 (List.map ah r))):=TH (nf h)
theorem qS{x0:List Nat}(N:Nat){r:List Nat}(h:aG x0=some r):cL Tryz.prog 144 N [nw N (slc 1 (List.map ah x0))] (nw N (slc 1 (List.map ah r))):=by
 refine aO Tryz.func144 rfl (Nat.le_of_ble_eq_true rfl) (fun cO M vs hN hvs=>?_)
 unfold aG at h
 refine sr<|aI rfl (aB (N:=N) (n:=1) (e:=ah))<|dn<|qq<|bE h fun PI Gj A7=>?_
 refine aT (fun(Cr:(List Nat))=>AS.bJ 21 [(0,.sv (nw N (slc 1 (List.map ah Cr))))] [] []) (fun Cr=>Cr=PI) ?_ (fun Cr Gk=>?_)
 refine ak ?_
 refine aU Gj (fun Gg=>AS.bJ 21 [(0,.sv (nw N (slc 1 (List.map ah Gg))))] [] []) (wR []) (fun A6 y10 G10 h Gl CH=>?_)
 try dsimp only
 refine qq<|qq ?_
 refine aF h (fun Nz=>AS.bJ 21 [(0,.sv (nw N (slc 1 (List.map ah A6)))),(14,.sv (.v (.bool Nz)))] [] []) (fun h=>?_) (fun Cq h=>?_)
 refine af<|mv rfl<|lE h fun x4 h4 h=>RT.Fl .none rfl T h4<|lE h fun x5 h5 h=>gt _ rfl rfl h5<|mv rfl<|bE h fun zQ dZ h=>?_
 cases x5
 obtain rfl:=O (F dZ)
 exact ww<|ww<|ww<|ww<|ww<|ww<|ww<|pF rfl<|dn<|⟨false,h,wR []⟩
 refine gm rfl<|gm rfl<|lE (V dZ) fun x9 h9 dZ=>RT.Fl (.some rfl rfl) rfl T h9<|lE dZ fun ek gC dZ=>RT.sub (.some rfl rfl) _ rfl rfl T gC<|bE dZ fun iI nh dZ=>RT.acf (.some rfl rfl) rfl rfl T nh<|gr rfl rfl<|lE dZ fun iA gW dZ=>ge_ _ rfl rfl (eqN (p:=iI) (q:=0) gW) ?_
 obtain rfl:=O dZ
 exact pT rfl<|dn<|⟨iA,h,wR []⟩
 try dsimp only
 refine ae.n ?_
 cases Cq
 refine cF<|bf<|ae.x<|ae.x<|aK.x<|ae.n ?_
 obtain rfl:=O (F h)
 exact⟨A6,CH _ rfl,wR []⟩
 refine cT<|aH<|ae.n<|ak<|af<|mv rfl<|mv rfl<|lE (V h) fun gx lH h=>RT.Fl .none rfl T lH<|lE h fun fF iM h=>sb _ rfl rfl iM<|bE h fun kS kJ h=>RT.TI .none 0 fF rfl rfl ⟨_,rfl⟩ T kJ<|ag rfl<|RT.done<|aK.n ?_
 obtain rfl:=O h
 exact ae.n ⟨kS,Gl _ rfl,wR []⟩
 subst Gk
 try dsimp only
 refine ae.n<|sr<|mv rfl<|ag rfl<|dn<|aj ?_
 obtain rfl:=O A7
 exact R1 rfl
theorem fB{x0:Bool}{x1:List Nat}(N:Nat){r:Zr}(h:bO x0 x1=some r):cL Tryz.prog 163 N [.v (.bool x0),nw N (slc 1 (List.map ah x1))] (.agg ((fZ N) r)):=by
 refine aO Tryz.func163 rfl (Nat.le_of_ble_eq_true rfl) (fun cO M vs hN hvs=>?_)
 unfold bO at h
 refine sr<|al (cs:=[.v (.bool false),nw N (slc 1 (List.map ah []))]) (by exact⟨SV.aa _,aB,trivial⟩) rfl<|dn<|sr<|mv rfl<|bE h fun x6 h6 h=>RT.aX .none (qS N h6) hN rfl ⟨rfl,trivial⟩ T<|ag rfl<|dn<|qq<|sr<|mv rfl<|lE h fun x8 h8 h=>RT.Fl .none rfl T h8<|lE h fun x9 h9 h=>eq _ rfl rfl (ua (p:=x8) (q:=0) h9)<|dn ?_
 cases x9
 refine fs<|sr<|mv rfl<|mv rfl<|bI (cs:=[_,_]) (cs':=[.v (.bool x0),nw N (slc 1 (List.map ah x6))]) (.one rfl (.one rfl (.nil))) ⟨SV.aa _,SV.aa _,trivial⟩<|so rfl rfl rfl<|dn<|aj ?_
 obtain rfl:=O (F h)
 exact RZ (.agg rfl rfl (.cons rfl (.cons rfl (.nil))) rfl (.nil))
 refine cT<|sr<|bI (cs:=[_,_]) (cs':=[.v (.bool false),nw N (slc 1 (List.map ah []))]) (.nil) ⟨SV.aa _,aB,trivial⟩<|so rfl rfl rfl<|dn<|aj<|ae.r ?_
 obtain rfl:=O (V h)
 exact RZ (.agg rfl rfl (.cons rfl (.cons rfl (.nil))) rfl (.nil))
theorem kA{x0:Bool}{x1:Nat}(N:Nat){r:Zr}(h:dI x0 x1=some r):cL Tryz.prog 137 N [.v (.bool x0),.v (.int .u64 ((x1:Nat):Int))] (.agg ((fZ N) r)):=by
 refine aO Tryz.func137 rfl (Nat.le_of_ble_eq_true rfl) (fun cO M vs hN hvs=>?_)
 unfold dI at h
 refine sr<|al (cs:=[.v (.bool false),nw N (slc 1 (List.map ah []))]) (by exact⟨SV.aa _,aB,trivial⟩) rfl<|dn<|qq<|ak<|sr<|mv rfl<|lE h fun x7 h7 h=>eq _ rfl rfl (eqN (p:=x1) (q:=0) h7)<|ag rfl<|dn ?_
 cases x7
 refine cF<|sr<|mv rfl<|lE (F h) fun iI nh h=>RT.shr .none _ rfl rfl T (by decide) (A5 (k:=.u64) (a:=x1) (q:=32) (s:=32) rfl nh)<|lE h fun dW fj h=>eq _ rfl rfl (eqN (p:=iI) (q:=0) fj)<|ag rfl<|dn ?_
 cases dW
 refine cF<|aH<|aK.n<|ae.n<|sr<|mv rfl<|mv rfl<|lE (F h) fun gO lW h=>cv _ rfl (UK.nat lW)<|mv rfl<|lE h fun jB nS h=>RT.shr .none _ rfl rfl T (by decide) (A5 (k:=.u64) (a:=x1) (q:=32) (s:=32) rfl nS)<|lE h fun jJ qb h=>cv _ rfl (UK.nat qb)<|RT.y4 (l:=[gO,jJ]) (e:=ah) .none hN (.one rfl (.one rfl (.nil))) T rfl rfl rfl rfl rfl rfl<|bI (cs:=[_,_]) (cs':=[.v (.bool x0),nw N (slc 1 (List.map ah [gO,jJ]))]) (.one rfl (.one rfl (.nil))) ⟨SV.aa _,SV.aa _,trivial⟩ ?_
 refine so rfl rfl rfl<|dn<|aj ?_
 obtain rfl:=O h
 exact RZ (.agg rfl rfl (.cons rfl (.cons rfl (.nil))) rfl (.nil))
 refine cT<|sr<|mv rfl<|mv rfl<|lE (V h) fun dR fT h=>cv _ rfl (UK.nat fT)<|RT.y4 (l:=[dR]) (e:=ah) .none hN (.one rfl (.nil)) T rfl rfl rfl rfl rfl rfl<|bI (cs:=[_,_]) (cs':=[.v (.bool x0),nw N (slc 1 (List.map ah [dR]))]) (.one rfl (.one rfl (.nil))) ⟨SV.aa _,SV.aa _,trivial⟩<|so rfl rfl rfl<|dn<|aj<|aK.r<|ae.r ?_
 obtain rfl:=O h
 exact RZ (.agg rfl rfl (.cons rfl (.cons rfl (.nil))) rfl (.nil))
 refine cT<|sr<|bI (cs:=[_,_]) (cs':=[.v (.bool false),nw N (slc 1 (List.map ah []))]) (.nil) ⟨SV.aa _,aB,trivial⟩<|so rfl rfl rfl<|dn<|aj<|aK.r<|ae.r ?_
 obtain rfl:=O (V h)
 exact RZ (.agg rfl rfl (.cons rfl (.cons rfl (.nil))) rfl (.nil))
theorem qE{x0:List Nat}{x1:List Nat}(N:Nat){r:List Nat}(h:dy x0 x1=some r):cL Tryz.prog 194 N [slc 1 (List.map ah x0),slc 1 (List.map ah x1)] (nw N (slc 1 (List.map ah r))):=by
 refine aO Tryz.func194 rfl (Nat.le_of_ble_eq_true rfl) (fun cO M vs hN hvs=>?_)
 unfold dy at h
 refine sr<|aI rfl (aB (N:=N) (n:=1) (e:=ah))<|dn<|sr<|mv rfl<|lE h fun ek gC h=>ln rfl gC<|mv rfl<|lE h fun dW fj h=>ln rfl fj<|lE h fun iA gW h=>RT.max .none _ rfl rfl T (Im (p:=ek) (q:=dW) gW)<|lE h fun fg jv h=>ad _ rfl rfl jv<|bE h fun dR fT h=>RT.wO (e:=ah) .none rfl rfl T rfl T fT<|RT.alloc .none T rfl rfl<|RT.iH (cells:=[_]) .none rfl rfl rfl rfl T rfl<|dn<|sr ?_
 refine RT.uu .none (cE 0) rfl ⟨rfl,trivial⟩ T rfl rfl<|RT.alloc .none T rfl rfl<|RT.oh (cells:=[_]) .none (s:=.eU _ _) rfl rfl rfl T rfl<|dn<|qq<|sr<|mv rfl<|mv rfl<|cl (l9 x0 x1) ⟨rfl,rfl,trivial⟩<|dn<|ak<|bE h fun e7 Xf KQ=>?_
 obtain⟨KR,Xg,Xh,Xi⟩:=jA Xf
 refine fW (mc x0 x1) (fun _ _ _ _ _=>trivial) rfl (fun k=>AS.bJ 35 [(5,.ptr 5 0),(6,.ptr 6 0),(19,.sv (iC 214 [ref [slc 1 (List.map ah x0)],ref [slc 1 (List.map ah x1)]]))] [(6,⟨186,[.eU 202 [.box 16]]⟩),(16,⟨128,[.sv (.v (.int .u64 (((KR k).1:Nat):Int)))]⟩),(5,⟨39,[.row 302]⟩)] [(302,TR 130 1 ah (KR k).2)]) [6,16,5] rfl (fun _=>⟨rfl,rfl⟩) (om rfl) (fun _=>rfl) (oq rfl) (by(try dsimp only);rw[Xg];(try dsimp only);exact cy (fun i=>bif Nat.beq i 302 then 15 else i) rfl rfl rfl rfl rfl ⟨.ptr,.ptr,.sv (SV.aa _),trivial⟩ ⟨⟨_,rfl,⟨.eU,trivial⟩⟩,⟨_,rfl,⟨.sv (SV.aa _),trivial⟩⟩,⟨_,rfl,⟨.row rfl,trivial⟩⟩,trivial⟩ ⟨⟨_,rfl,bB.refl _⟩,trivial⟩ (fun i hi=>by rw[bp (show i≠302 by omega)];rfl)) (fun k hk D hD=>?_) ?_
 have h:=Xh k hk
 obtain⟨sk,IG⟩:∃q,KR k=q:=⟨_,rfl⟩
 rw[IG]at h⊢
 obtain⟨sG,gQ⟩:=sk
 dsimp only[AS.L4,oY]
 try dsimp only at h
 refine lE h fun p20 CL h=>?_
 rw[CL]
 refine lE h fun p21 Xj h=>?_
 rw[Xj]
 refine sr<|ag rfl<|dn<|af<|ag rfl<|RT.done ?_
 refine ae.n ⟨rfl,?_⟩
 dsimp only[AS.yy]
 refine ak<|ai mixed<|RT.c7 .none (s:=.row _) rfl rfl rfl T<|RT.c7 .none (s:=.eU _ _) rfl rfl rfl T<|mv rfl<|mv rfl<|lE h fun lG oQ h=>ad _ rfl rfl (UK.add (a:=p20) (b:=p21) oQ) ?_
 obtain⟨⟨lq,k9⟩,oU,h⟩:=bS h
 refine cB (aY oU) 16 rfl ⟨rfl,trivial⟩<|bl (l:=[lq]) (e:=ah) (.one rfl (.nil)) rfl rfl rfl rfl rfl rfl<|bE h fun iq jw h=>aR (k:=[lq]) (e:=ah) rfl rfl rfl jw<|RT.iH (cells:=[_]) .none rfl rfl rfl rfl T rfl ?_
 refine RT.done ⟨by kernel_rfl,?_⟩
 refine aK.n ?_
 replace h:=Option.some.inj h
 refine⟨trivial,rfl,rfl,?_⟩
 try dsimp only
 rw[←h]
 try dsimp only
 exact cy (fun i=>bif Nat.beq i 302 then 29 else i) rfl rfl rfl rfl rfl ⟨.ptr,.ptr,.sv (SV.aa _),trivial⟩ ⟨⟨_,rfl,⟨.eU,trivial⟩⟩,⟨_,rfl,⟨.sv (SV.aa _),trivial⟩⟩,⟨_,rfl,⟨.row rfl,trivial⟩⟩,trivial⟩ ⟨⟨_,rfl,bB.refl _⟩,trivial⟩ (fun i hi=>by rw[bp (show i≠302 by omega)];rfl)
 rw[Xi]
 obtain⟨sG,gQ⟩:=e7
 try dsimp only
 refine aK.n<|ae.n<|qq<|ai mixed<|RT.c7 .none (s:=.row _) rfl rfl rfl T<|RT.c7 .none (s:=.eU _ _) rfl rfl rfl T ?_
 obtain⟨⟨iD,k11⟩,kV,KQ⟩:=bS KQ
 refine cB (aY kV) 16 rfl ⟨rfl,trivial⟩<|bl (l:=[iD]) (e:=ah) (.one rfl (.nil)) rfl rfl rfl rfl rfl rfl<|bE KQ fun m8 o9 KQ=>RT.acg (k:=[iD]) (e:=ah) .none hN (fun _ h=>h) rfl rfl rfl T rfl T o9<|ag rfl ?_
 refine RT.done ⟨by kernel_rfl,?_⟩
 refine ae.n<|aj ?_
 obtain rfl:=O KQ
 exact R1 rfl
theorem mu{x0:List Nat}{x1:List Nat}(N:Nat){r:List Nat}(h:cg x0 x1=some r):cL Tryz.prog 195 N [slc 1 (List.map ah x0),slc 1 (List.map ah x1)] (nw N (slc 1 (List.map ah r))):=by
 refine aO Tryz.func195 rfl (Nat.le_of_ble_eq_true rfl) (fun cO M vs hN hvs=>?_)
 unfold cg at h
 refine sr<|aI rfl (aB (N:=N) (n:=1) (e:=ah))<|dn<|sr<|mv rfl<|lE h fun ek gC h=>ln rfl gC<|bE h fun iI nh h=>RT.wO (e:=ah) .none rfl rfl T rfl T nh<|RT.alloc .none T rfl rfl<|RT.iH (cells:=[_]) .none rfl rfl rfl rfl T rfl<|dn<|sr<|RT.uu .none (cE 1) rfl ⟨rfl,trivial⟩ T rfl rfl<|RT.alloc .none T rfl rfl<|RT.oh (cells:=[_]) .none (s:=.eU _ _) rfl rfl rfl T rfl<|dn<|qq<|sr<|mv rfl ?_
 refine mv rfl<|cl (l9 x0 x1) ⟨rfl,rfl,trivial⟩<|dn<|ak<|bE h fun e7 Xf KQ=>?_
 obtain⟨KR,Xg,Xh,Xi⟩:=jA Xf
 refine fW (mc x0 x1) (fun _ _ _ _ _=>trivial) rfl (fun k=>AS.bJ 28 [(5,.ptr 5 0),(6,.ptr 6 0),(15,.sv (iC 214 [ref [slc 1 (List.map ah x0)],ref [slc 1 (List.map ah x1)]]))] [(6,⟨186,[.eU 202 [.box 12]]⟩),(12,⟨128,[.sv (.v (.int .u64 (((KR k).1:Nat):Int)))]⟩),(5,⟨39,[.row 302]⟩)] [(302,TR 130 1 ah (KR k).2)]) [6,12,5] rfl (fun _=>⟨rfl,rfl⟩) (om rfl) (fun _=>rfl) (oq rfl) (by(try dsimp only);rw[Xg];(try dsimp only);exact cy (fun i=>bif Nat.beq i 302 then 11 else i) rfl rfl rfl rfl rfl ⟨.ptr,.ptr,.sv (SV.aa _),trivial⟩ ⟨⟨_,rfl,⟨.eU,trivial⟩⟩,⟨_,rfl,⟨.sv (SV.aa _),trivial⟩⟩,⟨_,rfl,⟨.row rfl,trivial⟩⟩,trivial⟩ ⟨⟨_,rfl,bB.refl _⟩,trivial⟩ (fun i hi=>by rw[bp (show i≠302 by omega)];rfl)) (fun k hk D hD=>?_) ?_
 have h:=Xh k hk
 obtain⟨sk,IG⟩:∃q,KR k=q:=⟨_,rfl⟩
 rw[IG]at h⊢
 obtain⟨vT,gQ⟩:=sk
 dsimp only[AS.L4,oY]
 try dsimp only at h
 refine lE h fun p16 Xk h=>?_
 rw[Xk]
 refine lE h fun p17 Xl h=>?_
 rw[Xl]
 refine sr<|ag rfl<|dn<|af<|ag rfl<|RT.done ?_
 refine ae.n ⟨rfl,?_⟩
 dsimp only[AS.yy]
 refine ak<|ai mixed<|RT.c7 .none (s:=.row _) rfl rfl rfl T<|RT.c7 .none (s:=.eU _ _) rfl rfl rfl T<|mv rfl<|mv rfl<|lE h fun jB nS h=>sb _ rfl rfl (UK.sub (a:=4294967295) (b:=p17) nS)<|lE h fun jJ qb h=>ad _ rfl rfl (UK.add (a:=p16) (b:=jB) qb) ?_
 obtain⟨⟨ir,k9⟩,mP,h⟩:=bS h
 refine cB (aY mP) 12 rfl ⟨rfl,trivial⟩<|bl (l:=[ir]) (e:=ah) (.one rfl (.nil)) rfl rfl rfl rfl rfl rfl<|bE h fun lG oQ h=>aR (k:=[ir]) (e:=ah) rfl rfl rfl oQ<|RT.iH (cells:=[_]) .none rfl rfl rfl rfl T rfl ?_
 refine RT.done ⟨by kernel_rfl,?_⟩
 refine aK.n ?_
 replace h:=Option.some.inj h
 refine⟨trivial,rfl,rfl,?_⟩
 try dsimp only
 rw[←h]
 try dsimp only
 exact cy (fun i=>bif Nat.beq i 302 then 26 else i) rfl rfl rfl rfl rfl ⟨.ptr,.ptr,.sv (SV.aa _),trivial⟩ ⟨⟨_,rfl,⟨.eU,trivial⟩⟩,⟨_,rfl,⟨.sv (SV.aa _),trivial⟩⟩,⟨_,rfl,⟨.row rfl,trivial⟩⟩,trivial⟩ ⟨⟨_,rfl,bB.refl _⟩,trivial⟩ (fun i hi=>by rw[bp (show i≠302 by omega)];rfl)
 rw[Xi]
 obtain⟨vT,gQ⟩:=e7
 try dsimp only
 refine aK.n<|ae.n<|sr<|RT.c7 .none (s:=.row _) rfl rfl rfl T<|an (s:=.row _) rfl<|dn<|jm (i:=302) (E1:=130) (n:=1) (e:=ah) (l:=gQ) hN (fun _ h=>h) rfl<|aj ?_
 obtain rfl:=O KQ
 exact R1 rfl
theorem y5{x0:List Nat}{x1:List Nat}(N:Nat){r:List Nat}(h:dX x0 x1=some r):cL Tryz.prog 164 N [slc 1 (List.map ah x0),slc 1 (List.map ah x1)] (nw N (slc 1 (List.map ah r))):=by
 refine aO Tryz.func164 rfl (Nat.le_of_ble_eq_true rfl) (fun cO M vs hN hvs=>?_)
 unfold dX at h
 refine sr<|aI rfl (aB (N:=N) (n:=1) (e:=ah))<|dn<|sr<|mv rfl<|lE h fun dW fj h=>ln rfl fj<|mv rfl<|lE h fun fg jv h=>ln rfl jv<|lE h fun dR fT h=>ad _ rfl rfl fT<|bE h fun iY kX h=>RT.kW (n:=1) (e:=ah) .none rfl rfl T rfl T (by rfl) (by decide) (by exact⟨SV.aa _,trivial⟩) kX<|an (s:=.row _) rfl<|dn<|qq<|sr<|mv rfl<|lE h fun fF iM h=>ln rfl iM ?_
 refine mv rfl<|dn<|bE h fun e28 Xm Xn=>?_
 refine aT (fun(m9:(List Nat))=>AS.bJ 63 [(5,.row 16)] [] [(16,TR 130 1 ah m9)]) (fun m9=>m9=e28) ?_ (fun m9 Xo=>?_)
 refine ak ?_
 refine aU Xm (fun Pe=>AS.bJ 63 [(1,.sv (slc 1 (List.map ah x1))),(5,.row 16),(17,.sv (slc 1 (List.map ah x0))),(18,.sv (.v (.int .i64 fF))),(19,.sv (.v (.int .i64 Pe.1)))] [] [(16,TR 130 1 ah Pe.2)]) (wR []) (fun Pe y28 G28 h Xp Xq=>?_)
 obtain⟨kT,zR⟩:=Pe
 try dsimp only
 refine sr<|lE h fun gO lW h=>ls _ rfl rfl lW<|dn<|qq ?_
 cases gO
 refine cF<|bf<|ae.x<|ae.x<|aK.x<|ae.n ?_
 obtain rfl:=O (F h)
 exact⟨zR,Xq _ rfl,wR []⟩
 refine cT<|aH<|ae.n<|qq<|ak<|sr<|mv rfl<|bE (V h) fun jB nS h=>ix rfl rfl nS<|lr rfl rfl<|ag rfl<|ag rfl<|dn<|sr<|RT.uu .none (cE 0) rfl ⟨rfl,trivial⟩ T rfl rfl<|an (s:=.eU _ _) rfl<|dn<|qq<|sr<|mv rfl<|lE h fun lG oQ h=>ln rfl oQ<|mv rfl<|dn<|bE h fun WX PK eT=>?_
 refine aT (fun(zW:Nat×(List Nat))=>AS.bJ 63 [(1,.sv (slc 1 (List.map ah x1))),(5,.row 16),(6,.sv (.v (.int .i64 kT))),(8,.eU 202 [.box 24]),(17,.sv (slc 1 (List.map ah x0))),(18,.sv (.v (.int .i64 fF))),(19,.sv (.v (.int .i64 kT)))] [(24,⟨128,[.sv (.v (.int .u64 ((zW.1:Nat):Int)))]⟩)] [(16,TR 130 1 ah zW.2)]) (fun zW=>zW=WX) ?_ (fun zW PL=>?_)
 refine ak ?_
 refine aU PK (fun EW=>AS.bJ 63 [(1,.sv (slc 1 (List.map ah x1))),(5,.row 16),(6,.sv (.v (.int .i64 kT))),(7,.sv (.v (.int .u32 ((jB:Nat):Int)))),(8,.eU 202 [.box 24]),(17,.sv (slc 1 (List.map ah x0))),(18,.sv (.v (.int .i64 fF))),(19,.sv (.v (.int .i64 kT))),(25,.sv (slc 1 (List.map ah x1))),(26,.sv (.v (.int .i64 lG))),(27,.sv (.v (.int .i64 EW.1)))] [(24,⟨128,[.sv (.v (.int .u64 ((EW.2.1:Nat):Int)))]⟩)] [(16,TR 130 1 ah EW.2.2)]) (wR []) (fun EW y38 G38 h PM PN=>?_)
 obtain⟨xz,rH,sH⟩:=EW
 try dsimp only
 refine sr<|lE h fun oM sS h=>ls _ rfl rfl sS<|dn<|qq ?_
 cases oM
 refine cF<|bf<|ae.x<|ae.x<|aK.x<|ae.n ?_
 obtain rfl:=O (F h)
 exact⟨(rH,sH),PN _ rfl,wR []⟩
 refine cT<|aH<|ae.n<|qq<|ak<|sr<|mv rfl<|bE (V h) fun uB uJ h=>ix rfl rfl uJ<|lr rfl rfl<|ag rfl<|ag rfl<|dn<|af<|mo (s:=.row _) rfl<|mv rfl<|mv rfl<|lE h fun ow xD h=>ad _ rfl rfl xD<|mo (s:=.eU _ _) rfl<|mo (s:=.row _) rfl<|mv rfl<|mv rfl<|lE h fun lO oc h=>ad _ rfl rfl oc<|bE h fun tG zX h=>iR rfl rfl rfl zX ?_
 refine bE h fun oZ xE h=>lR rfl rfl xE rfl<|lE h fun tJ BF h=>cv _ rfl (UK.nat BF)<|mv rfl<|lE h fun xA Gp h=>cv _ rfl (UK.nat Gp)<|mv rfl<|lE h fun uC xF h=>cv _ rfl (UK.nat xF)<|lE h fun rI h48 h=>RT.mul .none _ rfl rfl T (UK.mul (a:=xA) (b:=uC) h48)<|lE h fun Iw KS h=>ad _ rfl rfl (UK.add (a:=tJ) (b:=rI) KS) ?_
 obtain⟨⟨ri,k41⟩,A8,h⟩:=bS h
 refine cB (aY A8) 24 rfl ⟨rfl,trivial⟩<|bE h fun Gc Gq h=>iR rfl rfl rfl Gq<|bE h fun SB II h=>sR ri rfl rfl rfl rfl II<|RT.done<|aK.n<|ae.n<|af<|lE h fun uc yL h=>ad _ rfl rfl yL<|mv rfl<|RT.done ?_
 obtain rfl:=O h
 exact ae.n ⟨(uc,k41,SB),PM _ rfl,wR []⟩
 subst PL
 obtain⟨Cs,Ge⟩:=zW
 try dsimp only
 refine ae.n<|af<|mo (s:=.row _) rfl<|mv rfl<|mv rfl<|lE eT fun D5 Ep eT=>ln rfl Ep<|lE eT fun SC Xr eT=>ad _ rfl rfl Xr<|mo (s:=.eU _ _) rfl ?_
 obtain⟨⟨KE,k45⟩,Tl,eT⟩:=bS eT
 refine cB (aY Tl) 24 rfl ⟨rfl,trivial⟩<|bE eT fun EX KT eT=>iR rfl rfl rfl KT<|bE eT fun l46 PO eT=>sR KE rfl rfl rfl rfl PO<|RT.done<|aK.n<|ae.n<|af<|lE eT fun D6 KU eT=>ad _ rfl rfl KU<|mv rfl<|RT.done ?_
 obtain rfl:=O eT
 exact ae.n ⟨(D6,l46),Xp _ rfl,wR []⟩
 subst Xo
 try dsimp only
 refine ae.n<|sr<|mo (s:=.row _) rfl<|an (s:=.row _) rfl<|dn<|jm (i:=16) (E1:=130) (n:=1) (e:=ah) (l:=m9) hN (fun _ h=>h) rfl<|aj ?_
 obtain rfl:=O Xn
 exact R1 rfl
set_option maxHeartbeats 4000000 in
theorem Ad{x0:List Nat}{x1:List Nat}(N:Nat){r:(List Nat)×(List Nat)}(h:fM x0 x1=some r):cL Tryz.prog 205 N [slc 1 (List.map ah x0),slc 1 (List.map ah x1)] (.wm [nw N (slc 1 (List.map ah r.1)),nw N (slc 1 (List.map ah r.2))]):=by
 refine aO Tryz.func205 rfl (Nat.le_of_ble_eq_true rfl) (fun cO M vs hN hvs=>?_)
 unfold fM at h
 refine sr<|ag rfl<|ag rfl<|dn<|bt (fR 4 306 130 1 rfl rfl T)<|bt (fR 5 308 130 1 rfl rfl T)<|sr<|mv rfl<|lE h fun gx lH h=>ln rfl lH<|ag rfl<|dn<|sr<|mv rfl<|mv rfl<|lE h fun gO lW h=>sb _ rfl rfl lW<|bE h fun ik ni h=>ix rfl rfl ni<|lr rfl rfl<|bE h fun jJ qb h=>cl (jT qb) ⟨rfl,trivial⟩ ?_
 refine lE h fun ir mP h=>cv _ rfl (UK.conv mP)<|ag rfl<|dn<|qq<|ai mixed<|mv rfl<|mv rfl<|bE h fun lq oU h=>cN (oN oU) ⟨rfl,rfl,trivial⟩<|mv rfl<|mv rfl<|bE h fun uB uJ h=>cl (pq uJ) ⟨rfl,rfl,trivial⟩<|mv rfl<|bE h fun iD kV h=>RT.F8 .none 0 gx rfl rfl ⟨_,rfl⟩ T kV<|an (s:=.row _) rfl<|ag rfl ?_
 refine RT.done ⟨by kernel_rfl,?_⟩
 refine ae.n<|sr<|mv rfl<|lE h fun m8 o9 h=>ln rfl o9<|mv rfl<|lE h fun oP qe h=>sb _ rfl rfl qe<|lE h fun sK yN h=>ad _ rfl rfl yN<|bE h fun yB Gn h=>RT.kW (n:=1) (e:=ah) .none rfl rfl T rfl T (by rfl) (by decide) (by exact⟨SV.aa _,trivial⟩) Gn<|an (s:=.row _) rfl<|dn<|qq<|sr<|mv rfl<|lE h fun lO oc h=>ln rfl oc<|mv rfl<|lE h fun oZ xE h=>sb _ rfl rfl xE ?_
 refine ag rfl<|dn<|bE h fun e36 Xu KY=>?_
 refine aT (fun(zZ:(List Nat)×(List Nat))=>AS.bJ 141 [(4,.row 38),(6,.sv (.v (.int .i64 gx))),(7,.sv (.v (.int .u64 ((ir:Nat):Int)))),(8,.row 27)] [] [(38,TR 130 1 ah zZ.1),(27,TR 130 1 ah zZ.2)]) (fun zZ=>zZ=e36) ?_ (fun zZ Xv=>?_)
 refine ak ?_
 refine aU Xu (fun Nt=>AS.bJ 141 [(4,.row 38),(6,.sv (.v (.int .i64 gx))),(7,.sv (.v (.int .u64 ((ir:Nat):Int)))),(8,.row 27),(9,.sv (slc 1 (List.map ah iD))),(10,.sv (.v (.int .i64 Nt.1)))] [] [(38,TR 130 1 ah Nt.2.1),(27,TR 130 1 ah Nt.2.2)]) (wR []) (fun Nt y36 G36 h Xw Xx=>?_)
 obtain⟨gD,nc,qQ⟩:=Nt
 try dsimp only
 refine qq<|sr<|mv rfl<|lE h fun zS A9 h=>ge _ rfl rfl A9<|dn ?_
 cases zS
 refine cF<|bf<|ae.x<|ae.x<|aK.x<|ae.n ?_
 obtain rfl:=O (F h)
 exact⟨(nc,qQ),Xx _ rfl,wR []⟩
 refine cT<|aH<|ae.n<|qq<|ak<|sr<|mo (s:=.row _) rfl<|mv rfl<|mv rfl<|mv rfl<|lE (V h) fun Gc Gq h=>ad _ rfl rfl Gq<|lE h fun uc yL h=>ad _ rfl rfl yL ?_
 obtain⟨⟨o53,n53⟩,NA,h⟩:=bS h
 refine RT.Td .none gD uc rfl rfl ⟨_,rfl⟩ ⟨_,rfl⟩ T NA<|mv rfl ?_
 obtain⟨⟨wA,Ol⟩,IJ,h⟩:=bS h
 refine bE h fun _ Xy h=>cR (l:=qQ) (l':=Ol) (e:=ah) (qw IJ) (jb Xy) 27 rfl (.cons rfl (.cons rfl (.nil)))<|ag rfl<|dn<|qq<|sr<|mo (s:=.row _) rfl<|mv rfl<|mv rfl<|mv rfl<|lE h fun EX KT h=>ad _ rfl rfl KT<|lE h fun D6 KU h=>ad _ rfl rfl KU ?_
 obtain⟨⟨o62,n62⟩,h62,h⟩:=bS h
 refine RT.Td .none gD D6 rfl rfl ⟨_,rfl⟩ ⟨_,rfl⟩ T h62<|mv rfl<|mv rfl ?_
 obtain⟨⟨Ve,Nu⟩,h65,h⟩:=bS h
 refine bE h fun _ Xz h=>cR (l:=Ol) (l':=Nu) (e:=ah) (kR h65) (jb Xz) 27 rfl (.cons rfl (.cons rfl (.cons rfl (.nil))))<|dn ?_
 refine aF h (fun Nv=>AS.bJ 141 [(4,.row 38),(6,.sv (.v (.int .i64 gx))),(7,.sv (.v (.int .u64 ((ir:Nat):Int)))),(8,.row 27),(9,.sv (slc 1 (List.map ah iD))),(10,.sv (.v (.int .i64 gD))),(11,.sv (.v (.int .u64 ((Nv.1:Nat):Int))))] [] [(38,TR 130 1 ah nc),(27,TR 130 1 ah Nv.2)]) (fun h=>?_) (fun Nv h=>?_)
 cases Ve
 exact fs<|⟨(wA,Nu),(F h),wR []⟩
 refine cT<|sr<|mv rfl<|lE (V h) fun Om XA h=>sb _ rfl rfl (UK.sub (a:=wA) (b:=1) XA)<|ag rfl<|dn<|sr<|RT.uu .none (cE 0) rfl ⟨rfl,trivial⟩ T rfl rfl<|an (s:=.eU _ _) rfl<|dn<|qq<|sr<|mv rfl<|lE h fun D7 Tn h=>ln rfl Tn<|mv rfl<|dn<|bE h fun e65 XB kf=>?_
 refine aT (fun(z4:Nat×(List Nat))=>AS.bJ 141 [(4,.row 38),(6,.sv (.v (.int .i64 gx))),(7,.sv (.v (.int .u64 ((ir:Nat):Int)))),(8,.row 27),(9,.sv (slc 1 (List.map ah iD))),(10,.sv (.v (.int .i64 gD))),(11,.sv (.v (.int .u64 ((Om:Nat):Int)))),(12,.eU 202 [.box 68])] [(68,⟨128,[.sv (.v (.int .u64 ((z4.1:Nat):Int)))]⟩)] [(38,TR 130 1 ah nc),(27,TR 130 1 ah z4.2)]) (fun z4=>z4=e65) ?_ (fun z4 XC=>?_)
 refine ak ?_
 refine aU XB (fun Nw=>AS.bJ 141 [(4,.row 38),(6,.sv (.v (.int .i64 gx))),(7,.sv (.v (.int .u64 ((ir:Nat):Int)))),(8,.row 27),(9,.sv (slc 1 (List.map ah iD))),(10,.sv (.v (.int .i64 gD))),(11,.sv (.v (.int .u64 ((Om:Nat):Int)))),(12,.eU 202 [.box 68]),(69,.sv (slc 1 (List.map ah iD))),(70,.sv (.v (.int .i64 D7))),(71,.sv (.v (.int .i64 Nw.1)))] [(68,⟨128,[.sv (.v (.int .u64 ((Nw.2.1:Nat):Int)))]⟩)] [(38,TR 130 1 ah nc),(27,TR 130 1 ah Nw.2.2)]) (wR []) (fun Nw y65 G65 h XD XE=>?_)
 obtain⟨xB,rJ,sM⟩:=Nw
 try dsimp only
 refine sr<|lE h fun KJ To h=>ls _ rfl rfl To<|dn<|qq ?_
 cases KJ
 refine cF<|bf<|ae.x<|ae.x<|aK.x<|ae.n ?_
 obtain rfl:=O (F h)
 exact⟨(rJ,sM),XE _ rfl,wR []⟩
 refine cT<|aH<|ae.n<|qq<|ak<|sr<|mv rfl<|bE (V h) fun x74 h74 h=>ix rfl rfl h74<|lr rfl rfl<|ag rfl<|ag rfl<|dn<|af<|mo (s:=.row _) rfl<|mv rfl<|mv rfl<|lE h fun Iy Tp h=>ad _ rfl rfl Tp<|mo (s:=.eU _ _) rfl<|mo (s:=.row _) rfl<|mv rfl<|mv rfl<|lE h fun Pp h84 h=>ad _ rfl rfl h84<|bE h fun x85 h85 h=>iR rfl rfl rfl h85 ?_
 refine bE h fun Pq XF h=>lR rfl rfl XF rfl<|lE h fun Iz XG h=>cv _ rfl (UK.nat XG)<|mv rfl<|lE h fun x89 h89 h=>cv _ rfl (UK.nat h89)<|lE h fun SE XH h=>ad _ rfl rfl (UK.add (a:=Iz) (b:=x89) XH) ?_
 obtain⟨⟨x91,k68⟩,h91,h⟩:=bS h
 refine cB (aY h91) 68 rfl ⟨rfl,trivial⟩<|bE h fun x92 h92 h=>iR rfl rfl rfl h92<|bE h fun Tk IK h=>sR x91 rfl rfl rfl rfl IK<|RT.done<|aK.n<|ae.n<|af<|lE h fun Me XI h=>ad _ rfl rfl XI<|mv rfl<|RT.done ?_
 obtain rfl:=O h
 exact ae.n ⟨(Me,k68,Tk),XD _ rfl,wR []⟩
 subst XC
 obtain⟨Cw,zT⟩:=z4
 try dsimp only
 refine ae.n<|af<|mo (s:=.row _) rfl<|mv rfl<|mv rfl<|lE kf fun x97 h97 kf=>ad _ rfl rfl h97<|mo (s:=.eU _ _) rfl<|mo (s:=.row _) rfl<|mv rfl<|mv rfl<|lE kf fun KK PR kf=>ad _ rfl rfl PR<|bE kf fun KL PS kf=>iR rfl rfl rfl PS<|bE kf fun W0 XJ kf=>lR rfl rfl XJ rfl<|lE kf fun W2 XK kf=>cv _ rfl (UK.nat XK) ?_
 obtain⟨⟨IA,k72⟩,PT,kf⟩:=bS kf
 exact cB (aY PT) 68 rfl ⟨rfl,trivial⟩<|bE kf fun W4 XL kf=>iR rfl rfl rfl XL<|bE kf fun l73 PU kf=>sR IA rfl rfl rfl rfl PU<|dn<|⟨(Om,l73),kf,wR []⟩
 obtain⟨KI,Cu⟩:=Nv
 try dsimp only
 refine ae.n<|af<|mo (s:=.row _) rfl<|mv rfl<|mv rfl<|lE h fun Cv PW h=>cv _ rfl (UK.nat PW)<|bE h fun WZ XM h=>iR rfl rfl rfl XM<|bE h fun l55 PX h=>sR Cv rfl rfl rfl rfl PX<|RT.done<|aK.n<|ae.n<|af<|mv rfl<|lE h fun vU h46 h=>sb _ rfl rfl h46<|ag rfl<|RT.done ?_
 obtain rfl:=O h
 exact ae.n ⟨(vU,l55,Cu),Xw _ rfl,wR []⟩
 subst Xv
 obtain⟨sN,uD⟩:=zZ
 try dsimp only
 refine ae.n<|sr<|mv rfl<|bE KY fun W5 XN KY=>RT.kW (n:=1) (e:=ah) .none rfl rfl T rfl T (by rfl) (by decide) (by exact⟨SV.aa _,trivial⟩) XN<|an (s:=.row _) rfl<|dn<|qq<|sr<|mv rfl<|mv rfl<|dn<|bE KY fun e81 XO XP=>?_
 refine aT (fun(kI:(List Nat))=>AS.bJ 141 [(4,.row 38),(5,.row 114)] [] [(38,TR 130 1 ah sN),(114,TR 130 1 ah kI)]) (fun kI=>kI=e81) ?_ (fun kI XQ=>?_)
 refine ak ?_
 refine aU XO (fun Pr=>AS.bJ 141 [(4,.row 38),(5,.row 114),(7,.sv (.v (.int .u64 ((ir:Nat):Int)))),(8,.row 27),(115,.sv (.v (.int .i64 gx))),(116,.sv (.v (.int .i64 Pr.1)))] [] [(38,TR 130 1 ah sN),(114,TR 130 1 ah Pr.2),(27,TR 130 1 ah uD)]) (wR []) (fun Pr y81 G81 h XR XS=>?_)
 obtain⟨sO,sP⟩:=Pr
 try dsimp only
 refine sr<|lE h fun Eo PY h=>ls _ rfl rfl PY<|dn<|qq ?_
 cases Eo
 refine cF<|bf<|ae.x<|ae.x<|aK.x<|ae.n ?_
 obtain rfl:=O (F h)
 exact⟨sP,XS _ rfl,wR []⟩
 refine cT<|aH<|ae.n<|qq<|ak<|sr<|mv rfl<|ag rfl<|dn<|ai mixed<|mo (s:=.row _) rfl<|mv rfl<|mo (s:=.row _) rfl<|mv rfl<|bE (V h) fun W6 XT h=>iR rfl rfl rfl XT<|bE h fun W7 PZ h=>lR rfl rfl PZ rfl<|lE h fun Cx P0 h=>cv _ rfl (UK.nat P0)<|mo (s:=.row _) rfl<|mv rfl<|lE h fun Nx h128 h=>ad _ rfl rfl h128<|bE h fun KM P1 h=>?_
 refine iR rfl rfl rfl P1<|bE h fun W8 XU h=>lR rfl rfl XU rfl<|lE h fun Ps XV h=>cv _ rfl (UK.nat XV)<|lE h fun Pt XW h=>RT.shl .none _ rfl rfl T (by decide) (UK.shl (a:=Ps) (q:=32) (s:=32) rfl XW)<|lE h fun IB P2 h=>RT.or .none _ rfl rfl T (UK.or (a:=Cx) (b:=Pt) P2)<|mv rfl<|lE h fun Ny P3 h=>RT.shr .none _ rfl rfl T (Int.natCast_nonneg _) (A5 (k:=.u64) (a:=IB) (q:=((ir:Nat):Int)) (s:=min ir 64) rfl P3)<|lE h fun IC P4 h=>cv _ rfl (UK.nat P4) ?_
 refine bE h fun KN P5 h=>iR rfl rfl rfl P5<|bE h fun l83 P6 h=>sR IC rfl rfl rfl rfl P6 ?_
 refine RT.done ⟨by kernel_rfl,?_⟩
 refine aK.n<|ae.n<|af<|lE h fun Pu XX h=>ad _ rfl rfl XX<|mv rfl<|RT.done ?_
 obtain rfl:=O h
 exact ae.n ⟨(Pu,l83),XR _ rfl,wR []⟩
 subst XQ
 try dsimp only
 refine ae.n<|sr<|mo (s:=.row _) rfl<|mo (s:=.row _) rfl<|an (s:=.row _) rfl<|an (s:=.row _) rfl<|dn<|jm (i:=38) (E1:=130) (n:=1) (e:=ah) (l:=sN) hN (fun _ h=>h) rfl<|jm (i:=114) (E1:=130) (n:=1) (e:=ah) (l:=kI) hN (fun _ h=>h) rfl<|aj ?_
 obtain rfl:=O XP
 exact R2 rfl rfl
theorem qF{x0:List Nat}{x1:List Nat}(N:Nat){r:(List Nat)×(List Nat)}(h:dY x0 x1=some r):cL Tryz.prog 193 N [slc 1 (List.map ah x0),slc 1 (List.map ah x1)] (.wm [nw N (slc 1 (List.map ah r.1)),nw N (slc 1 (List.map ah r.2))]):=by
 refine aO Tryz.func193 rfl (Nat.le_of_ble_eq_true rfl) (fun cO M vs hN hvs=>?_)
 unfold dY at h
 refine sr<|ag rfl<|aI rfl (aB (N:=N) (n:=1) (e:=ah))<|dn<|bt (fR 4 304 130 1 rfl rfl T)<|qq<|ak<|sr<|mv rfl<|mv rfl<|bE h fun dW fj h=>cl (dG fj) ⟨rfl,rfl,trivial⟩<|lE h fun iA gW h=>ls _ rfl rfl gW<|ag rfl<|dn ?_
 cases iA
 refine cF<|sr<|mv rfl<|lE (F h) fun fF iM h=>ln rfl iM<|lE h fun kS kJ h=>RT.leq .none _ rfl rfl T kJ<|ag rfl<|dn ?_
 cases kS
 refine cF<|sr<|mv rfl<|lE (F h) fun oP qe h=>ln rfl qe<|lE h fun sK yN h=>eq _ rfl rfl (ua (p:=oP) (q:=1) yN)<|ag rfl<|dn ?_
 cases sK
 refine cF<|aH<|aK.n<|ae.n<|sr<|mv rfl<|mv rfl ?_
 obtain⟨⟨W9,Xa⟩,yL,h⟩:=bS (F h)
 refine RT.aX .none (Ad N yL) hN rfl ⟨rfl,rfl,trivial⟩ T<|ex rfl rfl<|ex rfl rfl<|ag rfl<|ag rfl<|dn<|aj ?_
 obtain rfl:=O h
 exact R2 rfl rfl
 refine cT<|sr<|mv rfl<|bE (V h) fun tX CM h=>cN (nf CM) ⟨rfl,trivial⟩<|an (s:=.row _) rfl<|dn<|sr<|mo (s:=.row _) rfl<|mv rfl<|bE h fun oZ xE h=>ix rfl rfl xE<|lr rfl rfl<|lE h fun zS A9 h=>cv _ rfl (UK.nat A9) ?_
 obtain⟨⟨xA,l5⟩,Gp,h⟩:=bS h
 refine bE h fun _ he5 h=>cR (l:=tX) (l':=l5) (e:=ah) (qu Gp) (jb he5) 39 rfl (.cons rfl (.cons rfl (.nil)))<|ag rfl<|dn<|sr<|mo (s:=.row _) rfl<|mv rfl<|lE h fun rI h48 h=>cv _ rfl (UK.nat h48)<|RT.y4 (l:=[rI]) (e:=ah) .none hN (.one rfl (.nil)) T rfl rfl rfl rfl rfl rfl<|an (s:=.row _) rfl<|ag rfl<|dn<|jm (i:=39) (E1:=130) (n:=1) (e:=ah) (l:=l5) hN (fun _ h=>h) rfl ?_
 refine aj<|aK.r<|ae.r ?_
 obtain rfl:=O h
 exact R2 rfl rfl
 refine cT<|sr<|mv rfl<|bE (V h) fun ik ni h=>cl (dz ni) ⟨rfl,trivial⟩<|mv rfl<|bE h fun jJ qb h=>cl (dz qb) ⟨rfl,trivial⟩<|ag rfl<|ag rfl<|dn<|qq<|ai mixed<|mv rfl<|mv rfl<|bE h fun lG oQ h=>RT.quo .none _ rfl rfl T (nzU oQ) (UK.quo oQ) ?_
 obtain⟨⟨Vf,Pw⟩,oU,h⟩:=bS h
 refine RT.aX .none (kA N oU) hN rfl ⟨rfl,rfl,trivial⟩ T<|fl rfl rfl<|mv rfl<|mv rfl<|bE h fun rf xC h=>RT.rem .none _ rfl rfl T (nzR xC) (Nm xC) ?_
 obtain⟨⟨nO,mS⟩,kV,h⟩:=bS h
 refine RT.aX .none (kA N kV) hN rfl ⟨rfl,rfl,trivial⟩ T<|fl rfl rfl<|ag rfl<|ag rfl ?_
 refine RT.done ⟨by kernel_rfl,?_⟩
 refine ae.n<|aj<|aK.r<|ae.r ?_
 obtain rfl:=O h
 exact R2 rfl rfl
 refine cT<|sr<|mv rfl<|bE (V h) fun dR fT h=>RT.aX .none (oB N fT) hN rfl ⟨rfl,trivial⟩ T<|ag rfl<|ag rfl<|dn<|bt (fR 4 310 130 1 rfl rfl T)<|jm (i:=310) (E1:=130) (n:=1) (e:=ah) (l:=[]) hN (fun _ h=>h) rfl<|aj<|aK.r<|ae.r ?_
 obtain rfl:=O h
 exact R2 rfl rfl
end Go.Proofs.YtningmnklfpfjaaGreat
namespace Go.Proofs.YtningmnklfpfjaaGreat
open Go.Fw Go.Fw.Z Go.RowKit
theorem gJ{x0:Int}(N:Nat){r:Zr}(h:bD x0=some r):cL Tryz.prog 90 N [.v (.int .i64 x0)] (.agg ((fZ N) r)):=by
 refine aO Tryz.func90 rfl (Nat.le_of_ble_eq_true rfl) (fun cO M vs hN hvs=>?_)
 unfold bD at h
 refine sr<|al (cs:=[.v (.bool false),nw N (slc 1 (List.map ah []))]) (by exact⟨SV.aa _,aB,trivial⟩) rfl<|dn<|sr<|mv rfl<|lE h fun x5 h5 h=>cv _ rfl (UK.conv h5)<|ag rfl<|dn<|qq<|sr<|mv rfl<|lE h fun x7 h7 h=>ls _ rfl rfl h7<|dn ?_
 refine aF h (fun j2=>AS.bJ 14 [(0,.sv (.v (.int .i64 x0))),(2,.ptr 2 0),(3,.sv (.v (.int .u64 ((j2:Nat):Int))))] [(2,⟨41,[.sv (.v (.bool false)),.sv (nw N (slc 1 (List.map ah [])))]⟩)] []) (fun h=>?_) (fun Xb h=>?_)
 cases x7
 exact fs<|⟨x5,(F h),wR []⟩
 exact cT<|af<|mv rfl<|lE (V h) fun x9 h9 h=>RT.neg .none _ rfl T (UK.neg h9)<|ag rfl<|dn<|⟨x9,h,wR []⟩
 try dsimp only
 refine ae.n<|sr<|mv rfl<|lE h fun iI nh h=>ls _ rfl rfl nh<|mv rfl ?_
 obtain⟨⟨EZ,E4⟩,gW,h⟩:=bS h
 refine RT.aX .none (kA N gW) hN rfl ⟨rfl,rfl,trivial⟩ T<|so rfl rfl rfl<|dn<|aj ?_
 obtain rfl:=O h
 exact RZ (.agg rfl rfl (.cons rfl (.cons rfl (.nil))) rfl (.nil))
theorem pK{x0:Bool}{x1:List Nat}{x2:Bool}{x3:List Nat}(N:Nat){r:Zr}(h:cw x0 x1 x2 x3=some r):cL Tryz.prog 203 N [.v (.bool x0),slc 1 (List.map ah x1),.v (.bool x2),slc 1 (List.map ah x3)] (.agg ((fZ N) r)):=by
 refine aO Tryz.func203 rfl (Nat.le_of_ble_eq_true rfl) (fun cO M vs hN hvs=>?_)
 unfold cw at h
 refine sr<|al (cs:=[.v (.bool false),nw N (slc 1 (List.map ah []))]) (by exact⟨SV.aa _,aB,trivial⟩) rfl<|dn<|qq<|sr<|mv rfl<|mv rfl<|lE h fun iI nh h=>RT.aaO .none _ rfl rfl T nh<|dn ?_
 cases iI
 refine fs<|qq<|sr<|mv rfl<|mv rfl<|bE (F h) fun kS kJ h=>cl (dG kJ) ⟨rfl,rfl,trivial⟩<|lE h fun gO lW h=>ls _ rfl rfl lW<|dn ?_
 cases gO
 refine fs<|sr<|mv rfl<|mv rfl<|mv rfl<|bE (F h) fun iq jw h=>RT.aX .none (mu N jw) hN rfl ⟨rfl,rfl,trivial⟩ T ?_
 obtain⟨⟨o5,o6⟩,uJ,h⟩:=bS h
 refine RT.aX .none (fB N uJ) hN rfl ⟨rfl,rfl,trivial⟩ T<|so rfl rfl rfl<|dn<|aj ?_
 obtain rfl:=O h
 exact RZ (.agg rfl rfl (.cons rfl (.cons rfl (.nil))) rfl (.nil))
 refine cT<|sr<|mv rfl<|mv rfl<|mv rfl<|bE (V h) fun ir mP h=>RT.aX .none (mu N mP) hN rfl ⟨rfl,rfl,trivial⟩ T ?_
 obtain⟨⟨iL,iB⟩,qc,h⟩:=bS h
 refine RT.aX .none (fB N qc) hN rfl ⟨rfl,rfl,trivial⟩ T<|so rfl rfl rfl<|dn<|aj<|ae.r ?_
 obtain rfl:=O h
 exact RZ (.agg rfl rfl (.cons rfl (.cons rfl (.nil))) rfl (.nil))
 refine cT<|sr<|mv rfl<|mv rfl<|mv rfl<|bE (V h) fun dR fT h=>RT.aX .none (qE N fT) hN rfl ⟨rfl,rfl,trivial⟩ T ?_
 obtain⟨⟨nP,nQ⟩,kX,h⟩:=bS h
 refine RT.aX .none (fB N kX) hN rfl ⟨rfl,rfl,trivial⟩ T<|so rfl rfl rfl<|dn<|aj<|ae.r ?_
 obtain rfl:=O h
 exact RZ (.agg rfl rfl (.cons rfl (.cons rfl (.nil))) rfl (.nil))
theorem GQ{x0:Zr}{x1:Zr}(N:Nat){r:Zr}(h:j1 x0 x1=some r):cL Tryz.prog 188 N [.agg (eZ x0),.agg (eZ x1)] (.agg ((fZ N) r)):=by
 obtain⟨aC,aD⟩:=x0
 obtain⟨bN,bL⟩:=x1
 refine aO Tryz.func188 rfl (Nat.le_of_ble_eq_true rfl) (fun cO M vs hN hvs=>?_)
 unfold j1 at h
 refine sr<|bx rfl<|bx rfl<|al (cs:=[.v (.bool false),nw N (slc 1 (List.map ah []))]) (by exact⟨SV.aa _,aB,trivial⟩) rfl<|dn<|sr<|ld rfl rfl (.cons rfl (.cons rfl (.nil))) ?_
 obtain⟨⟨yH,Cy⟩,fj,h⟩:=bS h
 refine cl (cV fj) ⟨rfl,trivial⟩<|mv rfl<|ex rfl rfl<|ex rfl rfl<|ag rfl<|ag rfl<|dn<|sr<|ld rfl rfl (.cons rfl (.cons rfl (.nil))) ?_
 obtain⟨⟨zU,Cz⟩,lH,h⟩:=bS h
 refine cl (cV lH) ⟨rfl,trivial⟩<|mv rfl<|ex rfl rfl<|ex rfl rfl<|ag rfl<|ag rfl<|dn<|qq<|qq ?_
 refine aF h (fun j3=>AS.bJ 48 [(2,.ptr 2 0),(3,.ptr 3 0),(4,.ptr 4 0),(5,.sv (.v (.int .i64 yH))),(7,.sv (.v (.int .i64 zU))),(23,.sv (.v (.bool j3)))] [(4,⟨41,[.sv (.v (.bool false)),.sv (nw N (slc 1 (List.map ah [])))]⟩),(3,⟨41,[.sv (.v (.bool bN)),.sv (slc 1 (List.map ah bL))]⟩),(2,⟨41,[.sv (.v (.bool aC)),.sv (slc 1 (List.map ah aD))]⟩)] []) (fun h=>?_) (fun o7 h=>?_)
 refine af<|mv rfl<|mv rfl<|bE h fun CA Ba h=>?_
 cases Cy
 obtain rfl:=O (F Ba)
 exact ww<|pF rfl<|dn<|⟨false,h,wR []⟩
 refine gm rfl ?_
 obtain rfl:=O (V Ba)
 exact pT rfl<|dn<|⟨Cz,h,wR []⟩
 try dsimp only
 refine ae.n ?_
 refine aF h (fun j5=>AS.bJ 48 [(2,.ptr 2 0),(3,.ptr 3 0),(4,.ptr 4 0)] [(4,⟨41,[.sv (.v (.bool false)),.sv (nw N (slc 1 (List.map ah [])))]⟩),(3,⟨41,[.sv (.v (.bool bN)),.sv (slc 1 (List.map ah bL))]⟩),(2,⟨41,[.sv (.v (.bool aC)),.sv (slc 1 (List.map ah aD))]⟩)] []) (fun h=>?_) (fun j5 h=>?_)
 cases o7
 exact fs<|⟨(),(F h),wR []⟩
 refine cT<|sr<|mv rfl<|mv rfl<|lE (V h) fun lG oQ h=>ad _ rfl rfl oQ<|ag rfl<|dn<|sr<|mv rfl<|mv rfl<|lE h fun iq jw h=>RT.xor .none _ rfl rfl T jw<|mv rfl<|mv rfl<|lE h fun iD kV h=>RT.xor .none _ rfl rfl T kV<|lE h fun sL sV h=>RT.and .none _ rfl rfl T sV<|lE h fun m8 o9 h=>ge _ rfl rfl o9<|dn ?_
 cases m8
 exact fs<|⟨(),(F h),wR []⟩
 refine cT<|sr<|mv rfl ?_
 obtain⟨⟨uE,uF⟩,qe,h⟩:=bS (V h)
 refine RT.aX .none (gJ N qe) hN rfl ⟨rfl,trivial⟩ T<|so rfl rfl rfl<|dn<|aj<|ae.r<|ae.r ?_
 obtain rfl:=O h
 exact RZ (.agg rfl rfl (.cons rfl (.cons rfl (.nil))) rfl (.nil))
 try dsimp only
 refine ae.n<|qq<|ai mixed<|fa rfl rfl<|lV rfl rfl rfl<|fa rfl rfl<|lV rfl rfl rfl<|bE h fun tG zX h=>cl (aQ zX) ⟨rfl,trivial⟩<|fa rfl rfl<|lV rfl rfl rfl<|fa rfl rfl<|lV rfl rfl rfl<|bE h fun vU h46 h=>cl (aQ h46) ⟨rfl,trivial⟩ ?_
 obtain⟨⟨E5,E6⟩,xF,h⟩:=bS h
 refine RT.aX .none (pK N xF) hN rfl ⟨rfl,rfl,rfl,rfl,trivial⟩ T<|so rfl rfl rfl ?_
 refine RT.done ⟨by kernel_rfl,?_⟩
 refine ae.n<|aj ?_
 obtain rfl:=O h
 exact RZ (.agg rfl rfl (.cons rfl (.cons rfl (.nil))) rfl (.nil))
theorem GR{x0:Zr}{x1:Zr}(N:Nat){r:Zr}(h:j9 x0 x1=some r):cL Tryz.prog 190 N [.agg (eZ x0),.agg (eZ x1)] (.agg ((fZ N) r)):=by
 obtain⟨aC,aD⟩:=x0
 obtain⟨bN,bL⟩:=x1
 refine aO Tryz.func190 rfl (Nat.le_of_ble_eq_true rfl) (fun cO M vs hN hvs=>?_)
 unfold j9 at h
 refine sr<|bx rfl<|bx rfl<|al (cs:=[.v (.bool false),nw N (slc 1 (List.map ah []))]) (by exact⟨SV.aa _,aB,trivial⟩) rfl<|dn<|sr<|ld rfl rfl (.cons rfl (.cons rfl (.nil))) ?_
 obtain⟨⟨yH,Cy⟩,fj,h⟩:=bS h
 refine cl (cV fj) ⟨rfl,trivial⟩<|mv rfl<|ex rfl rfl<|ex rfl rfl<|ag rfl<|ag rfl<|dn<|sr<|ld rfl rfl (.cons rfl (.cons rfl (.nil))) ?_
 obtain⟨⟨zU,Cz⟩,lH,h⟩:=bS h
 refine cl (cV lH) ⟨rfl,trivial⟩<|mv rfl<|ex rfl rfl<|ex rfl rfl<|ag rfl<|ag rfl<|dn<|qq<|qq ?_
 refine aF h (fun j3=>AS.bJ 49 [(2,.ptr 2 0),(3,.ptr 3 0),(4,.ptr 4 0),(5,.sv (.v (.int .i64 yH))),(7,.sv (.v (.int .i64 zU))),(23,.sv (.v (.bool j3)))] [(4,⟨41,[.sv (.v (.bool false)),.sv (nw N (slc 1 (List.map ah [])))]⟩),(3,⟨41,[.sv (.v (.bool bN)),.sv (slc 1 (List.map ah bL))]⟩),(2,⟨41,[.sv (.v (.bool aC)),.sv (slc 1 (List.map ah aD))]⟩)] []) (fun h=>?_) (fun o7 h=>?_)
 refine af<|mv rfl<|mv rfl<|bE h fun CA Ba h=>?_
 cases Cy
 obtain rfl:=O (F Ba)
 exact ww<|pF rfl<|dn<|⟨false,h,wR []⟩
 refine gm rfl ?_
 obtain rfl:=O (V Ba)
 exact pT rfl<|dn<|⟨Cz,h,wR []⟩
 try dsimp only
 refine ae.n ?_
 refine aF h (fun j5=>AS.bJ 49 [(2,.ptr 2 0),(3,.ptr 3 0),(4,.ptr 4 0)] [(4,⟨41,[.sv (.v (.bool false)),.sv (nw N (slc 1 (List.map ah [])))]⟩),(3,⟨41,[.sv (.v (.bool bN)),.sv (slc 1 (List.map ah bL))]⟩),(2,⟨41,[.sv (.v (.bool aC)),.sv (slc 1 (List.map ah aD))]⟩)] []) (fun h=>?_) (fun j5 h=>?_)
 cases o7
 exact fs<|⟨(),(F h),wR []⟩
 refine cT<|sr<|mv rfl<|mv rfl<|lE (V h) fun lG oQ h=>sb _ rfl rfl oQ<|ag rfl<|dn<|sr<|mv rfl<|mv rfl<|lE h fun iq jw h=>RT.xor .none _ rfl rfl T jw<|mv rfl<|mv rfl<|lE h fun iD kV h=>RT.xor .none _ rfl rfl T kV<|lE h fun sL sV h=>RT.and .none _ rfl rfl T sV<|lE h fun m8 o9 h=>ge _ rfl rfl o9<|dn ?_
 cases m8
 exact fs<|⟨(),(F h),wR []⟩
 refine cT<|sr<|mv rfl ?_
 obtain⟨⟨uE,uF⟩,qe,h⟩:=bS (V h)
 refine RT.aX .none (gJ N qe) hN rfl ⟨rfl,trivial⟩ T<|so rfl rfl rfl<|dn<|aj<|ae.r<|ae.r ?_
 obtain rfl:=O h
 exact RZ (.agg rfl rfl (.cons rfl (.cons rfl (.nil))) rfl (.nil))
 try dsimp only
 refine ae.n<|qq<|ai mixed<|fa rfl rfl<|lV rfl rfl rfl<|fa rfl rfl<|lV rfl rfl rfl<|bE h fun tG zX h=>cl (aQ zX) ⟨rfl,trivial⟩<|fa rfl rfl<|lV rfl rfl rfl<|lE h fun zS A9 h=>nt rfl _ A9<|fa rfl rfl<|lV rfl rfl rfl<|bE h fun uC xF h=>cl (aQ xF) ⟨rfl,trivial⟩ ?_
 obtain⟨⟨Px,Py⟩,h48,h⟩:=bS h
 refine RT.aX .none (pK N h48) hN rfl ⟨rfl,rfl,rfl,rfl,trivial⟩ T<|so rfl rfl rfl ?_
 refine RT.done ⟨by kernel_rfl,?_⟩
 refine ae.n<|aj ?_
 obtain rfl:=O h
 exact RZ (.agg rfl rfl (.cons rfl (.cons rfl (.nil))) rfl (.nil))
theorem gZ{x0:Zr}{x1:Zr}(N:Nat){r:Zr}(h:cA x0 x1=some r):cL Tryz.prog 130 N [.agg (eZ x0),.agg (eZ x1)] (.agg ((fZ N) r)):=by
 obtain⟨aC,aD⟩:=x0
 obtain⟨bN,bL⟩:=x1
 refine aO Tryz.func130 rfl (Nat.le_of_ble_eq_true rfl) (fun cO M vs hN hvs=>?_)
 unfold cA at h
 refine sr<|bx rfl<|bx rfl<|al (cs:=[.v (.bool false),nw N (slc 1 (List.map ah []))]) (by exact⟨SV.aa _,aB,trivial⟩) rfl<|dn<|qq<|ai mixed<|fa rfl rfl<|lV rfl rfl rfl<|bE h fun x9 h9 h=>cl (aQ h9) ⟨rfl,trivial⟩<|fa rfl rfl<|lV rfl rfl rfl<|bE h fun dW fj h=>cl (aQ fj) ⟨rfl,trivial⟩<|ag rfl<|ag rfl ?_
 refine RT.done ⟨by kernel_rfl,?_⟩
 refine ae.n<|qq<|qq ?_
 refine aF h (fun j3=>AS.bJ 41 [(2,.ptr 2 0),(3,.ptr 3 0),(4,.ptr 4 0),(5,.sv (slc 1 (List.map ah x9))),(6,.sv (slc 1 (List.map ah dW))),(20,.sv (.v (.bool j3)))] [(4,⟨41,[.sv (.v (.bool false)),.sv (nw N (slc 1 (List.map ah [])))]⟩),(3,⟨41,[.sv (.v (.bool bN)),.sv (slc 1 (List.map ah bL))]⟩),(2,⟨41,[.sv (.v (.bool aC)),.sv (slc 1 (List.map ah aD))]⟩)] []) (fun h=>?_) (fun ID h=>?_)
 refine af<|mv rfl<|lE h fun fg jv h=>ln rfl jv<|lE h fun dR fT h=>RT.leq .none _ rfl rfl T fT<|mv rfl<|bE h fun PB nC h=>?_
 cases dR
 obtain rfl:=O (F nC)
 exact ww<|ww<|ww<|pF rfl<|dn<|⟨false,h,wR []⟩
 refine gm rfl<|lE (V nC) fun fF iM nC=>gn rfl iM<|lE nC fun kS kJ nC=>RT.leq (.some rfl rfl) _ rfl rfl T kJ ?_
 obtain rfl:=O nC
 exact pT rfl<|dn<|⟨kS,h,wR []⟩
 try dsimp only
 refine ae.n ?_
 cases ID
 refine fs<|qq<|ai mixed<|fa rfl rfl<|lV rfl rfl rfl<|fa rfl rfl<|lV rfl rfl rfl<|lE (F h) fun oP qe h=>RT.Nf .none _ rfl rfl T qe<|mv rfl<|mv rfl<|bE h fun tX CM h=>RT.aX .none (y5 N CM) hN rfl ⟨rfl,rfl,trivial⟩ T ?_
 obtain⟨⟨uG,uH⟩,oc,h⟩:=bS h
 refine RT.aX .none (fB N oc) hN rfl ⟨rfl,rfl,trivial⟩ T<|so rfl rfl rfl ?_
 refine RT.done ⟨by kernel_rfl,?_⟩
 refine ae.n<|aj ?_
 obtain rfl:=O h
 exact RZ (.agg rfl rfl (.cons rfl (.cons rfl (.nil))) rfl (.nil))
 refine cT<|qq<|ai mixed<|fa rfl rfl<|lV rfl rfl rfl<|fa rfl rfl<|lV rfl rfl rfl<|lE (V h) fun vS qc h=>RT.Nf .none _ rfl rfl T qc<|mv rfl<|bE h fun lq oU h=>cl (dz oU) ⟨rfl,trivial⟩<|mv rfl<|bE h fun iq jw h=>cl (dz jw) ⟨rfl,trivial⟩<|lE h fun uB uJ h=>RT.mul .none _ rfl rfl T (UK.mul (a:=lq) (b:=iq) uJ) ?_
 obtain⟨⟨Pz,PA⟩,xC,h⟩:=bS h
 refine RT.aX .none (kA N xC) hN rfl ⟨rfl,rfl,trivial⟩ T<|so rfl rfl rfl ?_
 refine RT.done ⟨by kernel_rfl,?_⟩
 refine ae.n<|aj<|ae.r ?_
 obtain rfl:=O h
 exact RZ (.agg rfl rfl (.cons rfl (.cons rfl (.nil))) rfl (.nil))
theorem y7{x0:Zr}(N:Nat){r:Zr}(h:fy x0=some r):cL Tryz.prog 145 N [.agg (eZ x0)] (.agg ((fZ N) r)):=by
 obtain⟨aC,aD⟩:=x0
 refine aO Tryz.func145 rfl (Nat.le_of_ble_eq_true rfl) (fun cO M vs hN hvs=>?_)
 unfold fy at h
 refine sr<|bx rfl<|al (cs:=[.v (.bool false),nw N (slc 1 (List.map ah []))]) (by exact⟨SV.aa _,aB,trivial⟩) rfl<|dn<|qq<|ai mixed<|fa rfl rfl<|lV rfl rfl rfl<|lE h fun x5 h5 h=>nt rfl _ h5<|fa rfl rfl<|lV rfl rfl rfl<|bE h fun x8 h8 h=>cl (aQ h8) ⟨rfl,trivial⟩<|bE h fun x9 h9 h=>RT.aX .none (oB N h9) hN rfl ⟨rfl,trivial⟩ T ?_
 obtain⟨⟨CB,CC⟩,gC,h⟩:=bS h
 refine RT.aX .none (fB N gC) hN rfl ⟨rfl,rfl,trivial⟩ T<|so rfl rfl rfl ?_
 refine RT.done ⟨by kernel_rfl,?_⟩
 refine ae.n<|aj ?_
 obtain rfl:=O h
 exact RZ (.agg rfl rfl (.cons rfl (.cons rfl (.nil))) rfl (.nil))
theorem tN{x0:Zr}{x1:Zr}(N:Nat){r:Zr×Zr×Int}(h:dJ x0 x1=some r):cL Tryz.prog 169 N [.agg (eZ x0),.agg (eZ x1)] (.wm [.agg ((fZ N) r.1),.agg ((fZ N) r.2.1),.v (.int .i64 r.2.2)]):=by
 obtain⟨aC,aD⟩:=x0
 obtain⟨bN,bL⟩:=x1
 refine aO Tryz.func169 rfl (Nat.le_of_ble_eq_true rfl) (fun cO M vs hN hvs=>?_)
 unfold dJ at h
 refine sr<|bx rfl<|bx rfl<|al (cs:=[.v (.bool false),nw N (slc 1 (List.map ah []))]) (by exact⟨SV.aa _,aB,trivial⟩) rfl<|al (cs:=[.v (.bool false),nw N (slc 1 (List.map ah []))]) (by exact⟨SV.aa _,aB,trivial⟩) rfl<|ag rfl<|dn<|qq<|ai mixed<|fa rfl rfl<|lV rfl rfl rfl<|bE h fun iA gW h=>cl (aQ gW) ⟨rfl,trivial⟩<|fa rfl rfl ?_
 refine lV rfl rfl rfl<|bE h fun iY kX h=>cl (aQ kX) ⟨rfl,trivial⟩<|ag rfl<|ag rfl ?_
 refine RT.done ⟨by kernel_rfl,?_⟩
 refine ae.n<|qq<|sr<|mv rfl<|lE h fun fF iM h=>ln rfl iM<|lE h fun kS kJ h=>eq _ rfl rfl (ua (p:=fF) (q:=0) kJ)<|dn ?_
 cases kS
 refine fs<|sr<|mv rfl<|mv rfl ?_
 obtain⟨⟨IE,Xc⟩,qc,h⟩:=bS (F h)
 refine RT.aX .none (qF N qc) hN rfl ⟨rfl,rfl,trivial⟩ T<|mv rfl<|ex rfl rfl<|ex rfl rfl<|ag rfl<|ag rfl<|dn<|sr<|mv rfl<|bE h fun iq jw h=>RT.aX .none (qS N jw) hN rfl ⟨rfl,trivial⟩ T<|ag rfl<|dn<|qq<|qq ?_
 refine aF h (fun j3=>AS.bJ 52 [(2,.ptr 2 0),(3,.ptr 3 0),(4,.ptr 4 0),(5,.ptr 5 0),(8,.sv (slc 1 (List.map ah iY))),(9,.sv (nw N (slc 1 (List.map ah IE)))),(10,.sv (nw N (slc 1 (List.map ah iq)))),(36,.sv (.v (.bool j3.1)))] [(5,⟨41,[.sv (.v (.bool false)),.sv (nw N (slc 1 (List.map ah [])))]⟩),(4,⟨41,[.sv (.v (.bool false)),.sv (nw N (slc 1 (List.map ah [])))]⟩),(3,⟨41,[.sv (.v (.bool bN)),.sv (slc 1 (List.map ah bL))]⟩),(2,⟨41,[.sv (.v (.bool j3.2)),.sv (slc 1 (List.map ah aD))]⟩)] []) (fun h=>?_) (fun j3 h=>?_)
 refine af<|fa rfl rfl<|lV rfl rfl rfl<|mv rfl<|bE h fun PF Ba h=>?_
 cases aC
 obtain rfl:=O (F Ba)
 exact ww<|ww<|ww<|pF rfl<|dn<|⟨(false,false),h,wR []⟩
 refine gm rfl<|lE (V Ba) fun m8 o9 Ba=>RT.Fl (.some rfl rfl) rfl T o9<|lE Ba fun ow xD Ba=>gg _ rfl rfl xD ?_
 obtain rfl:=O Ba
 exact pT rfl<|dn<|⟨(ow,true),h,wR []⟩
 obtain⟨IF,CD⟩:=j3
 try dsimp only
 refine ae.n ?_
 refine aF h (fun j5=>AS.bJ 52 [(2,.ptr 2 0),(3,.ptr 3 0),(4,.ptr 4 0),(5,.ptr 5 0),(9,.sv (nw N (slc 1 (List.map ah j5.1)))),(10,.sv (nw N (slc 1 (List.map ah j5.2))))] [(5,⟨41,[.sv (.v (.bool false)),.sv (nw N (slc 1 (List.map ah [])))]⟩),(4,⟨41,[.sv (.v (.bool false)),.sv (nw N (slc 1 (List.map ah [])))]⟩),(3,⟨41,[.sv (.v (.bool bN)),.sv (slc 1 (List.map ah bL))]⟩),(2,⟨41,[.sv (.v (.bool CD)),.sv (slc 1 (List.map ah aD))]⟩)] []) (fun h=>?_) (fun j5 h=>?_)
 cases IF
 exact fs<|⟨(IE,iq),(F h),wR []⟩
 exact cT<|sr<|mv rfl<|RT.y4 (l:=[1]) (e:=ah) .none hN (.one rfl (.nil)) T rfl rfl rfl rfl rfl rfl<|bE (V h) fun tX CM h=>RT.aX .none ((qE N CM).w (args':=[_,_]) ⟨e5,e5,trivial⟩) hN rfl ⟨rfl,rfl,trivial⟩ T<|ag rfl<|dn<|af<|mv rfl<|mv rfl<|bE h fun oZ xE h=>RT.aX .none ((mu N xE).w (args':=[_,_]) ⟨(SV.aa _),e5,trivial⟩) hN rfl ⟨rfl,rfl,trivial⟩ T<|ag rfl<|dn<|⟨(tX,oZ),h,wR []⟩
 obtain⟨Xd,PC⟩:=j5
 try dsimp only
 refine ae.n<|sr<|fa rfl rfl<|lV rfl rfl rfl<|fa rfl rfl<|lV rfl rfl rfl<|lE h fun uC xF h=>RT.Nf .none _ rfl rfl T xF<|mv rfl ?_
 obtain⟨⟨PD,PE⟩,KS,h⟩:=bS h
 refine RT.aX .none (fB N KS) hN rfl ⟨rfl,rfl,trivial⟩ T<|mv rfl ?_
 obtain⟨⟨CE,CF⟩,Gq,h⟩:=bS h
 refine RT.aX .none (fB N Gq) hN rfl ⟨rfl,rfl,trivial⟩ T<|so rfl rfl rfl<|so rfl rfl rfl<|ag rfl<|dn<|aj ?_
 obtain rfl:=O h
 exact RZ (.agg rfl rfl (.cons rfl (.cons rfl (.nil))) rfl (.agg rfl rfl (.cons rfl (.cons rfl (.nil))) rfl (.tmp rfl (.nil))))
 refine cT<|sr<|bI (cs:=[_,_]) (cs':=[.v (.bool false),nw N (slc 1 (List.map ah []))]) (.nil) ⟨SV.aa _,aB,trivial⟩<|bI (cs:=[_,_]) (cs':=[.v (.bool false),nw N (slc 1 (List.map ah []))]) (.nil) ⟨SV.aa _,aB,trivial⟩<|so rfl rfl rfl<|so rfl rfl rfl<|ag rfl<|dn<|aj<|ae.r ?_
 obtain rfl:=O (V h)
 exact RZ (.agg rfl rfl (.cons rfl (.cons rfl (.nil))) rfl (.agg rfl rfl (.cons rfl (.cons rfl (.nil))) rfl (.tmp rfl (.nil))))
theorem GS{x0:Zr}{x1:Zr}(N:Nat){r:Zr}(h:iZ x0 x1=some r):cL Tryz.prog 168 N [.agg (eZ x0),.agg (eZ x1)] (.agg ((fZ N) r)):=by
 obtain⟨aC,aD⟩:=x0
 obtain⟨bN,bL⟩:=x1
 refine aO Tryz.func168 rfl (Nat.le_of_ble_eq_true rfl) (fun cO M vs hN hvs=>?_)
 unfold iZ at h
 refine sr<|bx rfl<|bx rfl<|al (cs:=[.v (.bool false),nw N (slc 1 (List.map ah []))]) (by exact⟨SV.aa _,aB,trivial⟩) rfl<|dn<|qq<|ai mixed<|fa rfl rfl<|lV rfl rfl rfl<|bE h fun iA gW h=>cl (aQ gW) ⟨rfl,trivial⟩<|fa rfl rfl<|lV rfl rfl rfl<|bE h fun iY kX h=>cl (aQ kX) ⟨rfl,trivial⟩<|ag rfl<|ag rfl ?_
 refine RT.done ⟨by kernel_rfl,?_⟩
 refine ae.n<|qq<|bE h fun Pn Gv jK=>?_
 refine aT (fun(rK:(List Nat)×(List Nat))=>AS.bJ 57 [(4,.ptr 4 0),(5,.sv (slc 1 (List.map ah rK.1))),(6,.sv (slc 1 (List.map ah rK.2)))] [(4,⟨41,[.sv (.v (.bool false)),.sv (nw N (slc 1 (List.map ah [])))]⟩)] []) (fun rK=>rK=Pn) ?_ (fun rK KV=>?_)
 refine ak ?_
 refine aU Gv (fun yE=>AS.bJ 57 [(4,.ptr 4 0),(5,.sv (slc 1 (List.map ah yE.1))),(6,.sv (slc 1 (List.map ah yE.2)))] [(4,⟨41,[.sv (.v (.bool false)),.sv (nw N (slc 1 (List.map ah [])))]⟩)] []) (wR []) (fun yE y12 G12 h KW KX=>?_)
 obtain⟨Gi,zV⟩:=yE
 try dsimp only
 refine qq<|qq ?_
 refine aF h (fun j16=>AS.bJ 57 [(4,.ptr 4 0),(5,.sv (slc 1 (List.map ah Gi))),(6,.sv (slc 1 (List.map ah zV))),(29,.sv (.v (.bool j16)))] [(4,⟨41,[.sv (.v (.bool false)),.sv (nw N (slc 1 (List.map ah [])))]⟩)] []) (fun h=>?_) (fun CG h=>?_)
 refine af<|mv rfl<|lE h fun fF iM h=>ln rfl iM<|lE h fun kS kJ h=>gt _ rfl rfl kJ<|mv rfl<|bE h fun KP kU h=>?_
 cases kS
 obtain rfl:=O (F kU)
 exact ww<|ww<|ww<|ww<|wu<|wu<|wu<|ww<|pF rfl<|dn<|⟨false,h,wR []⟩
 refine gm rfl<|lE (V kU) fun jB nS kU=>gn rfl nS<|lE kU fun jJ qb kU=>gg _ rfl rfl qb<|gm rfl<|bE kU fun KO oA kU=>?_
 cases jJ
 refine gm rfl<|lE (F oA) fun lG oQ oA=>gn rfl oQ<|lE oA fun lq oU oA=>gg _ rfl rfl oU ?_
 obtain rfl:=O oA
 refine gF rfl ?_
 obtain rfl:=O kU
 exact pT rfl<|dn<|⟨lq,h,wR []⟩
 obtain rfl:=O (V oA)
 refine ww<|ww<|ww<|gT rfl ?_
 obtain rfl:=O kU
 exact pT rfl<|dn<|⟨true,h,wR []⟩
 try dsimp only
 refine ae.n ?_
 cases CG
 refine cF<|bf<|ae.x<|ae.x<|aK.x<|ae.n ?_
 obtain rfl:=O (F h)
 exact⟨(Gi,zV),KX _ rfl,wR []⟩
 refine cT<|aH<|ae.n<|ak<|sr<|mv rfl<|mv rfl ?_
 obtain⟨⟨abD,Xe⟩,sV,h⟩:=bS (V h)
 refine RT.aX .none (qF N sV) hN rfl ⟨rfl,rfl,trivial⟩ T<|mv rfl<|ex rfl rfl<|ex rfl rfl<|ag rfl<|ag rfl<|dn<|af<|mv rfl<|mv rfl<|bE h fun yB Gn h=>RT.aX .none (qS N Gn) hN rfl ⟨rfl,trivial⟩ T<|ag rfl<|ag rfl<|RT.done<|aK.n ?_
 obtain rfl:=O h
 exact ae.n ⟨(zV,yB),KW _ rfl,cy id rfl rfl rfl rfl rfl ⟨.ptr,.sv (SV.aa _),.sv e5,trivial⟩ ⟨⟨_,rfl,⟨.sv (SV.aa _),.sv (SV.aa _),trivial⟩⟩,trivial⟩ trivial (fun _ _=>rfl)⟩
 subst KV
 obtain⟨Mf,Mg⟩:=rK
 try dsimp only
 refine ae.n<|qq<|sr<|mv rfl<|lE jK fun lO oc jK=>ln rfl oc<|lE jK fun tG zX jK=>eq _ rfl rfl (ua (p:=lO) (q:=0) zX)<|dn ?_
 cases tG
 refine fs<|sr<|mv rfl<|bE (F jK) fun vU h46 jK=>cl (dz h46) ⟨rfl,trivial⟩<|mv rfl<|bE jK fun rI h48 jK=>cl (dz h48) ⟨rfl,trivial⟩<|ag rfl<|ag rfl<|dn<|qq<|bE jK fun e24 XY KZ=>?_
 refine aT (fun(uI:Nat)=>AS.bJ 57 [(4,.ptr 4 0),(9,.sv (.v (.int .u64 ((uI:Nat):Int))))] [(4,⟨41,[.sv (.v (.bool false)),.sv (nw N (slc 1 (List.map ah [])))]⟩)] []) (fun uI=>uI=e24) ?_ (fun uI XZ=>?_)
 refine ak ?_
 refine aU XY (fun PG=>AS.bJ 57 [(4,.ptr 4 0),(9,.sv (.v (.int .u64 ((PG.1:Nat):Int)))),(10,.sv (.v (.int .u64 ((PG.2:Nat):Int))))] [(4,⟨41,[.sv (.v (.bool false)),.sv (nw N (slc 1 (List.map ah [])))]⟩)] []) (wR []) (fun PG y24 G24 h X0 X1=>?_)
 obtain⟨E9,sQ⟩:=PG
 try dsimp only
 refine qq<|sr<|mv rfl<|lE h fun ri A8 h=>gt _ rfl rfl (ltN (p:=0) (q:=sQ) A8)<|dn ?_
 cases ri
 refine cF<|bf<|ae.x<|ae.x<|aK.x<|ae.n ?_
 obtain rfl:=O (F h)
 exact⟨E9,X1 _ rfl,wR []⟩
 refine cT<|aH<|ae.n<|ak<|ai mixed<|mv rfl<|mv rfl<|mv rfl<|bE (V h) fun yI Er h=>RT.rem .none _ rfl rfl T (nzR Er) (Nm Er)<|ag rfl<|ag rfl ?_
 refine RT.done ⟨by kernel_rfl,?_⟩
 refine aK.n ?_
 obtain rfl:=O h
 exact ae.n ⟨(sQ,yI),X0 _ rfl,wR []⟩
 subst XZ
 try dsimp only
 refine ae.n<|sr<|mv rfl ?_
 obtain⟨⟨o8,qp⟩,Ep,KZ⟩:=bS KZ
 refine RT.aX .none (kA N Ep) hN rfl ⟨rfl,rfl,trivial⟩ T<|so rfl rfl rfl<|dn<|aj ?_
 obtain rfl:=O KZ
 exact RZ (.agg rfl rfl (.cons rfl (.cons rfl (.nil))) rfl (.nil))
 refine cT<|sr<|mv rfl<|bE (V jK) fun tJ BF jK=>RT.aX .none (oB N BF) hN rfl ⟨rfl,trivial⟩ T ?_
 obtain⟨⟨E7,E8⟩,A9,jK⟩:=bS jK
 refine RT.aX .none (fB N A9) hN rfl ⟨rfl,rfl,trivial⟩ T<|so rfl rfl rfl<|dn<|aj<|ae.r ?_
 obtain rfl:=O jK
 exact RZ (.agg rfl rfl (.cons rfl (.cons rfl (.nil))) rfl (.nil))
end Go.Proofs.YtningmnklfpfjaaGreat
namespace Go.Proofs.YtningmnklfpfjaaGreat
open Go.Fw Go.Fw.Z Go.RowKit
theorem mw{x0:Zr}{x1:Zr}(N:Nat){r:Qr}(h:dK x0 x1=some r):cL Tryz.prog 140 N [.agg (eZ x0),.agg (eZ x1)] (.agg ((fQ N) r)):=by
 obtain⟨aC,aD⟩:=x0
 obtain⟨bN,bL⟩:=x1
 refine aO Tryz.func140 rfl (Nat.le_of_ble_eq_true rfl) (fun cO M vs hN hvs=>?_)
 unfold dK at h
 refine sr<|bx rfl<|bx rfl<|al (cs:=[.v (.bool false),nw N (slc 1 (List.map ah [])),.v (.bool false),nw N (slc 1 (List.map ah []))]) (by exact⟨SV.aa _,aB,SV.aa _,aB,trivial⟩) rfl<|dn<|qq<|sr<|ld rfl rfl (.cons rfl (.cons rfl (.nil)))<|bE h fun x9 h9 h=>cl (ew h9) ⟨rfl,trivial⟩<|lE h fun ek gC h=>ls _ rfl rfl gC<|dn ?_
 refine aF h (fun j2=>AS.bJ 46 [(2,.ptr 2 0),(3,.ptr 3 0),(4,.ptr 4 0)] [(4,⟨43,[.sv (.v (.bool false)),.sv (nw N (slc 1 (List.map ah []))),.sv (.v (.bool false)),.sv (nw N (slc 1 (List.map ah [])))]⟩),(3,⟨41,[.sv (.v (.bool j2.1)),.sv (slc 1 (List.map ah j2.2.1))]⟩),(2,⟨41,[.sv (.v (.bool j2.2.2.1)),.sv (slc 1 (List.map ah j2.2.2.2))]⟩)] []) (fun h=>?_) (fun j2 h=>?_)
 cases ek
 exact fs<|⟨(bN,bL,aC,aD),(F h),wR []⟩
 refine cT<|ai mixed<|ld rfl rfl (.cons rfl (.cons rfl (.nil))) ?_
 obtain⟨⟨gE,gj⟩,fj,h⟩:=bS (V h)
 refine RT.aX .none (y7 N fj) hN rfl ⟨rfl,trivial⟩ T<|ld rfl rfl (.cons rfl (.cons rfl (.nil))) ?_
 obtain⟨⟨IM,IN⟩,jv,h⟩:=bS h
 refine RT.aX .none (y7 N jv) hN rfl ⟨rfl,trivial⟩ T<|so rfl rfl rfl<|so rfl rfl rfl ?_
 refine RT.done ⟨by kernel_rfl,?_⟩
 exact ae.n<|⟨(IM,IN,gE,gj),h,cy id rfl rfl rfl rfl rfl ⟨.ptr,.ptr,.ptr,trivial⟩ ⟨⟨_,rfl,⟨.sv (SV.aa _),.sv (SV.aa _),.sv (SV.aa _),.sv (SV.aa _),trivial⟩⟩,⟨_,rfl,⟨.sv (SV.aa _),.sv e5,trivial⟩⟩,⟨_,rfl,⟨.sv (SV.aa _),.sv e5,trivial⟩⟩,trivial⟩ trivial (fun _ _=>rfl)⟩
 obtain⟨GA,GB,GC,GD⟩:=j2
 try dsimp only
 refine ae.n<|sr<|ld rfl rfl (.cons rfl (.cons rfl (.nil)))<|ld rfl rfl (.cons rfl (.cons rfl (.nil))) ?_
 obtain⟨⟨uK,uL⟩,lH,h⟩:=bS h
 refine RT.aX .none (GS N lH) hN rfl ⟨rfl,rfl,trivial⟩ T<|al (cs:=[.v (.bool false),nw N (slc 1 (List.map ah []))]) (by exact⟨SV.aa _,aB,trivial⟩) rfl<|so rfl rfl rfl<|dn<|sr<|ld rfl rfl (.cons rfl (.cons rfl (.nil)))<|ld rfl rfl (.cons rfl (.cons rfl (.nil))) ?_
 obtain⟨⟨⟨sW,sX⟩,⟨P7,P8⟩,abM⟩,ni,h⟩:=bS h
 refine RT.aX .none ((tN N ni).w (args':=[_,_]) ⟨(SV.aa _),(SV.jS (show bB [.v (.bool uK),nw N (slc 1 (List.map ah uL))] _ from⟨(SV.aa _),e5,trivial⟩)),trivial⟩) hN rfl ⟨rfl,rfl,trivial⟩ T<|mv rfl<|ex rfl rfl<|ex rfl rfl<|ex rfl rfl<|so rfl rfl rfl<|dn<|sr<|ld rfl rfl (.cons rfl (.cons rfl (.nil)))<|ld rfl rfl (.cons rfl (.cons rfl (.nil))) ?_
 obtain⟨⟨⟨sY,sZ⟩,⟨P9,Qa⟩,abN⟩,sS,h⟩:=bS h
 refine RT.aX .none ((tN N sS).w (args':=[_,_]) ⟨(SV.aa _),(SV.jS (show bB [.v (.bool uK),nw N (slc 1 (List.map ah uL))] _ from⟨(SV.aa _),e5,trivial⟩)),trivial⟩) hN rfl ⟨rfl,rfl,trivial⟩ T<|mv rfl<|ex rfl rfl<|ex rfl rfl<|ex rfl rfl<|so rfl rfl rfl<|dn<|qq<|sr<|ld rfl rfl (.cons rfl (.cons rfl (.nil))) ?_
 obtain⟨⟨Qb,Qc⟩,o9,h⟩:=bS h
 refine cl ((cV o9).w (args':=[_]) ⟨(SV.jS (show bB [.v (.bool sY),nw N (slc 1 (List.map ah sZ))] _ from⟨(SV.aa _),e5,trivial⟩)),trivial⟩) ⟨rfl,trivial⟩<|mv rfl<|ex rfl rfl<|ex rfl rfl<|ag rfl<|ag rfl<|dn<|qq ?_
 refine aF h (fun j5=>AS.bJ 46 [(2,.ptr 2 0),(3,.ptr 3 0),(4,.ptr 4 0),(41,.sv (.v (.bool j5)))] [(4,⟨43,[.sv (.v (.bool false)),.sv (nw N (slc 1 (List.map ah []))),.sv (.v (.bool false)),.sv (nw N (slc 1 (List.map ah [])))]⟩),(3,⟨41,[.sv (.v (.bool sY)),.sv (nw N (slc 1 (List.map ah sZ)))]⟩),(2,⟨41,[.sv (.v (.bool sW)),.sv (nw N (slc 1 (List.map ah sX)))]⟩)] []) (fun h=>?_) (fun IL h=>?_)
 refine af<|mv rfl<|mv rfl<|bE h fun Qd CW h=>?_
 cases Qc
 obtain rfl:=O (F CW)
 exact ww<|ww<|pF rfl<|dn<|⟨false,h,wR []⟩
 refine gm rfl<|lE (V CW) fun lO oc CW=>ge_ _ rfl rfl (ua (p:=Qb) (q:=1) oc) ?_
 obtain rfl:=O CW
 exact pT rfl<|dn<|⟨lO,h,wR []⟩
 try dsimp only
 refine ae.n ?_
 refine aF h (fun j7=>AS.bJ 46 [(2,.ptr 2 0),(3,.ptr 3 0),(4,.ptr 4 0)] [(4,⟨43,[.sv (.v (.bool false)),.sv (nw N (slc 1 (List.map ah []))),.sv (.v (.bool false)),.sv (nw N (slc 1 (List.map ah [])))]⟩),(3,⟨41,[.sv (.v (.bool j7.1)),.sv (nw N (slc 1 (List.map ah j7.2)))]⟩),(2,⟨41,[.sv (.v (.bool sW)),.sv (nw N (slc 1 (List.map ah sX)))]⟩)] []) (fun h=>?_) (fun j7 h=>?_)
 cases IL
 exact fs<|⟨(sY,sZ),(F h),wR []⟩
 exact cT<|af<|bI (cs:=[_,_]) (cs':=[.v (.bool false),nw N (slc 1 (List.map ah []))]) (.nil) ⟨SV.aa _,aB,trivial⟩<|so rfl rfl rfl<|dn<|⟨(false,[]),(V h),wR []⟩
 obtain⟨CN,CO⟩:=j7
 try dsimp only
 refine ae.n<|sr<|ld rfl rfl (.cons rfl (.cons rfl (.nil)))<|ld rfl rfl (.cons rfl (.cons rfl (.nil)))<|bI (cs:=[_,_,_,_]) (cs':=[.v (.bool sW),nw N (slc 1 (List.map ah sX)),.v (.bool CN),nw N (slc 1 (List.map ah CO))]) (.agg rfl (.agg rfl (.nil))) ⟨SV.aa _,SV.aa _,SV.aa _,SV.aa _,trivial⟩<|so rfl rfl rfl<|dn<|aj ?_
 obtain rfl:=O h
 exact RZ (.agg rfl rfl (.cons rfl (.cons rfl (.cons rfl (.cons rfl (.nil))))) rfl (.nil))
theorem nD{x0:Int}{x1:Int}(N:Nat){r:Qr}(h:ey x0 x1=some r):cL Tryz.prog 135 N [.v (.int .i64 x0),.v (.int .i64 x1)] (.agg ((fQ N) r)):=by
 refine aO Tryz.func135 rfl (Nat.le_of_ble_eq_true rfl) (fun cO M vs hN hvs=>?_)
 unfold ey at h
 refine sr<|al (cs:=[.v (.bool false),nw N (slc 1 (List.map ah [])),.v (.bool false),nw N (slc 1 (List.map ah []))]) (by exact⟨SV.aa _,aB,SV.aa _,aB,trivial⟩) rfl<|dn<|sr<|mv rfl<|mv rfl<|ag rfl<|ag rfl<|dn<|qq<|bE h fun e6 CI jd=>?_
 refine aT (fun(xH:Int)=>AS.bJ 36 [(0,.sv (.v (.int .i64 x0))),(1,.sv (.v (.int .i64 x1))),(4,.ptr 4 0),(5,.sv (.v (.int .i64 xH)))] [(4,⟨43,[.sv (.v (.bool false)),.sv (nw N (slc 1 (List.map ah []))),.sv (.v (.bool false)),.sv (nw N (slc 1 (List.map ah [])))]⟩)] []) (fun xH=>xH=e6) ?_ (fun xH CJ=>?_)
 refine ak ?_
 refine aU CI (fun s6=>AS.bJ 36 [(0,.sv (.v (.int .i64 x0))),(1,.sv (.v (.int .i64 x1))),(4,.ptr 4 0),(5,.sv (.v (.int .i64 s6.1))),(6,.sv (.v (.int .i64 s6.2)))] [(4,⟨43,[.sv (.v (.bool false)),.sv (nw N (slc 1 (List.map ah []))),.sv (.v (.bool false)),.sv (nw N (slc 1 (List.map ah [])))]⟩)] []) (wR []) (fun s6 y6 G6 h CK yJ=>?_)
 obtain⟨rG,GG⟩:=s6
 try dsimp only
 refine qq<|sr<|mv rfl<|lE h fun ek gC h=>ne _ rfl rfl (F6 (p:=GG) (q:=0) gC)<|dn ?_
 cases ek
 refine cF<|bf<|ae.x<|ae.x<|aK.x<|ae.n ?_
 obtain rfl:=O (F h)
 exact⟨rG,yJ _ rfl,wR []⟩
 refine cT<|aH<|ae.n<|ak<|ai mixed<|mv rfl<|mv rfl<|mv rfl<|bE (V h) fun fg jv h=>RT.rem .none _ rfl rfl T (abc jv) (abd jv)<|ag rfl<|ag rfl ?_
 refine RT.done ⟨by kernel_rfl,?_⟩
 refine aK.n ?_
 obtain rfl:=O h
 exact ae.n ⟨(GG,fg),CK _ rfl,wR []⟩
 subst CJ
 try dsimp only
 refine ae.n<|qq<|sr<|mv rfl<|lE jd fun iY kX jd=>ls _ rfl rfl kX<|dn ?_
 refine aF jd (fun j8=>AS.bJ 36 [(0,.sv (.v (.int .i64 x0))),(1,.sv (.v (.int .i64 x1))),(4,.ptr 4 0),(5,.sv (.v (.int .i64 j8)))] [(4,⟨43,[.sv (.v (.bool false)),.sv (nw N (slc 1 (List.map ah []))),.sv (.v (.bool false)),.sv (nw N (slc 1 (List.map ah [])))]⟩)] []) (fun jd=>?_) (fun IQ jd=>?_)
 cases iY
 exact fs<|⟨xH,(F jd),wR []⟩
 exact cT<|af<|mv rfl<|lE (V jd) fun fF iM jd=>RT.neg .none _ rfl T iM<|ag rfl<|dn<|⟨fF,jd,wR []⟩
 try dsimp only
 refine ae.n<|qq<|sr<|mv rfl<|mv rfl<|lE jd fun ik ni jd=>eq _ rfl rfl (ua (p:=IQ) (q:=x1) ni)<|dn ?_
 cases ik
 refine fs<|qq<|ai mixed<|mv rfl<|mv rfl<|bE (F jd) fun iq jw jd=>RT.quo .none _ rfl rfl T (nzI jw) (Nn jw) ?_
 obtain⟨⟨o5,o6⟩,uJ,jd⟩:=bS jd
 refine RT.aX .none (gJ N uJ) hN rfl ⟨rfl,trivial⟩ T<|mv rfl<|mv rfl<|bE jd fun sL sV jd=>RT.quo .none _ rfl rfl T (nzI sV) (Nn sV) ?_
 obtain⟨⟨IS,IT⟩,o9,jd⟩:=bS jd
 refine RT.aX .none (gJ N o9) hN rfl ⟨rfl,trivial⟩ T<|bI (cs:=[_,_,_,_]) (cs':=[.v (.bool o5),nw N (slc 1 (List.map ah o6)),.v (.bool IS),nw N (slc 1 (List.map ah IT))]) (.agg rfl (.agg rfl (.nil))) ⟨SV.aa _,SV.aa _,SV.aa _,SV.aa _,trivial⟩<|so rfl rfl rfl ?_
 refine RT.done ⟨by kernel_rfl,?_⟩
 refine ae.n<|aj ?_
 obtain rfl:=O jd
 exact RZ (.agg rfl rfl (.cons rfl (.cons rfl (.cons rfl (.cons rfl (.nil))))) rfl (.nil))
 refine cT<|sr<|mv rfl<|mv rfl<|bE (V jd) fun ir mP jd=>RT.quo .none _ rfl rfl T (nzI mP) (Nn mP) ?_
 obtain⟨⟨iL,iB⟩,qc,jd⟩:=bS jd
 refine RT.aX .none (gJ N qc) hN rfl ⟨rfl,trivial⟩ T<|bI (cs:=[_,_,_,_]) (cs':=[.v (.bool iL),nw N (slc 1 (List.map ah iB)),.v (.bool false),nw N (slc 1 (List.map ah []))]) (.agg rfl (.nil)) ⟨SV.aa _,SV.aa _,SV.aa _,aB,trivial⟩<|so rfl rfl rfl<|dn<|aj<|ae.r ?_
 obtain rfl:=O jd
 exact RZ (.agg rfl rfl (.cons rfl (.cons rfl (.cons rfl (.cons rfl (.nil))))) rfl (.nil))
theorem vf{x0:Zr}{x1:Zr}{x2:Zr}{x3:Zr}(N:Nat){r:Zr×Zr}(h:eE x0 x1 x2 x3=some r):cL Tryz.prog 187 N [.agg (eZ x0),.agg (eZ x1),.agg (eZ x2),.agg (eZ x3)] (.wm [.agg ((fZ N) r.1),.agg ((fZ N) r.2)]):=by
 obtain⟨aC,aD⟩:=x0
 obtain⟨bN,bL⟩:=x1
 obtain⟨gR,iN⟩:=x2
 obtain⟨wB,wD⟩:=x3
 refine aO Tryz.func187 rfl (Nat.le_of_ble_eq_true rfl) (fun cO M vs hN hvs=>?_)
 unfold eE at h
 refine sr<|bx rfl<|bx rfl<|bx rfl<|bx rfl<|al (cs:=[.v (.bool false),nw N (slc 1 (List.map ah []))]) (by exact⟨SV.aa _,aB,trivial⟩) rfl<|al (cs:=[.v (.bool false),nw N (slc 1 (List.map ah []))]) (by exact⟨SV.aa _,aB,trivial⟩) rfl<|dn<|qq<|ai mixed<|ld rfl rfl (.cons rfl (.cons rfl (.nil)))<|ld rfl rfl (.cons rfl (.cons rfl (.nil))) ?_
 obtain⟨⟨gE,gj⟩,fj,h⟩:=bS h
 refine RT.aX .none (gZ N fj) hN rfl ⟨rfl,rfl,trivial⟩ T<|ld rfl rfl (.cons rfl (.cons rfl (.nil)))<|ld rfl rfl (.cons rfl (.cons rfl (.nil))) ?_
 obtain⟨⟨kg,kj⟩,fT,h⟩:=bS h
 refine RT.aX .none (gZ N fT) hN rfl ⟨rfl,rfl,trivial⟩ T ?_
 obtain⟨⟨nP,nQ⟩,kX,h⟩:=bS h
 refine RT.aX .none ((GQ N kX).w (args':=[_,_]) ⟨(SV.jS (show bB [.v (.bool gE),nw N (slc 1 (List.map ah gj))] _ from⟨(SV.aa _),e5,trivial⟩)),(SV.jS (show bB [.v (.bool kg),nw N (slc 1 (List.map ah kj))] _ from⟨(SV.aa _),e5,trivial⟩)),trivial⟩) hN rfl ⟨rfl,rfl,trivial⟩ T<|ld rfl rfl (.cons rfl (.cons rfl (.nil)))<|ld rfl rfl (.cons rfl (.cons rfl (.nil))) ?_
 obtain⟨⟨mU,mW⟩,kJ,h⟩:=bS h
 refine RT.aX .none (gZ N kJ) hN rfl ⟨rfl,rfl,trivial⟩ T<|so rfl rfl rfl<|so rfl rfl rfl ?_
 refine RT.done ⟨by kernel_rfl,?_⟩
 refine ae.n<|aj ?_
 obtain rfl:=O h
 exact RZ (.agg rfl rfl (.cons rfl (.cons rfl (.nil))) rfl (.agg rfl rfl (.cons rfl (.cons rfl (.nil))) rfl (.nil)))
theorem vg{x0:Zr}{x1:Zr}{x2:Zr}{x3:Zr}(N:Nat){r:Zr×Zr}(h:eG x0 x1 x2 x3=some r):cL Tryz.prog 189 N [.agg (eZ x0),.agg (eZ x1),.agg (eZ x2),.agg (eZ x3)] (.wm [.agg ((fZ N) r.1),.agg ((fZ N) r.2)]):=by
 obtain⟨aC,aD⟩:=x0
 obtain⟨bN,bL⟩:=x1
 obtain⟨gR,iN⟩:=x2
 obtain⟨wB,wD⟩:=x3
 refine aO Tryz.func189 rfl (Nat.le_of_ble_eq_true rfl) (fun cO M vs hN hvs=>?_)
 unfold eG at h
 refine sr<|bx rfl<|bx rfl<|bx rfl<|bx rfl<|al (cs:=[.v (.bool false),nw N (slc 1 (List.map ah []))]) (by exact⟨SV.aa _,aB,trivial⟩) rfl<|al (cs:=[.v (.bool false),nw N (slc 1 (List.map ah []))]) (by exact⟨SV.aa _,aB,trivial⟩) rfl<|dn<|qq<|ai mixed<|ld rfl rfl (.cons rfl (.cons rfl (.nil)))<|ld rfl rfl (.cons rfl (.cons rfl (.nil))) ?_
 obtain⟨⟨gE,gj⟩,fj,h⟩:=bS h
 refine RT.aX .none (gZ N fj) hN rfl ⟨rfl,rfl,trivial⟩ T<|ld rfl rfl (.cons rfl (.cons rfl (.nil)))<|ld rfl rfl (.cons rfl (.cons rfl (.nil))) ?_
 obtain⟨⟨kg,kj⟩,fT,h⟩:=bS h
 refine RT.aX .none (gZ N fT) hN rfl ⟨rfl,rfl,trivial⟩ T ?_
 obtain⟨⟨nP,nQ⟩,kX,h⟩:=bS h
 refine RT.aX .none ((GR N kX).w (args':=[_,_]) ⟨(SV.jS (show bB [.v (.bool gE),nw N (slc 1 (List.map ah gj))] _ from⟨(SV.aa _),e5,trivial⟩)),(SV.jS (show bB [.v (.bool kg),nw N (slc 1 (List.map ah kj))] _ from⟨(SV.aa _),e5,trivial⟩)),trivial⟩) hN rfl ⟨rfl,rfl,trivial⟩ T<|ld rfl rfl (.cons rfl (.cons rfl (.nil)))<|ld rfl rfl (.cons rfl (.cons rfl (.nil))) ?_
 obtain⟨⟨mU,mW⟩,kJ,h⟩:=bS h
 refine RT.aX .none (gZ N kJ) hN rfl ⟨rfl,rfl,trivial⟩ T<|so rfl rfl rfl<|so rfl rfl rfl ?_
 refine RT.done ⟨by kernel_rfl,?_⟩
 refine ae.n<|aj ?_
 obtain rfl:=O h
 exact RZ (.agg rfl rfl (.cons rfl (.cons rfl (.nil))) rfl (.agg rfl rfl (.cons rfl (.cons rfl (.nil))) rfl (.nil)))
theorem vh{x0:Zr}{x1:Zr}{x2:Zr}{x3:Zr}(N:Nat){r:Zr×Zr}(h:eI x0 x1 x2 x3=some r):cL Tryz.prog 191 N [.agg (eZ x0),.agg (eZ x1),.agg (eZ x2),.agg (eZ x3)] (.wm [.agg ((fZ N) r.1),.agg ((fZ N) r.2)]):=by
 obtain⟨aC,aD⟩:=x0
 obtain⟨bN,bL⟩:=x1
 obtain⟨gR,iN⟩:=x2
 obtain⟨wB,wD⟩:=x3
 refine aO Tryz.func191 rfl (Nat.le_of_ble_eq_true rfl) (fun cO M vs hN hvs=>?_)
 unfold eI at h
 refine sr<|bx rfl<|bx rfl<|bx rfl<|bx rfl<|al (cs:=[.v (.bool false),nw N (slc 1 (List.map ah []))]) (by exact⟨SV.aa _,aB,trivial⟩) rfl<|al (cs:=[.v (.bool false),nw N (slc 1 (List.map ah []))]) (by exact⟨SV.aa _,aB,trivial⟩) rfl<|dn<|qq<|ai mixed<|ld rfl rfl (.cons rfl (.cons rfl (.nil)))<|ld rfl rfl (.cons rfl (.cons rfl (.nil))) ?_
 obtain⟨⟨gE,gj⟩,fj,h⟩:=bS h
 refine RT.aX .none (gZ N fj) hN rfl ⟨rfl,rfl,trivial⟩ T<|ld rfl rfl (.cons rfl (.cons rfl (.nil)))<|ld rfl rfl (.cons rfl (.cons rfl (.nil))) ?_
 obtain⟨⟨kg,kj⟩,fT,h⟩:=bS h
 refine RT.aX .none (gZ N fT) hN rfl ⟨rfl,rfl,trivial⟩ T<|so rfl rfl rfl<|so rfl rfl rfl ?_
 refine RT.done ⟨by kernel_rfl,?_⟩
 refine ae.n<|aj ?_
 obtain rfl:=O h
 exact RZ (.agg rfl rfl (.cons rfl (.cons rfl (.nil))) rfl (.agg rfl rfl (.cons rfl (.cons rfl (.nil))) rfl (.nil)))
theorem Bj{x1:Qr}{x2:Qr}(N:Nat){r:Qr}(h:gG x1 x2=some r):cL Tryz.prog 136 N [.v (.int .u8 ((43:Nat):Int)),.agg (eQ x1),.agg (eQ x2)] (.agg ((fQ N) r)):=by
 obtain⟨⟨bN,bL⟩,⟨gy,gz⟩⟩:=x1
 obtain⟨⟨gR,iN⟩,⟨yO,yP⟩⟩:=x2
 refine aO Tryz.func136 rfl (Nat.le_of_ble_eq_true rfl) (fun cO M vs hN hvs=>?_)
 unfold gG at h
 refine sr<|bx rfl<|bx rfl<|al (cs:=[.v (.bool false),nw N (slc 1 (List.map ah [])),.v (.bool false),nw N (slc 1 (List.map ah []))]) (by exact⟨SV.aa _,aB,SV.aa _,aB,trivial⟩) rfl<|dn<|sr<|ld rfl rfl (.cons rfl (.cons rfl (.cons rfl (.cons rfl (.nil))))) ?_
 obtain⟨⟨⟨je,jg⟩,⟨jL,jM⟩⟩,gW,h⟩:=bS h
 refine cl (bU gW) ⟨rfl,trivial⟩<|mv rfl<|ex rfl rfl<|ex rfl rfl<|al (cs:=[.v (.bool false),nw N (slc 1 (List.map ah []))]) (by exact⟨SV.aa _,aB,trivial⟩) rfl<|al (cs:=[.v (.bool false),nw N (slc 1 (List.map ah []))]) (by exact⟨SV.aa _,aB,trivial⟩) rfl<|so rfl rfl rfl<|so rfl rfl rfl<|dn<|sr<|ld rfl rfl (.cons rfl (.cons rfl (.cons rfl (.cons rfl (.nil))))) ?_
 obtain⟨⟨⟨jh,ji⟩,⟨jN,jO⟩⟩,iM,h⟩:=bS h
 refine cl (bU iM) ⟨rfl,trivial⟩<|mv rfl<|ex rfl rfl<|ex rfl rfl<|al (cs:=[.v (.bool false),nw N (slc 1 (List.map ah []))]) (by exact⟨SV.aa _,aB,trivial⟩) rfl<|al (cs:=[.v (.bool false),nw N (slc 1 (List.map ah []))]) (by exact⟨SV.aa _,aB,trivial⟩) rfl<|so rfl rfl rfl<|so rfl rfl rfl<|dn<|qq<|ai mixed<|cl dU trivial<|mv rfl ?_
 refine RT.look .none [.func (.func 187) #[] #[]] rfl rfl rfl T<|fl rfl rfl<|ld rfl rfl (.cons rfl (.cons rfl (.nil)))<|ld rfl rfl (.cons rfl (.cons rfl (.nil)))<|ld rfl rfl (.cons rfl (.cons rfl (.nil)))<|ld rfl rfl (.cons rfl (.cons rfl (.nil))) ?_
 obtain⟨⟨⟨kn,ko⟩,⟨kp,kq⟩⟩,jw,h⟩:=bS h
 refine RT.aX .none (vf N jw) hN rfl ⟨rfl,rfl,rfl,rfl,trivial⟩ T<|ex rfl rfl<|ex rfl rfl ?_
 obtain⟨⟨⟨nO,mS⟩,⟨qA,qB⟩⟩,kV,h⟩:=bS h
 refine RT.aX .none ((mw N kV).w (args':=[_,_]) ⟨(SV.jS (show bB [.v (.bool kn),nw N (slc 1 (List.map ah ko))] _ from⟨(SV.aa _),e5,trivial⟩)),(SV.jS (show bB [.v (.bool kp),nw N (slc 1 (List.map ah kq))] _ from⟨(SV.aa _),e5,trivial⟩)),trivial⟩) hN rfl ⟨rfl,rfl,trivial⟩ T<|so rfl rfl rfl ?_
 refine RT.done ⟨by kernel_rfl,?_⟩
 refine ae.n<|aj ?_
 obtain rfl:=O h
 exact RZ (.agg rfl rfl (.cons rfl (.cons rfl (.cons rfl (.cons rfl (.nil))))) rfl (.nil))
theorem Bl{x1:Qr}{x2:Qr}(N:Nat){r:Qr}(h:gH x1 x2=some r):cL Tryz.prog 136 N [.v (.int .u8 ((45:Nat):Int)),.agg (eQ x1),.agg (eQ x2)] (.agg ((fQ N) r)):=by
 obtain⟨⟨bN,bL⟩,⟨gy,gz⟩⟩:=x1
 obtain⟨⟨gR,iN⟩,⟨yO,yP⟩⟩:=x2
 refine aO Tryz.func136 rfl (Nat.le_of_ble_eq_true rfl) (fun cO M vs hN hvs=>?_)
 unfold gH at h
 refine sr<|bx rfl<|bx rfl<|al (cs:=[.v (.bool false),nw N (slc 1 (List.map ah [])),.v (.bool false),nw N (slc 1 (List.map ah []))]) (by exact⟨SV.aa _,aB,SV.aa _,aB,trivial⟩) rfl<|dn<|sr<|ld rfl rfl (.cons rfl (.cons rfl (.cons rfl (.cons rfl (.nil))))) ?_
 obtain⟨⟨⟨je,jg⟩,⟨jL,jM⟩⟩,gW,h⟩:=bS h
 refine cl (bU gW) ⟨rfl,trivial⟩<|mv rfl<|ex rfl rfl<|ex rfl rfl<|al (cs:=[.v (.bool false),nw N (slc 1 (List.map ah []))]) (by exact⟨SV.aa _,aB,trivial⟩) rfl<|al (cs:=[.v (.bool false),nw N (slc 1 (List.map ah []))]) (by exact⟨SV.aa _,aB,trivial⟩) rfl<|so rfl rfl rfl<|so rfl rfl rfl<|dn<|sr<|ld rfl rfl (.cons rfl (.cons rfl (.cons rfl (.cons rfl (.nil))))) ?_
 obtain⟨⟨⟨jh,ji⟩,⟨jN,jO⟩⟩,iM,h⟩:=bS h
 refine cl (bU iM) ⟨rfl,trivial⟩<|mv rfl<|ex rfl rfl<|ex rfl rfl<|al (cs:=[.v (.bool false),nw N (slc 1 (List.map ah []))]) (by exact⟨SV.aa _,aB,trivial⟩) rfl<|al (cs:=[.v (.bool false),nw N (slc 1 (List.map ah []))]) (by exact⟨SV.aa _,aB,trivial⟩) rfl<|so rfl rfl rfl<|so rfl rfl rfl<|dn<|qq<|ai mixed<|cl dU trivial<|mv rfl ?_
 refine RT.look .none [.func (.func 189) #[] #[]] rfl rfl rfl T<|fl rfl rfl<|ld rfl rfl (.cons rfl (.cons rfl (.nil)))<|ld rfl rfl (.cons rfl (.cons rfl (.nil)))<|ld rfl rfl (.cons rfl (.cons rfl (.nil)))<|ld rfl rfl (.cons rfl (.cons rfl (.nil))) ?_
 obtain⟨⟨⟨kn,ko⟩,⟨kp,kq⟩⟩,jw,h⟩:=bS h
 refine RT.aX .none (vg N jw) hN rfl ⟨rfl,rfl,rfl,rfl,trivial⟩ T<|ex rfl rfl<|ex rfl rfl ?_
 obtain⟨⟨⟨nO,mS⟩,⟨qA,qB⟩⟩,kV,h⟩:=bS h
 refine RT.aX .none ((mw N kV).w (args':=[_,_]) ⟨(SV.jS (show bB [.v (.bool kn),nw N (slc 1 (List.map ah ko))] _ from⟨(SV.aa _),e5,trivial⟩)),(SV.jS (show bB [.v (.bool kp),nw N (slc 1 (List.map ah kq))] _ from⟨(SV.aa _),e5,trivial⟩)),trivial⟩) hN rfl ⟨rfl,rfl,trivial⟩ T<|so rfl rfl rfl ?_
 refine RT.done ⟨by kernel_rfl,?_⟩
 refine ae.n<|aj ?_
 obtain rfl:=O h
 exact RZ (.agg rfl rfl (.cons rfl (.cons rfl (.cons rfl (.cons rfl (.nil))))) rfl (.nil))
theorem Bm{x1:Qr}{x2:Qr}(N:Nat){r:Qr}(h:gI x1 x2=some r):cL Tryz.prog 136 N [.v (.int .u8 ((42:Nat):Int)),.agg (eQ x1),.agg (eQ x2)] (.agg ((fQ N) r)):=by
 obtain⟨⟨bN,bL⟩,⟨gy,gz⟩⟩:=x1
 obtain⟨⟨gR,iN⟩,⟨yO,yP⟩⟩:=x2
 refine aO Tryz.func136 rfl (Nat.le_of_ble_eq_true rfl) (fun cO M vs hN hvs=>?_)
 unfold gI at h
 refine sr<|bx rfl<|bx rfl<|al (cs:=[.v (.bool false),nw N (slc 1 (List.map ah [])),.v (.bool false),nw N (slc 1 (List.map ah []))]) (by exact⟨SV.aa _,aB,SV.aa _,aB,trivial⟩) rfl<|dn<|sr<|ld rfl rfl (.cons rfl (.cons rfl (.cons rfl (.cons rfl (.nil))))) ?_
 obtain⟨⟨⟨je,jg⟩,⟨jL,jM⟩⟩,gW,h⟩:=bS h
 refine cl (bU gW) ⟨rfl,trivial⟩<|mv rfl<|ex rfl rfl<|ex rfl rfl<|al (cs:=[.v (.bool false),nw N (slc 1 (List.map ah []))]) (by exact⟨SV.aa _,aB,trivial⟩) rfl<|al (cs:=[.v (.bool false),nw N (slc 1 (List.map ah []))]) (by exact⟨SV.aa _,aB,trivial⟩) rfl<|so rfl rfl rfl<|so rfl rfl rfl<|dn<|sr<|ld rfl rfl (.cons rfl (.cons rfl (.cons rfl (.cons rfl (.nil))))) ?_
 obtain⟨⟨⟨jh,ji⟩,⟨jN,jO⟩⟩,iM,h⟩:=bS h
 refine cl (bU iM) ⟨rfl,trivial⟩<|mv rfl<|ex rfl rfl<|ex rfl rfl<|al (cs:=[.v (.bool false),nw N (slc 1 (List.map ah []))]) (by exact⟨SV.aa _,aB,trivial⟩) rfl<|al (cs:=[.v (.bool false),nw N (slc 1 (List.map ah []))]) (by exact⟨SV.aa _,aB,trivial⟩) rfl<|so rfl rfl rfl<|so rfl rfl rfl<|dn<|qq<|ai mixed<|cl dU trivial<|mv rfl ?_
 refine RT.look .none [.func (.func 191) #[] #[]] rfl rfl rfl T<|fl rfl rfl<|ld rfl rfl (.cons rfl (.cons rfl (.nil)))<|ld rfl rfl (.cons rfl (.cons rfl (.nil)))<|ld rfl rfl (.cons rfl (.cons rfl (.nil)))<|ld rfl rfl (.cons rfl (.cons rfl (.nil))) ?_
 obtain⟨⟨⟨kn,ko⟩,⟨kp,kq⟩⟩,jw,h⟩:=bS h
 refine RT.aX .none (vh N jw) hN rfl ⟨rfl,rfl,rfl,rfl,trivial⟩ T<|ex rfl rfl<|ex rfl rfl ?_
 obtain⟨⟨⟨nO,mS⟩,⟨qA,qB⟩⟩,kV,h⟩:=bS h
 refine RT.aX .none ((mw N kV).w (args':=[_,_]) ⟨(SV.jS (show bB [.v (.bool kn),nw N (slc 1 (List.map ah ko))] _ from⟨(SV.aa _),e5,trivial⟩)),(SV.jS (show bB [.v (.bool kp),nw N (slc 1 (List.map ah kq))] _ from⟨(SV.aa _),e5,trivial⟩)),trivial⟩) hN rfl ⟨rfl,rfl,trivial⟩ T<|so rfl rfl rfl ?_
 refine RT.done ⟨by kernel_rfl,?_⟩
 refine ae.n<|aj ?_
 obtain rfl:=O h
 exact RZ (.agg rfl rfl (.cons rfl (.cons rfl (.cons rfl (.cons rfl (.nil))))) rfl (.nil))
theorem qG{x0:Qr}(N:Nat){r:Qr}(h:cj x0=some r):cL Tryz.prog 93 N [.agg (eQ x0)] (.agg ((fQ N) r)):=by
 obtain⟨⟨aC,aD⟩,⟨aM,aN⟩⟩:=x0
 refine aO Tryz.func93 rfl (Nat.le_of_ble_eq_true rfl) (fun cO M vs hN hvs=>?_)
 unfold cj at h
 refine sr<|bx rfl<|al (cs:=[.v (.bool false),nw N (slc 1 (List.map ah [])),.v (.bool false),nw N (slc 1 (List.map ah []))]) (by exact⟨SV.aa _,aB,SV.aa _,aB,trivial⟩) rfl<|dn<|qq<|sr<|ld rfl rfl (.cons rfl (.cons rfl (.cons rfl (.cons rfl (.nil))))) ?_
 obtain⟨⟨x8a,x8b,x8c⟩,h8,h⟩:=bS h
 refine cl (cf h8) ⟨rfl,trivial⟩<|mv rfl<|ex rfl rfl<|ex rfl rfl<|ex rfl rfl<|ag rfl<|ag rfl<|ag rfl<|dn<|sr<|mv rfl<|dn ?_
 cases x8c
 refine fs<|sr<|ld rfl rfl (.cons rfl (.cons rfl (.cons rfl (.cons rfl (.nil))))) ?_
 obtain⟨⟨⟨K1,K9⟩,⟨La,Lb⟩⟩,lH,h⟩:=bS (F h)
 refine cl (bU lH) ⟨rfl,trivial⟩<|ex rfl rfl<|ex rfl rfl ?_
 obtain⟨⟨⟨Qh,Qi⟩,⟨Qj,Qk⟩⟩,lW,h⟩:=bS h
 refine RT.aX .none (mw N lW) hN rfl ⟨rfl,rfl,trivial⟩ T<|so rfl rfl rfl<|dn<|aj ?_
 obtain rfl:=O h
 exact RZ (.agg rfl rfl (.cons rfl (.cons rfl (.cons rfl (.cons rfl (.nil))))) rfl (.nil))
 refine cT<|sr<|mv rfl<|mv rfl ?_
 obtain⟨⟨⟨kg,kj⟩,⟨Fb,Fe⟩⟩,fT,h⟩:=bS (V h)
 refine RT.aX .none (nD N fT) hN rfl ⟨rfl,rfl,trivial⟩ T<|so rfl rfl rfl<|dn<|aj<|ae.r ?_
 obtain rfl:=O h
 exact RZ (.agg rfl rfl (.cons rfl (.cons rfl (.cons rfl (.cons rfl (.nil))))) rfl (.nil))
theorem Je{x0:Qr}{x1:Qr}(N:Nat){r:Qr}(h:lI x0 x1=some r):cL Tryz.prog 132 N [.agg (eQ x0),.agg (eQ x1)] (.agg ((fQ N) r)):=by
 obtain⟨⟨aC,aD⟩,⟨aM,aN⟩⟩:=x0
 obtain⟨⟨bN,bL⟩,⟨gy,gz⟩⟩:=x1
 refine aO Tryz.func132 rfl (Nat.le_of_ble_eq_true rfl) (fun cO M vs hN hvs=>?_)
 unfold lI at h
 refine sr<|bx rfl<|bx rfl<|al (cs:=[.v (.bool false),nw N (slc 1 (List.map ah [])),.v (.bool false),nw N (slc 1 (List.map ah []))]) (by exact⟨SV.aa _,aB,SV.aa _,aB,trivial⟩) rfl<|dn<|sr<|ld rfl rfl (.cons rfl (.cons rfl (.cons rfl (.cons rfl (.nil))))) ?_
 obtain⟨⟨uM,s9,uN⟩,gW,h⟩:=bS h
 refine cl (cf gW) ⟨rfl,trivial⟩<|mv rfl<|ex rfl rfl<|ex rfl rfl<|ex rfl rfl<|ag rfl<|ag rfl<|ag rfl<|dn<|sr<|ld rfl rfl (.cons rfl (.cons rfl (.cons rfl (.cons rfl (.nil))))) ?_
 obtain⟨⟨uO,tc,uP⟩,kJ,h⟩:=bS h
 refine cl (cf kJ) ⟨rfl,trivial⟩<|mv rfl<|ex rfl rfl<|ex rfl rfl<|ex rfl rfl<|ag rfl<|ag rfl<|ag rfl<|dn<|qq<|qq ?_
 refine aF h (fun j3=>AS.bJ 41 [(2,.ptr 2 0),(3,.ptr 3 0),(4,.ptr 4 0),(5,.sv (.v (.int .i64 uM))),(6,.sv (.v (.int .i64 s9))),(8,.sv (.v (.int .i64 uO))),(9,.sv (.v (.int .i64 tc))),(26,.sv (.v (.bool j3)))] [(4,⟨43,[.sv (.v (.bool false)),.sv (nw N (slc 1 (List.map ah []))),.sv (.v (.bool false)),.sv (nw N (slc 1 (List.map ah [])))]⟩),(3,⟨43,[.sv (.v (.bool bN)),.sv (slc 1 (List.map ah bL)),.sv (.v (.bool gy)),.sv (slc 1 (List.map ah gz))]⟩),(2,⟨43,[.sv (.v (.bool aC)),.sv (slc 1 (List.map ah aD)),.sv (.v (.bool aM)),.sv (slc 1 (List.map ah aN))]⟩)] []) (fun h=>?_) (fun nT h=>?_)
 refine af<|mv rfl<|mv rfl<|bE h fun uQ nC h=>?_
 cases uN
 obtain rfl:=O (F nC)
 exact ww<|pF rfl<|dn<|⟨false,h,wR []⟩
 refine gm rfl ?_
 obtain rfl:=O (V nC)
 exact pT rfl<|dn<|⟨uP,h,wR []⟩
 try dsimp only
 refine ae.n ?_
 cases nT
 refine fs<|sr<|ld rfl rfl (.cons rfl (.cons rfl (.cons rfl (.cons rfl (.nil)))))<|ld rfl rfl (.cons rfl (.cons rfl (.cons rfl (.cons rfl (.nil))))) ?_
 obtain⟨⟨⟨uG,uH⟩,⟨CT,CU⟩⟩,oc,h⟩:=bS (F h)
 refine RT.aX .none (Bj N oc) hN rfl ⟨rfl,rfl,rfl,trivial⟩ T<|so rfl rfl rfl<|dn<|aj ?_
 obtain rfl:=O h
 exact RZ (.agg rfl rfl (.cons rfl (.cons rfl (.cons rfl (.cons rfl (.nil))))) rfl (.nil))
 refine cT<|sr<|mv rfl<|mv rfl<|lE (V h) fun iq jw h=>RT.mul .none _ rfl rfl T jw<|mv rfl<|mv rfl<|lE h fun iD kV h=>RT.mul .none _ rfl rfl T kV<|lE h fun sL sV h=>ad _ rfl rfl sV<|mv rfl<|mv rfl<|lE h fun oP qe h=>RT.mul .none _ rfl rfl T qe ?_
 obtain⟨⟨⟨CP,CQ⟩,⟨CR,CS⟩⟩,yN,h⟩:=bS h
 refine RT.aX .none (nD N yN) hN rfl ⟨rfl,rfl,trivial⟩ T<|so rfl rfl rfl<|dn<|aj<|ae.r ?_
 obtain rfl:=O h
 exact RZ (.agg rfl rfl (.cons rfl (.cons rfl (.cons rfl (.cons rfl (.nil))))) rfl (.nil))
theorem Jf{x0:Qr}{x1:Qr}(N:Nat){r:Qr}(h:lJ x0 x1=some r):cL Tryz.prog 94 N [.agg (eQ x0),.agg (eQ x1)] (.agg ((fQ N) r)):=by
 obtain⟨⟨aC,aD⟩,⟨aM,aN⟩⟩:=x0
 obtain⟨⟨bN,bL⟩,⟨gy,gz⟩⟩:=x1
 refine aO Tryz.func94 rfl (Nat.le_of_ble_eq_true rfl) (fun cO M vs hN hvs=>?_)
 unfold lJ at h
 refine sr<|bx rfl<|bx rfl<|al (cs:=[.v (.bool false),nw N (slc 1 (List.map ah [])),.v (.bool false),nw N (slc 1 (List.map ah []))]) (by exact⟨SV.aa _,aB,SV.aa _,aB,trivial⟩) rfl<|dn<|sr<|ld rfl rfl (.cons rfl (.cons rfl (.cons rfl (.cons rfl (.nil))))) ?_
 obtain⟨⟨uM,s9,uN⟩,gW,h⟩:=bS h
 refine cl (cf gW) ⟨rfl,trivial⟩<|mv rfl<|ex rfl rfl<|ex rfl rfl<|ex rfl rfl<|ag rfl<|ag rfl<|ag rfl<|dn<|sr<|ld rfl rfl (.cons rfl (.cons rfl (.cons rfl (.cons rfl (.nil))))) ?_
 obtain⟨⟨uO,tc,uP⟩,kJ,h⟩:=bS h
 refine cl (cf kJ) ⟨rfl,trivial⟩<|mv rfl<|ex rfl rfl<|ex rfl rfl<|ex rfl rfl<|ag rfl<|ag rfl<|ag rfl<|dn<|qq<|qq ?_
 refine aF h (fun j3=>AS.bJ 41 [(2,.ptr 2 0),(3,.ptr 3 0),(4,.ptr 4 0),(5,.sv (.v (.int .i64 uM))),(6,.sv (.v (.int .i64 s9))),(8,.sv (.v (.int .i64 uO))),(9,.sv (.v (.int .i64 tc))),(26,.sv (.v (.bool j3)))] [(4,⟨43,[.sv (.v (.bool false)),.sv (nw N (slc 1 (List.map ah []))),.sv (.v (.bool false)),.sv (nw N (slc 1 (List.map ah [])))]⟩),(3,⟨43,[.sv (.v (.bool bN)),.sv (slc 1 (List.map ah bL)),.sv (.v (.bool gy)),.sv (slc 1 (List.map ah gz))]⟩),(2,⟨43,[.sv (.v (.bool aC)),.sv (slc 1 (List.map ah aD)),.sv (.v (.bool aM)),.sv (slc 1 (List.map ah aN))]⟩)] []) (fun h=>?_) (fun nT h=>?_)
 refine af<|mv rfl<|mv rfl<|bE h fun uQ nC h=>?_
 cases uN
 obtain rfl:=O (F nC)
 exact ww<|pF rfl<|dn<|⟨false,h,wR []⟩
 refine gm rfl ?_
 obtain rfl:=O (V nC)
 exact pT rfl<|dn<|⟨uP,h,wR []⟩
 try dsimp only
 refine ae.n ?_
 cases nT
 refine fs<|sr<|ld rfl rfl (.cons rfl (.cons rfl (.cons rfl (.cons rfl (.nil)))))<|ld rfl rfl (.cons rfl (.cons rfl (.cons rfl (.cons rfl (.nil))))) ?_
 obtain⟨⟨⟨uG,uH⟩,⟨CT,CU⟩⟩,oc,h⟩:=bS (F h)
 refine RT.aX .none (Bl N oc) hN rfl ⟨rfl,rfl,rfl,trivial⟩ T<|so rfl rfl rfl<|dn<|aj ?_
 obtain rfl:=O h
 exact RZ (.agg rfl rfl (.cons rfl (.cons rfl (.cons rfl (.cons rfl (.nil))))) rfl (.nil))
 refine cT<|sr<|mv rfl<|mv rfl<|lE (V h) fun iq jw h=>RT.mul .none _ rfl rfl T jw<|mv rfl<|mv rfl<|lE h fun iD kV h=>RT.mul .none _ rfl rfl T kV<|lE h fun sL sV h=>sb _ rfl rfl sV<|mv rfl<|mv rfl<|lE h fun oP qe h=>RT.mul .none _ rfl rfl T qe ?_
 obtain⟨⟨⟨CP,CQ⟩,⟨CR,CS⟩⟩,yN,h⟩:=bS h
 refine RT.aX .none (nD N yN) hN rfl ⟨rfl,rfl,trivial⟩ T<|so rfl rfl rfl<|dn<|aj<|ae.r ?_
 obtain rfl:=O h
 exact RZ (.agg rfl rfl (.cons rfl (.cons rfl (.cons rfl (.cons rfl (.nil))))) rfl (.nil))
theorem Jg{x0:Qr}{x1:Qr}(N:Nat){r:Qr}(h:kx x0 x1=some r):cL Tryz.prog 89 N [.agg (eQ x0),.agg (eQ x1)] (.agg ((fQ N) r)):=by
 obtain⟨⟨aC,aD⟩,⟨aM,aN⟩⟩:=x0
 obtain⟨⟨bN,bL⟩,⟨gy,gz⟩⟩:=x1
 refine aO Tryz.func89 rfl (Nat.le_of_ble_eq_true rfl) (fun cO M vs hN hvs=>?_)
 unfold kx at h
 refine sr<|bx rfl<|bx rfl<|al (cs:=[.v (.bool false),nw N (slc 1 (List.map ah [])),.v (.bool false),nw N (slc 1 (List.map ah []))]) (by exact⟨SV.aa _,aB,SV.aa _,aB,trivial⟩) rfl<|dn<|sr<|ld rfl rfl (.cons rfl (.cons rfl (.cons rfl (.cons rfl (.nil))))) ?_
 obtain⟨⟨uM,s9,uN⟩,gW,h⟩:=bS h
 refine cl (cf gW) ⟨rfl,trivial⟩<|mv rfl<|ex rfl rfl<|ex rfl rfl<|ex rfl rfl<|ag rfl<|ag rfl<|ag rfl<|dn<|sr<|ld rfl rfl (.cons rfl (.cons rfl (.cons rfl (.cons rfl (.nil))))) ?_
 obtain⟨⟨uO,tc,uP⟩,kJ,h⟩:=bS h
 refine cl (cf kJ) ⟨rfl,trivial⟩<|mv rfl<|ex rfl rfl<|ex rfl rfl<|ex rfl rfl<|ag rfl<|ag rfl<|ag rfl<|dn<|qq<|qq ?_
 refine aF h (fun j3=>AS.bJ 37 [(2,.ptr 2 0),(3,.ptr 3 0),(4,.ptr 4 0),(5,.sv (.v (.int .i64 uM))),(6,.sv (.v (.int .i64 s9))),(8,.sv (.v (.int .i64 uO))),(9,.sv (.v (.int .i64 tc))),(26,.sv (.v (.bool j3)))] [(4,⟨43,[.sv (.v (.bool false)),.sv (nw N (slc 1 (List.map ah []))),.sv (.v (.bool false)),.sv (nw N (slc 1 (List.map ah [])))]⟩),(3,⟨43,[.sv (.v (.bool bN)),.sv (slc 1 (List.map ah bL)),.sv (.v (.bool gy)),.sv (slc 1 (List.map ah gz))]⟩),(2,⟨43,[.sv (.v (.bool aC)),.sv (slc 1 (List.map ah aD)),.sv (.v (.bool aM)),.sv (slc 1 (List.map ah aN))]⟩)] []) (fun h=>?_) (fun nT h=>?_)
 refine af<|mv rfl<|mv rfl<|bE h fun uQ nC h=>?_
 cases uN
 obtain rfl:=O (F nC)
 exact ww<|pF rfl<|dn<|⟨false,h,wR []⟩
 refine gm rfl ?_
 obtain rfl:=O (V nC)
 exact pT rfl<|dn<|⟨uP,h,wR []⟩
 try dsimp only
 refine ae.n ?_
 cases nT
 refine fs<|sr<|ld rfl rfl (.cons rfl (.cons rfl (.cons rfl (.cons rfl (.nil)))))<|ld rfl rfl (.cons rfl (.cons rfl (.cons rfl (.cons rfl (.nil))))) ?_
 obtain⟨⟨⟨uE,uF⟩,⟨Qp,Qq⟩⟩,qe,h⟩:=bS (F h)
 refine RT.aX .none (Bm N qe) hN rfl ⟨rfl,rfl,rfl,trivial⟩ T<|so rfl rfl rfl<|dn<|aj ?_
 obtain rfl:=O h
 exact RZ (.agg rfl rfl (.cons rfl (.cons rfl (.cons rfl (.cons rfl (.nil))))) rfl (.nil))
 refine cT<|sr<|mv rfl<|mv rfl<|lE (V h) fun iq jw h=>RT.mul .none _ rfl rfl T jw<|mv rfl<|mv rfl<|lE h fun iD kV h=>RT.mul .none _ rfl rfl T kV ?_
 obtain⟨⟨⟨Ql,Qm⟩,⟨Qn,Qo⟩⟩,sV,h⟩:=bS h
 refine RT.aX .none (nD N sV) hN rfl ⟨rfl,rfl,trivial⟩ T<|so rfl rfl rfl<|dn<|aj<|ae.r ?_
 obtain rfl:=O h
 exact RZ (.agg rfl rfl (.cons rfl (.cons rfl (.cons rfl (.cons rfl (.nil))))) rfl (.nil))
end Go.Proofs.YtningmnklfpfjaaGreat
namespace Go.Fw
open Go.RowKit
abbrev fS(N n:Nat){α:Type}(e:α→List SV)(x:List α):List SV:=[nw N (slc n (x.map e))]
instance{N n:Nat}{α:Type}{e:α→List SV}:EL (fS N n e) 1:=⟨fun _=>rfl,fun _=>inferInstance⟩
instance{N n:Nat}{α:Type}{e:α→List SV}:Dl N (fS N n e):=⟨fun _=>inferInstance⟩
theorem ag5{N:Nat}{l:List (List Qr)}:SV.imp (nw N (slc 1 (l.map (fS N 4 (fQ N))))) (slc 1 (l.map (eS 4 eQ))):=fun M v h=>Ml (e':=fS N 4 (fQ N)) (e:=eS 4 eQ) (fun _=>⟨nwQ,trivial⟩) l M v (e5 M v h)
theorem Jh{l:List (List Qr)}:∀(N:Nat) (M:Mem) (v:Value),(nw N (slc 1 (l.map (fS N 4 (fQ N))))).h M v→(slc 1 (l.map (eS 4 eQ))).h (M.fr N) v:=fun N M v h=>ag5 (M.fr N) v (by
 obtain⟨h1,h2⟩:=h
 rw[←Mem.Jd]at h1
 exact⟨h1,fun g e=>by rw[Mem.Jd];exact h2 g e⟩)
section steps
variable {P:Program}{C:Ctx}{ops:Array Oper}{S:AS}{nd:Bool}{K:List Ac→AS→Prop}{rest:List Oper}{acc:List Ac}{N:Nat}
variable {gd:Option (Nat×Bool)}{rg:List Nat}{d:Nat}{ty:TypeId}{pos:String}{aft:Array Edge}{x y z:Operand}{T U E0:TypeId}
theorem RT.Yx(hg:Gd ops S gd rg){f:FuncId}[bF P f]{g:Operand}{xs:Array Operand}{at_:Array TypeId}{args caps:List SV}{r:SV}(hp:cL P f N (args++caps) r)(hN:N≤C.w0.heap.size)(hf:S.ev g=.sv (iC f caps))(hargs:gN S xs.toList args)(hd:d<S.n)
  (next:RunT P C ops nd K rest (⟨rg++(aq g++xs.toList.flatMap aq),[],[],⟨some (d,.sv r),[],[]⟩⟩::acc) (S.set d (.sv r))):RunT P C ops nd K (⟨some d,.call ⟨.value g,xs,at_⟩,ty,pos,aft,gd⟩::rest) acc S:=by
 refine .inl ⟨_,[],[],_,?_,next⟩
 rintro S' hn ht _ _ i a w L Q ho ⟨E,h⟩ hL
 refine bW (C:=C) ho (hg.wanted h (fun s hs=>ht s (List.mem_append_left _ hs)) rfl) ?_
 have tW:(iC f caps).h E.M (a.eval g):=by
  have h1:=h.ev g;rw[aJ (fun _ h=>List.mem_append_right _ (List.mem_append_left _ h)) ht,hf]at h1;exact h1
 obtain⟨oK,tW,yg⟩:=tW
 have hall:=SV.dH.append (gN.vals h hargs (fun s hs=>ht s (List.mem_append_right _ (List.mem_append_right _ hs)))) yg
 have hr:(execOp a.eval ⟨some d,.call ⟨.value g,xs,at_⟩,ty,pos,aft,gd⟩).run P w=.ok (.enter f ⟨xs.toList.map a.eval++oK⟩) w:=by
  have e2:xs.map a.eval++⟨oK⟩=⟨xs.toList.map a.eval++oK⟩:=by apply Array.ext';simp
  have e1:=bF.run (P:=P) (f:=f) (xs.map a.eval++⟨oK⟩) w
  rw[←e2]
  simp[execOp,resolve,tW,Deferred.ofValue,invoke,e1]
 refine bR (C:=C) (by intro c h;cases h) hr ?_
 refine⟨fun h=>by simp at h,gB ((hp E.M w _ (Nat.le_trans hN h.grown) h.cI hall).mono ?_)⟩
 rintro e w' ⟨v,M',rfl,hM,hnew,hin,hv,hb⟩
 exact hL _ _ ⟨_,(h.grow hM hnew hin hb).put (x:=.sv r) hv (by show d<S'.n;omega) eY⟩
end steps
end Go.Fw
namespace Go.Proofs.YtningmnklfpfjaaGreat
open Go.Fw Go.Fw.Z Go.RowKit
theorem Dm{x0:List Qr}{x1:List Qr}(N:Nat){r:List Qr}(h:jC x0 x1=some r):cL Tryz.prog 95 N [slc 4 (List.map eQ x0),slc 4 (List.map eQ x1),.v (.func (.func 94) #[] #[])] (nw N (slc 4 (List.map (fQ N) r))):=by
 refine aO Tryz.func95 rfl (Nat.le_of_ble_eq_true rfl) (fun cO M vs hN hvs=>?_)
 unfold jC at h
 refine sr<|RT.uf .none (s:=.sv _) rfl T rfl rfl<|aI rfl (aB (N:=N) (n:=4) (e:=(fQ N)))<|dn<|sr<|mv rfl<|lE h fun iI nh h=>ln rfl nh<|mv rfl<|lE h fun iA gW h=>ln rfl gW<|lE h fun fg jv h=>RT.max .none _ rfl rfl T (Im (p:=iI) (q:=iA) jv)<|bE h fun dR fT h=>RT.wO (e:=(fQ N)) .none rfl rfl T rfl T fT<|RT.alloc .none T rfl rfl<|RT.iH (cells:=[_]) .none rfl rfl rfl rfl T rfl<|dn<|qq<|sr ?_
 refine mv rfl<|mv rfl<|cl (mh x0 x1) ⟨rfl,rfl,trivial⟩<|dn<|ak<|bE h fun jl Tr Ts=>?_
 obtain⟨Mh,Tt,Tu,Tv⟩:=jA Tr
 refine fW (mm x0 x1) (fun _ _ _ _ _=>trivial) rfl (fun k=>AS.bJ 29 [(5,.ptr 5 0),(7,.ptr 7 0),(18,.sv (iC 165 [ref [slc 4 (List.map eQ x0)],ref [slc 4 (List.map eQ x1)]]))] [(7,⟨23,[.row 302]⟩),(5,⟨106,[.sv (.v (.func (.func 94) #[] #[]))]⟩)] [(302,TR 43 4 (fQ N) (Mh k))]) [7,5] rfl (fun _=>⟨rfl,rfl⟩) (om rfl) (fun _=>rfl) (oq rfl) (by(try dsimp only);rw[Tt];(try dsimp only);exact cy (fun i=>bif Nat.beq i 302 then 15 else i) rfl rfl rfl rfl rfl ⟨.ptr,.ptr,.sv (SV.aa _),trivial⟩ ⟨⟨_,rfl,⟨.row rfl,trivial⟩⟩,⟨_,rfl,⟨.sv (SV.aa _),trivial⟩⟩,trivial⟩ ⟨⟨_,rfl,bB.refl _⟩,trivial⟩ (fun i hi=>by rw[bp (show i≠302 by omega)];rfl)) (fun k hk D hD=>?_) ?_
 have h:=Tu k hk
 obtain⟨jl,IG⟩:∃q,Mh k=q:=⟨_,rfl⟩
 rw[IG]at h⊢
 dsimp only[AS.L4,oY]
 try dsimp only at h
 obtain⟨⟨⟨CX,CY⟩,⟨CZ,C0⟩⟩,Lc,h⟩:=bS h
 rw[Option.some.inj Lc]
 obtain⟨⟨⟨C1,C2⟩,⟨C3,C4⟩⟩,CL,h⟩:=bS h
 rw[Option.some.inj CL]
 refine sr<|al (cs:=[.v (.bool false),nw N (slc 1 (List.map ah [])),.v (.bool false),nw N (slc 1 (List.map ah []))]) (by exact⟨SV.aa _,aB,SV.aa _,aB,trivial⟩) rfl<|so rfl rfl rfl<|dn<|af<|al (cs:=[.v (.bool false),nw N (slc 1 (List.map ah [])),.v (.bool false),nw N (slc 1 (List.map ah []))]) (by exact⟨SV.aa _,aB,SV.aa _,aB,trivial⟩) rfl<|so rfl rfl rfl<|RT.done ?_
 refine ae.n ⟨rfl,?_⟩
 dsimp only[AS.yy]
 refine ak<|ai mixed<|RT.c7 .none (s:=.row _) rfl rfl rfl T<|lV rfl rfl rfl<|ld rfl rfl (.cons rfl (.cons rfl (.cons rfl (.cons rfl (.nil)))))<|ld rfl rfl (.cons rfl (.cons rfl (.cons rfl (.cons rfl (.nil))))) ?_
 obtain⟨⟨⟨iL,iB⟩,⟨nU,nV⟩⟩,qc,h⟩:=bS h
 refine RT.aX .none (Jf N qc) (Nat.le_trans hN hD) rfl ⟨rfl,rfl,trivial⟩ T<|bl (l:=[⟨⟨iL,iB⟩,⟨nU,nV⟩⟩]) (e:=(fQ N)) (.agg rfl (.nil)) rfl rfl rfl rfl rfl rfl<|bE h fun lq oU h=>aR (k:=[⟨⟨iL,iB⟩,⟨nU,nV⟩⟩]) (e:=(fQ N)) rfl rfl rfl oU<|RT.iH (cells:=[_]) .none rfl rfl rfl rfl T rfl ?_
 refine RT.done ⟨by kernel_rfl,?_⟩
 refine aK.n ?_
 replace h:=Option.some.inj h
 refine⟨trivial,rfl,rfl,?_⟩
 try dsimp only
 rw[←h]
 try dsimp only
 exact cy (fun i=>bif Nat.beq i 302 then 27 else i) rfl rfl rfl rfl rfl ⟨.ptr,.ptr,.sv (SV.aa _),trivial⟩ ⟨⟨_,rfl,⟨.row rfl,trivial⟩⟩,⟨_,rfl,⟨.sv (SV.aa _),trivial⟩⟩,trivial⟩ ⟨⟨_,rfl,bB.refl _⟩,trivial⟩ (fun i hi=>by rw[bp (show i≠302 by omega)];rfl)
 rw[Tv]
 try dsimp only
 refine aK.n<|ae.n<|sr<|RT.c7 .none (s:=.row _) rfl rfl rfl T<|an (s:=.row _) rfl<|dn<|jm (i:=302) (E1:=43) (n:=4) (e:=(fQ N)) (l:=jl) hN (fun _ h=>h) rfl<|aj ?_
 obtain rfl:=O Ts
 exact R1 rfl
theorem xO{x0:Qr}{x1:Qr}{Ev:Qr}(N:Nat){r:Qr}(h:gY x0 x1 Ev=some r):cL Tryz.prog 141 N [.agg (eQ x0),.agg (eQ x1),ref (eQ Ev)] (.agg ((fQ N) r)):=by
 obtain⟨⟨aC,aD⟩,⟨aM,aN⟩⟩:=x0
 obtain⟨⟨bN,bL⟩,⟨gy,gz⟩⟩:=x1
 obtain⟨⟨Ff,Fg⟩,⟨Fh,Fi⟩⟩:=Ev
 refine aO Tryz.func141 rfl (Nat.le_of_ble_eq_true rfl) (fun cO M vs hN hvs=>?_)
 unfold gY at h
 refine sr<|bx rfl<|bx rfl<|al (cs:=[.v (.bool false),nw N (slc 1 (List.map ah [])),.v (.bool false),nw N (slc 1 (List.map ah []))]) (by exact⟨SV.aa _,aB,SV.aa _,aB,trivial⟩) rfl<|dn<|qq<|ai mixed<|RT.iW (cs:=[_,_,_,_]) .none rfl T rfl rfl<|ld rfl rfl (.cons rfl (.cons rfl (.cons rfl (.cons rfl (.nil))))) ?_
 obtain⟨⟨⟨wE,wF⟩,⟨Bf,Bg⟩⟩,h8,h⟩:=bS h
 refine RT.aX .none (Jg N h8) hN rfl ⟨rfl,rfl,trivial⟩ T<|ld rfl rfl (.cons rfl (.cons rfl (.cons rfl (.cons rfl (.nil))))) ?_
 obtain⟨⟨⟨CB,CC⟩,⟨Qv,Qw⟩⟩,gC,h⟩:=bS h
 refine RT.aX .none ((Je N gC).w (args':=[_,_]) ⟨(SV.jS (show bB [.v (.bool wE),nw N (slc 1 (List.map ah wF)),.v (.bool Bf),nw N (slc 1 (List.map ah Bg))] _ from⟨(SV.aa _),e5,(SV.aa _),e5,trivial⟩)),(SV.aa _),trivial⟩) hN rfl ⟨rfl,rfl,trivial⟩ T<|so rfl rfl rfl ?_
 refine RT.done ⟨by kernel_rfl,?_⟩
 refine ae.n<|aj ?_
 obtain rfl:=O h
 exact RZ (.agg rfl rfl (.cons rfl (.cons rfl (.cons rfl (.cons rfl (.nil))))) rfl (.nil))
theorem y9{x0:List Qr}{x1:List Qr}{GJ:Qr}(N:Nat){r:List Qr}(h:gA x0 x1 GJ=some r):cL Tryz.prog 95 N [slc 4 (List.map eQ x0),slc 4 (List.map eQ x1),iC 141 [ref (eQ GJ)]] (nw N (slc 4 (List.map (fQ N) r))):=by
 obtain⟨⟨C5,C6⟩,⟨C7,C8⟩⟩:=GJ
 refine aO Tryz.func95 rfl (Nat.le_of_ble_eq_true rfl) (fun cO M vs hN hvs=>?_)
 unfold gA at h
 refine sr<|RT.uf .none (s:=.sv _) rfl T rfl rfl<|aI rfl (aB (N:=N) (n:=4) (e:=(fQ N)))<|dn<|sr<|mv rfl<|lE h fun iI nh h=>ln rfl nh<|mv rfl<|lE h fun iA gW h=>ln rfl gW<|lE h fun fg jv h=>RT.max .none _ rfl rfl T (Im (p:=iI) (q:=iA) jv)<|bE h fun dR fT h=>RT.wO (e:=(fQ N)) .none rfl rfl T rfl T fT<|RT.alloc .none T rfl rfl<|RT.iH (cells:=[_]) .none rfl rfl rfl rfl T rfl<|dn<|qq<|sr ?_
 refine mv rfl<|mv rfl<|cl (mh x0 x1) ⟨rfl,rfl,trivial⟩<|dn<|ak<|bE h fun jl Tr Ts=>?_
 obtain⟨Mh,Tt,Tu,Tv⟩:=jA Tr
 refine fW (mm x0 x1) (fun _ _ _ _ _=>trivial) rfl (fun k=>AS.bJ 29 [(5,.ptr 5 0),(7,.ptr 7 0),(18,.sv (iC 165 [ref [slc 4 (List.map eQ x0)],ref [slc 4 (List.map eQ x1)]]))] [(7,⟨23,[.row 302]⟩),(5,⟨106,[.sv (iC 141 [ref [.v (.bool C5),slc 1 (List.map ah C6),.v (.bool C7),slc 1 (List.map ah C8)]])]⟩)] [(302,TR 43 4 (fQ N) (Mh k))]) [7,5] rfl (fun _=>⟨rfl,rfl⟩) (om rfl) (fun _=>rfl) (oq rfl) (by(try dsimp only);rw[Tt];(try dsimp only);exact cy (fun i=>bif Nat.beq i 302 then 15 else i) rfl rfl rfl rfl rfl ⟨.ptr,.ptr,.sv (SV.aa _),trivial⟩ ⟨⟨_,rfl,⟨.row rfl,trivial⟩⟩,⟨_,rfl,⟨.sv (SV.aa _),trivial⟩⟩,trivial⟩ ⟨⟨_,rfl,bB.refl _⟩,trivial⟩ (fun i hi=>by rw[bp (show i≠302 by omega)];rfl)) (fun k hk D hD=>?_) ?_
 have h:=Tu k hk
 obtain⟨jl,IG⟩:∃q,Mh k=q:=⟨_,rfl⟩
 rw[IG]at h⊢
 dsimp only[AS.L4,oY]
 try dsimp only at h
 obtain⟨⟨⟨CX,CY⟩,⟨CZ,C0⟩⟩,Lc,h⟩:=bS h
 rw[Option.some.inj Lc]
 obtain⟨⟨⟨C1,C2⟩,⟨C3,C4⟩⟩,CL,h⟩:=bS h
 rw[Option.some.inj CL]
 refine sr<|al (cs:=[.v (.bool false),nw N (slc 1 (List.map ah [])),.v (.bool false),nw N (slc 1 (List.map ah []))]) (by exact⟨SV.aa _,aB,SV.aa _,aB,trivial⟩) rfl<|so rfl rfl rfl<|dn<|af<|al (cs:=[.v (.bool false),nw N (slc 1 (List.map ah [])),.v (.bool false),nw N (slc 1 (List.map ah []))]) (by exact⟨SV.aa _,aB,SV.aa _,aB,trivial⟩) rfl<|so rfl rfl rfl<|RT.done ?_
 refine ae.n ⟨rfl,?_⟩
 dsimp only[AS.yy]
 refine ak<|ai mixed<|RT.c7 .none (s:=.row _) rfl rfl rfl T<|lV rfl rfl rfl<|ld rfl rfl (.cons rfl (.cons rfl (.cons rfl (.cons rfl (.nil)))))<|ld rfl rfl (.cons rfl (.cons rfl (.cons rfl (.cons rfl (.nil))))) ?_
 obtain⟨⟨⟨iL,iB⟩,⟨nU,nV⟩⟩,qc,h⟩:=bS h
 refine RT.Yx (args:=[_,_]) (caps:=[_]) .none (xO N qc) (Nat.le_trans hN hD) rfl ⟨rfl,rfl,trivial⟩ T<|bl (l:=[⟨⟨iL,iB⟩,⟨nU,nV⟩⟩]) (e:=(fQ N)) (.agg rfl (.nil)) rfl rfl rfl rfl rfl rfl<|bE h fun lq oU h=>aR (k:=[⟨⟨iL,iB⟩,⟨nU,nV⟩⟩]) (e:=(fQ N)) rfl rfl rfl oU<|RT.iH (cells:=[_]) .none rfl rfl rfl rfl T rfl ?_
 refine RT.done ⟨by kernel_rfl,?_⟩
 refine aK.n ?_
 replace h:=Option.some.inj h
 refine⟨trivial,rfl,rfl,?_⟩
 try dsimp only
 rw[←h]
 try dsimp only
 exact cy (fun i=>bif Nat.beq i 302 then 27 else i) rfl rfl rfl rfl rfl ⟨.ptr,.ptr,.sv (SV.aa _),trivial⟩ ⟨⟨_,rfl,⟨.row rfl,trivial⟩⟩,⟨_,rfl,⟨.sv (SV.aa _),trivial⟩⟩,trivial⟩ ⟨⟨_,rfl,bB.refl _⟩,trivial⟩ (fun i hi=>by rw[bp (show i≠302 by omega)];rfl)
 rw[Tv]
 try dsimp only
 refine aK.n<|ae.n<|sr<|RT.c7 .none (s:=.row _) rfl rfl rfl T<|an (s:=.row _) rfl<|dn<|jm (i:=302) (E1:=43) (n:=4) (e:=(fQ N)) (l:=jl) hN (fun _ h=>h) rfl<|aj ?_
 obtain rfl:=O Ts
 exact R1 rfl
theorem Ae{x0:Qr}{x1:List Qr}{x2:List Qr}(N:Nat){r:List Qr}(h:eO x0 x1 x2=some r):cL Tryz.prog 96 N [.agg (eQ x0),slc 4 (List.map eQ x1),slc 4 (List.map eQ x2)] (nw N (slc 4 (List.map (fQ N) r))):=by
 obtain⟨⟨aC,aD⟩,⟨aM,aN⟩⟩:=x0
 refine aO Tryz.func96 rfl (Nat.le_of_ble_eq_true rfl) (fun cO M vs hN hvs=>?_)
 unfold eO at h
 refine sr<|bx rfl<|aI rfl (aB (N:=N) (n:=4) (e:=(fQ N)))<|dn ?_
 refine bt (gw (i:=3) rfl [.v (.bool aC),slc 1 (List.map ah aD),.v (.bool aM),slc 1 (List.map ah aN)] (.cons rfl (.cons rfl (.cons rfl (.cons rfl (.nil))))) .any 0 [(3,.sv (ref [.v (.bool aC),slc 1 (List.map ah aD),.v (.bool aM),slc 1 (List.map ah aN)]))] (fun _ _ _=>trivial) (qN.h (l:=[.v (.bool aC),slc 1 (List.map ah aD),.v (.bool aM),slc 1 (List.map ah aN)])) ⟨@FT.ptr _ _ _ _ _ 3 0 rfl,trivial⟩)<|sr<|mv rfl<|mv rfl<|RT.vR (caps:=[_]) .none ⟨rfl,trivial⟩ T<|bE h fun ek gC h=>?_
 refine RT.aX .none (y9 N gC) hN rfl ⟨rfl,rfl,rfl,trivial⟩ T<|ag rfl<|dn<|aj ?_
 obtain rfl:=O h
 exact R1 rfl
theorem Lk{x0:List Qr}{x1:List Qr}(N:Nat){r:List Qr}(h:nj x0 x1=some r):cL Tryz.prog 50 N [slc 4 (List.map eQ x0),slc 4 (List.map eQ x1)] (nw N (slc 4 (List.map (fQ N) r))):=by
 refine aO Tryz.func50 rfl (Nat.le_of_ble_eq_true rfl) (fun cO M vs hN hvs=>?_)
 unfold nj at h
 refine sr<|aI rfl (aB (N:=N) (n:=4) (e:=(fQ N)))<|dn<|sr<|mv rfl<|mv rfl<|bE h fun x7 h7 h=>RT.aX .none (Dm N h7) hN rfl ⟨rfl,rfl,rfl,trivial⟩ T<|ag rfl<|dn<|aj ?_
 obtain rfl:=O h
 exact R1 rfl
theorem Ex{x0:List Qr}{x1:Int}(N:Nat){r:List Qr}(h:fY x0 x1=some r):cL Tryz.prog 47 N [slc 4 (List.map eQ x0),.v (.int .i64 x1)] (nw N (slc 4 (List.map (fQ N) r))):=by
 refine aO Tryz.func47 rfl (Nat.le_of_ble_eq_true rfl) (fun cO M vs hN hvs=>?_)
 unfold fY at h
 refine sr<|aI rfl (aB (N:=N) (n:=4) (e:=(fQ N)))<|dn<|qq<|sr<|mv rfl<|lE h fun x8 h8 h=>ls _ rfl rfl h8<|dn ?_
 cases x8
 refine fs<|sr<|mv rfl<|lE (F h) fun ek gC h=>RT.min .none _ rfl rfl T (O2 (p:=x1) (q:=65536) gC)<|bE h fun iI nh h=>RT.kW (n:=4) (e:=(fQ N)) .none rfl rfl T rfl T (by rfl) (by decide) (by exact⟨SV.aa _,aB,SV.aa _,aB,trivial⟩) nh<|an (s:=.row _) rfl<|dn<|qq<|sr<|mv rfl<|lE h fun iA gW h=>ln rfl gW<|mo (s:=.row _) rfl<|lE h fun dR fT h=>lL rfl rfl fT<|lE h fun iY kX h=>?_
 refine RT.min .none _ rfl rfl T (O2 (p:=iA) (q:=dR) kX)<|mv rfl<|dn<|bE h fun e8 Gr yM=>?_
 refine aT (fun(rP:(List Qr))=>AS.bJ 30 [(5,.row 11)] [] [(11,TR 43 4 (fQ N) rP)]) (fun rP=>rP=e8) ?_ (fun rP Gs=>?_)
 refine ak ?_
 refine aU Gr (fun s8=>AS.bJ 30 [(0,.sv (slc 4 (List.map eQ x0))),(5,.row 11),(16,.sv (.v (.int .i64 iY))),(17,.sv (.v (.int .i64 s8.1)))] [] [(11,TR 43 4 (fQ N) s8.2)]) (wR []) (fun s8 y8 G8 h Gt Gu=>?_)
 obtain⟨Fj,Da⟩:=s8
 try dsimp only
 refine sr<|lE h fun fF iM h=>ls _ rfl rfl iM<|dn<|qq ?_
 cases fF
 refine cF<|bf<|ae.x<|ae.x<|aK.x<|ae.n ?_
 obtain rfl:=O (F h)
 exact⟨Da,Gu _ rfl,wR []⟩
 refine cT<|aH<|ae.n<|qq<|ak<|sr<|mv rfl<|ag rfl<|dn<|af<|mo (s:=.row _) rfl<|mv rfl<|mv rfl<|mv rfl ?_
 obtain⟨⟨⟨rL,rM⟩,⟨rN,rO⟩⟩,mP,h⟩:=bS (V h)
 refine ix rfl rfl mP<|RT.iW (cs:=[_,_,_,_]) .none rfl T rfl rfl ?_
 obtain⟨⟨⟨I2,I3⟩,⟨I4,I5⟩⟩,oQ,h⟩:=bS h
 refine RT.aX .none (qG N oQ) hN rfl ⟨rfl,trivial⟩ T<|bE h fun lq oU h=>iR rfl rfl rfl oU<|bE h fun yC pg h=>sA ⟨⟨I2,I3⟩,⟨I4,I5⟩⟩ rfl rfl rfl pg<|RT.done<|aK.n<|ae.n<|af<|lE h fun oM sS h=>ad _ rfl rfl sS<|mv rfl<|RT.done ?_
 obtain rfl:=O h
 exact ae.n ⟨(oM,yC),Gt _ rfl,wR []⟩
 subst Gs
 try dsimp only
 refine ae.n<|sr<|mo (s:=.row _) rfl<|an (s:=.row _) rfl<|dn<|jm (i:=11) (E1:=43) (n:=4) (e:=(fQ N)) (l:=rP) hN (fun _ h=>h) rfl<|aj ?_
 obtain rfl:=O yM
 exact R1 rfl
 refine cT<|sr<|aI rfl (aB (N:=N) (n:=4) (e:=(fQ N)))<|dn<|aj<|ae.r ?_
 obtain rfl:=O (V h)
 exact R1 rfl
end Go.Proofs.YtningmnklfpfjaaGreat
namespace Go.Fw
open Go.RowKit
def AL(P:Program)(f:FuncId)(args:Nat→List AV)(T:TypeId)(c:List Oc)(Post:Nat→Mem→World→Value→Prop):Prop:=
 ∀(M:Mem) (w:World) (β:Nat) (vs us:List Value),M.cI w→qC M w β T c us→cS (pJ M β) (args β) vs→
  Calls P f ⟨vs⟩ w fun e w'=>∃v M',e=.returned v∧M.le M'∧(∀b o x,M' b o=some x→M b o=some x∨w.heap.size≤b)∧M'.cI w'∧Post w.heap.size M' w' v∧
   qC M' w' β T c us∧w'.os=w.os∧w'.tape=w.tape∧w'.output=w.output∧w.heap.size≤w'.heap.size∧∀k,k<w.heap.size→k≠β→¬ec c us k→w'.heap[k]? =w.heap[k]?
def TJ(R:Row)(n:Nat)(M':Mem)(w':World)(v:Value):Prop:=∃us,w'.ownsRow 0 R.E R.sz v R.n us∧SV.dH M' R.cells us∧∀g,v.ownBlock=some g→n≤g∧∀o,M' g o=none
theorem AM{P:Program}{f:FuncId}{fn:Func}{code:Code}{args:Nat→List AV}{T:TypeId}{c:List Oc}{Post:Nat→Mem→World→Value→Prop}(ids:List Nat)(hf:P.funcs[f]? =some fn)(hb:fn.body=some code)(hn:∀β,(args β).length≤fn.ntmps)(Fk:∀β,(args β).all AV.oy=true)(zG:ids.Nodup)(Oo:ids.length=(rowsOf c).length)(hge:(ids.all fun i=>Nat.ble 1000 i)=true)(Li:Ab c)(Rq:AS→Prop)
  (h:∀(w:World) (M:Mem) (β:Nat) (us:List Value),Ok P (Jc w M β c us ids hge) code (AS.A0 fn.ntmps (args β) [(1000,⟨T,bG ids c⟩)] (ids.zip (rowsOf c))) (fun e S=>(e=.normal∨e=.ret)∧Rq S∧S.b 1000=some ⟨T,bG ids c⟩∧Lv S ids (rowsOf c)))
  (hr:∀(w:World) (M:Mem) (β:Nat) (us:List Value) (S':AS) (E:Env) (a:Act) (w':World),Rq S'→az (Jc w M β c us ids hge) S' E a w'→S'.b 1000=some ⟨T,bG ids c⟩→(∀g,ec c us g→∃j∈ids,(E.ν j).ownBlock=some g)→(∀j∈ids,∃R,S'.r j=.live R)→∃v,(results fn a.tmps).run P w'=.ok v w'∧Post w.heap.size E.M w' v):AL P f args T c Post:=by
 intro M w β vs us hM ho hv
 have Yn:(bu c us).length=(rowsOf c).length:=by rw[←gp ho.al,List.length_map]
 have hnd:((ids.zip (bu c us)).map (·.1)).Nodup:=by rw[yW (by omega)];exact zG
 have OT:az (Jc w M β c us ids hge) (AS.A0 fn.ntmps (args β) [(1000,⟨T,bG ids c⟩)] (ids.zip (rowsOf c))) ⟨fun _=>β,kZ (ids.zip (bu c us)) (fun _=>.nilIface),fun _=>False,M⟩ {tmps:=⟨vs⟩++Array.replicate (fn.ntmps-(⟨vs⟩:Array Value).size) undef,defers:=[]} w:=by
  have h0:=GL (n:=fn.ntmps) ids hM ho hv (Fk β) (hn β) zG Oo
  exact{wf:=h0.wf,marks:=h0.marks,size:=h0.size,os:=h0.os,tape:=h0.tape,output:=h0.output,grown:=h0.grown,frame:=h0.frame,m0:=h0.m0,eu:=h0.eu,cI:=h0.cI,tm:=h0.tm,bx:=h0.bx,inj:=h0.inj,rx:=h0.rx,eW:=h0.eW,gP:=h0.gP,dQ:=fun i v e=>(by
   obtain⟨R,hm⟩:=BH e
   exact iP hnd hm),lj:=h0.lj,jj:=trivial}
 refine gh rfl hf hb OT (h w M β us) ?_
 rintro S' E a w' ⟨hq,hB,hL⟩ hh
 have hβ:E.β 1000=β:=hh.gP 1000 β rfl
 obtain⟨us',ho',ju⟩:=nY hh hB hL zG
 rw[hβ]at ho'
 obtain⟨_,_,_,OL,q2,q3⟩:=hh.bx 1000 _ hB
 rw[hβ,ho'.hp]at q2
 obtain rfl:us'=OL:=by
  have:=Option.some.inj q2
  injection this with e
  injection e
 obtain⟨_,Yr⟩:=rR hh hL q3
 have jt:bu c us=bu c us':=by
  rw[Yr]
  have key:∀(ids:List Nat) (l:List (Row×Value)) (Rs:List Row),ids.length=l.length→l.map (·.1)=Rs→(∀i R v,(i,R,v)∈ids.zip l→E.ν i=v)→l=Rs.zip (ids.map E.ν):=by
   intro ids
   induction ids with
   |nil=>intro l Rs hl hm _;cases l with|nil=>cases hm;rfl|cons _ _=>simp at hl
   |cons i ids ih=>
    intro l Rs hl hm hν
    cases l with
    |nil=>simp at hl
    |cons p l=>
     cases hm
     obtain⟨R,v⟩:=p
     rw[List.map_cons,List.map_cons,List.zip_cons_cons,hν i R v (by rw[List.zip_cons_cons];simp),←ih l _ (by simpa using hl) rfl (fun i R v hm=>hν i R v (by rw[List.zip_cons_cons];exact List.mem_cons_of_mem _ hm))]
  exact key ids _ _ (by omega) (gp ho.al) (fun i R v hm=>hh.dQ i v (Lg hnd hm))
 obtain rfl:us=us':=BI Li ho.al ho'.al jt
 obtain⟨v,hv,hx⟩:=hr w M β us S' E a w' hq hh hB (fun g hg=>(ju g).1 hg) (fun j hj=>hL.mem j hj)
 refine⟨v,hv,v,E.M,rfl,hh.m0,fun b o x e=>?_,hh.cI,hx,ho',hh.os,hh.tape,hh.output,hh.grown,fun k hk hne hno=>hh.frame k hk (fun e=>e.elim hne hno)⟩
 rcases hh.eu b o x e with q|q|q|q
 ·exact .inl q
 ·exact .inr q
 ·rw[show b=β from q,ho'.nb o]at e;cases e
 ·rw[(ho'.nr b q).2 o]at e;cases e
theorem QI{P:Program}{w:World}{M:Mem}{β:Nat}{c:List Oc}{us:List Value}{ids:List Nat}{hge:(ids.all fun i=>Nat.ble 1000 i)=true}{S':AS}{E:Env}{a:Act}{w':World}{B:oG}(hh:az (Jc w M β c us ids hge) S' E a w')(hB:S'.b 1000=some B)(ju:∀g,ec c us g→∃j∈ids,(E.ν j).ownBlock=some g)(hlv:∀j∈ids,∃R,S'.r j=.live R)
  {k:Nat} {R:Row} (hR:S'.r k=.live R) (hk:k∉ids) (g:Nat) (hg:(E.ν k).ownBlock=some g):w.heap.size≤g:=by
 obtain⟨_,q3⟩:=hh.rx k R hR
 obtain⟨q4,q5,_,q7⟩:=q3 g hg
 rcases q4 with q4|q4|q4
 ·exact q4
 ·have h1:E.β 1000=β:=hh.gP 1000 β rfl
  exact absurd (h1.trans (show β=g from(show g=β from q4).symm)) (q7 1000 B hB)
 ·obtain⟨j,hj,xn⟩:=ju g q4
  obtain⟨R',mY⟩:=hlv j hj
  have:=hh.eW k j R R' hR mY g hg xn
  subst this;exact absurd hj hk
theorem AN{P:Program}{f:FuncId}{fn:Func}{code:Code}{args:Nat→List AV}{T:TypeId}{c:List Oc}{R:Row}(ids:List Nat)(hf:P.funcs[f]? =some fn)(hb:fn.body=some code)(hn:∀β,(args β).length≤fn.ntmps)(Fk:∀β,(args β).all AV.oy=true)(zG:ids.Nodup)(Oo:ids.length=(rowsOf c).length)(hge:(ids.all fun i=>Nat.ble 1000 i)=true)(Li:Ab c)
  (h:∀(w:World) (M:Mem) (β:Nat) (us:List Value),Ok P (Jc w M β c us ids hge) code (AS.A0 fn.ntmps (args β) [(1000,⟨T,bG ids c⟩)] (ids.zip (rowsOf c))) (fun e S=>(e=.normal∨e=.ret)∧(∃k,yq P S fn.results.toList (.row k)∧S.r k=.live R∧k∉ids)∧S.b 1000=some ⟨T,bG ids c⟩∧Lv S ids (rowsOf c))):AL P f args T c (TJ R):=
 AM ids hf hb hn Fk zG Oo hge Li _ h (fun w M β us S' E a w' ⟨k,hr,hR,hk⟩ hh hB ju hlv=>by
  obtain⟨v,hv,hx⟩:=hr.run hh
  obtain⟨⟨OL,q1,q2⟩,q3⟩:=hh.rx k R hR
  have hx:v=E.ν k:=hx
  subst hx
  exact⟨_,hv,OL,q1,q2,fun g hg=>⟨QI (P:=P) hh hB ju hlv hR hk g hg,(q3 g hg).2.1⟩⟩)
section steps
variable {P:Program}{C:Ctx}{ops:Array Oper}{S:AS}{nd:Bool}{K:List Ac→AS→Prop}{rest:List Oper}{acc:List Ac}
variable {gd:Option (Nat×Bool)}{rg:List Nat}{d:Nat}{ty:TypeId}{pos:String}{aft:Array Edge}{x y z:Operand}{T U E0:TypeId}
theorem RT.Mm(hg:Gd ops S gd rg){f:FuncId}[bF P f]{g:Operand}{xs:Array Operand}{at_:Array TypeId}{args:List AV}{T:TypeId}{c:List Oc}{R:Row}(hp:AL P f (fun _=>args) T c (TJ R))(i:Nat)(js:List Nat)(hB:S.b i=some ⟨T,bG js c⟩)(hL:Lv S js (rowsOf c))(QC:js.Nodup)
  (Fk:args.all AV.oy=true) (hf:S.ev g=.sv (.v (.func (.func f) #[] #[]))) (hargs:ur S xs.toList (args.map (AV.Ty i))) (hd:d<S.n) (yp:S.r d=.un) (wL:d<1000)
  (next:RunT P C ops nd K rest (⟨rg++(aq g++xs.toList.flatMap aq),[i],d::js,⟨some (d,.row d),[],[(d,.live R)]⟩⟩::acc) ((AS.bC [(d,.live R)] S).set d (.row d))):RunT P C ops nd K (⟨some d,.call ⟨.value g,xs,at_⟩,ty,pos,aft,gd⟩::rest) acc S:=by
 refine .inl ⟨_,[i],d::js,_,?_,next⟩
 rintro S' hn ht hb hr k a w L Q ho ⟨E,h⟩ Yo
 refine bW (C:=C) ho (hg.wanted h (fun s hs=>ht s (List.mem_append_left _ hs)) rfl) ?_
 have tW:a.eval g=.func (.func f) #[] ⟨[]⟩:=by
  have h1:=h.ev g;rw[aJ (fun _ h=>List.mem_append_right _ (List.mem_append_left _ h)) ht,hf]at h1;exact h1
 have hall:=yX Fk (ur.vals h hargs (fun s hs=>ht s (List.mem_append_right _ (List.mem_append_right _ hs))))
 have fu:S'.b i=some ⟨T,bG js c⟩:=by rw[hb i (by simp)];exact hB
 have QD:Lv S' js (rowsOf c):=hL.congr (fun k hk=>hr k (List.mem_cons_of_mem _ hk))
 have Kv:S'.r d=.un:=by rw[hr d (by simp)];exact yp
 obtain⟨us,Mi,AI⟩:=nY h fu QD QC
 refine bR (C:=C) (by intro c h;cases h) (l8 tW) ?_
 rw[List.append_nil]
 refine⟨fun h=>by simp at h,gB ((hp E.M w (E.β i) _ us h.cI Mi hall).mono ?_)⟩
 rintro e w' ⟨v,M',rfl,hM,hnew,hin,⟨OL,hv,hc,hfr⟩,Kk,hos,pE,hout,hsize,ju⟩
 have h1:=(h.GN fu QD QC Mi hM hnew hin Kk hos pE hout hsize ju).Bz Kv wL [] none (.inl ⟨rfl,rfl⟩) (R':=R) hv hc (fun g hg=>.inr (h.yw (hfr g hg).1 (hfr g hg).2)) (oX w' none)
 refine Yo _ _ ⟨_,h1.put (x:=.row d) (v:=v) (by simp[AV.holds]) (by show d<S'.n;omega) ⟨fun _ e=>e.elim,fun j e=>?_⟩⟩
 cases e
 show(AS.oV S' d _).r d≠_
 rw[AS.gU];simp
end steps
end Go.Fw
namespace Go.Fw
open Go.RowKit
section
variable {P:Program}{C:Ctx}{S:AS}{Q:Exit→AS→Prop}
def Mem.ct(M:Mem)(N1 N2:Nat):Mem:=fun b o=>if N1≤b∧b<N2 then none else M b o
def KpS(N1 N2:Nat)(s s':SV):Prop:=∀M v,s.h M v→s'.h (M.ct N1 N2) v
inductive Yy (N1 N2:Nat):AV→AV→Prop
 |sv {s s':SV} (h:KpS N1 N2 s s'):Yy N1 N2 (.sv s) (.sv s')
 |ptr {i o:Nat}:Yy N1 N2 (.ptr i o) (.ptr i o)
theorem Yy.holds{N1 N2:Nat}{x y:AV}{E:Env}{v:Value}(h:Yy N1 N2 x y)(hx:x.holds E v):y.holds {E with M:=E.M.ct N1 N2} v:=by
 cases h with
 |sv h=>exact h _ _ hx
 |ptr=>exact hx
def NI(N1 N2:Nat):List AV→List AV→Prop
 |[],[]=>True
 |x::l,y::l'=>Yy N1 N2 x y∧NI N1 N2 l l'
 |_,_=>False
theorem NI.holds{N1 N2:Nat}{E:Env}:∀{l l':List AV} {vs:List Value},NI N1 N2 l l'→cS E l vs→cS {E with M:=E.M.ct N1 N2} l' vs
 |[],[],[],_,_=>trivial
 |_::_,_::_,_::_,h,hv=>⟨h.1.holds hv.1,NI.holds h.2 hv.2⟩
 |[],[],_::_,_,hv=>hv.elim
 |_::_,_::_,[],_,hv=>hv.elim
 |[],_::_,_,h,_=>h.elim
 |_::_,[],_,h,_=>h.elim
def TsK(N1 N2:Nat)(S:AS):List (Nat×AV)→Prop
 |[]=>True
 |(k,x)::l=>Yy N1 N2 (S.t k) x∧TsK N1 N2 S l
def BsK(N1 N2:Nat)(S:AS):List (Nat×oG)→Prop
 |[]=>True
 |(k,x)::l=>(∃cs,S.b k=some ⟨x.T,cs⟩∧NI N1 N2 cs x.cells)∧BsK N1 N2 S l
theorem TsK.mem{N1 N2:Nat}{S:AS}:∀{l:List (Nat×AV)},TsK N1 N2 S l→∀p∈l,Yy N1 N2 (S.t p.1) p.2
 |_::_,h,p,hp=>by
  rcases List.mem_cons.1 hp with rfl|hp
  ·exact h.1
  ·exact TsK.mem h.2 p hp
theorem BsK.mem{N1 N2:Nat}{S:AS}:∀{l:List (Nat×oG)},BsK N1 N2 S l→∀p∈l,∃cs,S.b p.1=some ⟨p.2.T,cs⟩∧NI N1 N2 cs p.2.cells
 |_::_,h,p,hp=>by
  rcases List.mem_cons.1 hp with rfl|hp
  ·exact h.1
  ·exact BsK.mem h.2 p hp
end
section
variable {P:Program}{C:Ctx}{ops:Array Oper}{S:AS}{K:List Ac→AS→Prop}{rest:List Oper}{acc:List Ac}
variable {gd:Option (Nat×Bool)}{rg:List Nat}{d:Nat}{ty:TypeId}{pos:String}{aft:Array Edge}{x y z:Operand}{T U E0:TypeId}
end
end Go.Fw
namespace Go.Fw
open Go.RowKit
structure SpD where
 W:World
 Mx:Mem
 b0:Nat
 o0:Nat
 n:Nat
 sz:Nat
 hin:Mx.cI W
 hb:0<n→∃o,Mx b0 o=some (.agg #[])
 cell:∀i k,i<n→k<sz→∃y,Mx b0 (o0+i*sz+k)=some y∧y.oneCell'=true
def Ow(D:SpD)(b:Nat):Prop:=∃o,D.Mx b o=some (.agg #[])
def Fm(D:SpD)(g:Nat)(w:World):Prop:=
 (∀i k y,g≤i→i<D.n→k<D.sz→D.Mx D.b0 (D.o0+i*D.sz+k)=some y→w.cell? ⟨D.b0,D.o0+i*D.sz+k,none⟩=some y)∧
 ∀b,Ow D b→∃us vs T,D.W.heap[b]? =some (.cells ⟨us⟩ T (0,0))∧w.heap[b]? =some (.cells ⟨vs⟩ T (0,0))∧vs.length=us.length
theorem Fm.same{D:SpD}{g:Nat}{w w':World}(h:Fm D g w)(hs:∀b,Ow D b→w'.heap[b]? =w.heap[b]?):Fm D g w':=by
 refine⟨fun i k y h1 h2 h3 h4=>?_,fun b hb=>?_⟩
 ·rw[World.cell?_of_block (w:=w) (a:=⟨D.b0,D.o0+i*D.sz+k,none⟩) (hs _ (D.hb (by omega)))]
  exact h.1 i k y h1 h2 h3 h4
 ·obtain⟨us,vs,T,q1,q2,q3⟩:=h.2 b hb
  exact⟨us,vs,T,q1,by rw[hs b hb];exact q2,q3⟩
section
variable {P:Program}{D:SpD}{M0:Mem}{S:AS}
theorem Mn:∀(xs:List Value) (l:List Value) (k:Nat),(lC l k xs).length=l.length
 |[],_,_=>rfl
 |x::xs,l,k=>by rw[lC,Mn xs];simp
theorem Mo:∀(xs:List Value) (l:List Value) (k j:Nat),(j<k∨k+xs.length≤j)→(lC l k xs)[j]? =l[j]?
 |[],_,_,_,_=>rfl
 |x::xs,l,k,j,h=>by
  rw[List.length_cons]at h
  rw[lC,Mo xs _ _ _ (by omega),List.getElem?_set,if_neg (by omega)]
theorem Fm.put{g g':Nat}{w:World}(h:Fm D g w)(hg:g≤g'){b o:Nat}{us vs:List Value}{T:TypeId}(hw:w.heap[b]? =some (.cells ⟨vs⟩ T (0,0)))
  (hne:∀i k,g'≤i→i<D.n→k<D.sz→b=D.b0→D.o0+i*D.sz+k<o∨o+us.length≤D.o0+i*D.sz+k):Fm D g' (fL w b (lC vs o us) T):=by
 refine⟨fun i k y h1 h2 h3 h4=>?_,fun b' hb=>?_⟩
 ·have e:=h.1 i k y (Nat.le_trans hg h1) h2 h3 h4
  by_cases hb:D.b0=b
  ·subst hb
   have q:=hne i k h1 h2 h3 rfl
   simp only[World.cell?,hw]at e
   simp only[World.cell?,rA hw]
   simp only[Option.isSome_none,Bool.false_eq_true,if_false,List.getElem?_toArray]at e⊢
   rw[Mo us vs o _ q];exact e
  ·rw[World.cell?_of_block (w:=w) (a:=⟨D.b0,D.o0+i*D.sz+k,none⟩) (fV hb)];exact e
 ·obtain⟨TC,Oh,T0,q1,q2,q3⟩:=h.2 b' hb
  by_cases e:b'=b
  ·subst e
   rw[hw]at q2;cases q2
   exact⟨TC,lC vs o us,T,q1,rA hw,by rw[Mn];exact q3⟩
  ·exact⟨TC,Oh,T0,q1,by rw[fV e];exact q2,q3⟩
end
section
variable {P:Program}{C:Ctx}{ops:Array Oper}{S:AS}{nd:Bool}{K:List Ac→AS→Prop}{rest:List Oper}{acc:List Ac}
variable {gd:Option (Nat×Bool)}{rg:List Nat}{d:Nat}{ty:TypeId}{pos:String}{aft:Array Edge}{x y z:Operand}{T U E0:TypeId}{D:SpD}{M0:Mem}
instance{a:Option Addr}{n c:Nat}:Len (.v (.slice a n c)) n:=⟨fun _ v h=>⟨a,c,h⟩⟩
end
section
variable {P:Program}
structure SpV (D:SpD) {α:Type} (e:α→List SV) (l:List α) (v:Value):Prop where
 n:D.n=l.length
 v:∃a c,v=.slice a l.length c∧(l≠[]→a=some ⟨D.b0,D.o0,none⟩)∧l.length≤9223372036854775807
 row:∀(i:Nat) (x:α),l[i]? =some x→(e x).length=D.sz∧∀(k:Nat) (s:SV),(e x)[k]? =some s→∃y,D.Mx D.b0 (D.o0+i*D.sz+k)=some y∧y.oneCell'=true∧s.h D.Mx y
end
end Go.Fw
namespace Go.Fw
open Go.RowKit
instance{cs:List SV}:One (ref cs):=⟨fun _ _ h=>by obtain⟨b,o,rfl,_⟩:=h;rfl⟩
section steps
variable {P:Program}{C:Ctx}{ops:Array Oper}{S:AS}{nd:Bool}{K:List Ac→AS→Prop}{rest:List Oper}{acc:List Ac}
variable {gd:Option (Nat×Bool)}{rg:List Nat}{d:Nat}{ty:TypeId}{pos:String}{aft:Array Edge}{x y z:Operand}{T U E0:TypeId}
theorem RT.bT(hg:Gd ops S gd rg){cs:List SV}(hx:S.ev x=.sv (ref cs))(hd:d<S.n)
  (next:RunT P C ops nd K rest (⟨rg++aq x,[],[],⟨some (d,.sv (ref cs)),[],[]⟩⟩::acc) (S.set d (.sv (ref cs)))):RunT P C ops nd K (⟨some d,.nilCheck x,ty,pos,aft,gd⟩::rest) acc S:=
 RT.value hg (aq x) [] [] (.sv (ref cs)) hd (by intro c h;cases h) (fun S' ht _ _ E a w h=>by
  have h1:=h.ev x
  rw[aJ (fun _ h=>h) ht,hx]at h1
  have h1:(ref cs).h E.M (a.eval x):=h1
  obtain⟨b,o,e,h2⟩:=h1
  exact⟨a.eval x,by simp[execOp,e],⟨b,o,e,h2⟩,eY⟩) next
theorem RT.Yz(hg:Gd ops S gd rg)[tT:AJ P T]{cs:List SV}(hx:S.ev x=.sv (ref cs))(hy:S.ev y=.sv (.v (.pointer none)))(hd:d<S.n)
  (next:RunT P C ops nd K rest (⟨rg++(aq x++aq y),[],[],⟨some (d,.sv (.v (.bool false))),[],[]⟩⟩::acc) (S.set d (.sv (.v (.bool false))))):RunT P C ops nd K (⟨some d,.binOp .eql T x y U,ty,pos,aft,gd⟩::rest) acc S:=
 RT.value hg (aq x++aq y) [] [] (.sv (.v (.bool false))) hd (by intro c h;cases h) (fun S' ht _ _ E a w h=>by
  have h1:=h.ev x
  rw[aJ (fun _ h=>List.mem_append_left _ h) ht,hx]at h1
  have h2:=h.ev y
  rw[aJ (fun _ h=>List.mem_append_right _ h) ht,hy]at h2
  have h1:(ref cs).h E.M (a.eval x):=h1
  obtain⟨b,o,h1,_⟩:=h1
  have h2:a.eval y=.pointer none:=h2
  have e:=run_eql_pointer_nil (P:=P) w T (some ⟨b,o,none⟩) tT.u
  refine⟨.bool false,?_,rfl,eY⟩
  simp[execOp,h1,h2,eqGuard,e]) next
end steps
end Go.Fw
namespace Go.Fw
open Go.RowKit
noncomputable def wW(M:Mem)(w:World)(p:Nat→Prop):Mem:=fun b o=>@ite _ (p b) (Classical.propDecidable _) (match w.cell? ⟨b,o,none⟩with|some v=>if v.oneCell'=true then some v else none|none=>none) (M b o)
noncomputable def za(M:Mem)(p:Nat→Prop):Mem:=fun b o=>@ite _ (p b) (Classical.propDecidable _) none (M b o)
theorem Ji{M:Mem}{w:World}{p:Nat→Prop}{b o:Nat}{v:Value}(hb:p b)(hc:w.cell? ⟨b,o,none⟩=some v)(h1:v.oneCell'=true):wW M w p b o=some v:=by
 unfold wW;rw[if_pos hb,hc];simp[h1]
theorem NJ{M:Mem}{w:World}{p:Nat→Prop}(h:M.cI w):(wW M w p).cI w:=fun b o v e=>by
 unfold wW at e
 split at e
 ·split at e
  ·rename_i q
   split at e
   ·rename_i h1;cases e;exact Fact.of q h1
   ·cases e
  ·cases e
 ·exact h b o v e
theorem zb{M:Mem}{w:World}{p:Nat→Prop}(h:∀b,p b→∀o,M b o=none):M.le (wW M w p):=fun b o v e=>by
 unfold wW;rw[if_neg];exact e
 intro hb;rw[h b hb o]at e;cases e
theorem Jj{M:Mem}{p:Nat→Prop}:(za M p).le M:=fun b o v e=>by
 unfold za at e
 split at e
 ·cases e
 ·exact e
theorem Jk{M:Mem}{p:Nat→Prop}{b o:Nat}{v:Value}(hb:¬p b)(e:M b o=some v):za M p b o=some v:=by unfold za;rw[if_neg hb];exact e
theorem Dn{M:Mem}{p:Nat→Prop}{b:Nat}(hb:p b)(o:Nat):za M p b o=none:=by unfold za;rw[if_pos hb]
def OcI:List Oc→List SV→Prop
 |[],[]=>True
 |.s x::l,y::k=>(SV.imp x y∧∀M v,x.h M v→v.oneCell'=true)∧OcI l k
 |.r R::l,y::k=>(∃rows,Rows R.sz rows R.cells∧rows.length=R.n∧(∀M vs,SV.dH M R.cells vs→∀v∈vs,v.oneCell'=true)∧SV.imp (slc R.sz rows) y)∧OcI l k
 |_,_=>False
theorem cC{E:TypeId}{n:Nat}{α:Type}{e:α→List SV}{l:List α}[el:EL e n]:∃rows,Rows (TR E n e l).sz rows (TR E n e l).cells∧rows.length=(TR E n e l).n∧(∀M vs,SV.dH M (TR E n e l).cells vs→∀v∈vs,v.oneCell'=true)∧SV.imp (slc (TR E n e l).sz rows) (slc n (l.map e)):=
 ⟨l.map e,rE l,by simp,m7 l,SV.aa _⟩
theorem QJ{M:Mem}{w:World}{p:Nat→Prop}{R:Row}{v:Value}{rows:List (List SV)}(hno:∀b,p b→∀o,M b o=none)(hb:∀g,v.ownBlock=some g→p g)(ho:∃vs:List Value,w.ownsRow 0 R.E R.sz v R.n vs∧SV.dH M R.cells vs)
  (jt:Rows R.sz rows R.cells) (hn:rows.length=R.n) (hone:∀M vs,SV.dH M R.cells vs→∀v∈vs,v.oneCell'=true):(slc R.sz rows).h (wW M w p) v∧v.oneCell'=true:=by
 obtain⟨vs,hown,hvs⟩:=ho
 have sq:=uj jt
 rcases hown.2 with⟨h1,h2⟩|⟨g,cap,cur,h1,_,h2,h3,h4,h5,h6⟩
 ·rw[h2]at hn
  exact⟨.inl ⟨none,h1,List.length_eq_zero_iff.1 hn⟩,by rw[h1];rfl⟩
 ·have hg:p g:=hb g (by rw[h1];rfl)
  have hm:maxLen=9223372036854775807:=by decide
  refine⟨.inr ⟨g,0,cap,by rw[h1,hn],by rw[hn];exact h3,by omega,fun k row hk=>?_⟩,by rw[h1];rfl⟩
  obtain⟨q1,q2⟩:=rB jt k row hk
  refine⟨q1,fun j s hs=>?_⟩
  have Ef:=q2 j s hs
  obtain⟨y,hy,hys⟩:=hvs.get Ef
  have hlt:k*R.sz+j<R.n*R.sz:=by
   have:=(List.getElem?_eq_some_iff.1 Ef).1
   rw[sq,hn]at this;exact this
  have h1':=hone _ _ hvs y (List.mem_of_getElem? hy)
  refine⟨y,Ji hg ?_ h1',h1',s.mono (zb hno) hys⟩
  rw[←h6,List.getElem?_take,if_pos hlt]at hy
  simp only[World.cell?,h2]
  simpa using hy
theorem GU{M:Mem}{w:World}{p:Nat→Prop}(hno:∀b,p b→∀o,M b o=none):∀{c:List Oc} {cs:List SV} {us:List Value} {k:Nat} {s:SV},OcI c cs→pG M w c us→(∀q∈bu c us,∀g,q.2.ownBlock=some g→p g)→cs[k]? =some s→∃y,us[k]? =some y∧y.oneCell'=true∧s.h (wW M w p) y
 |.s x::l,y::cs,u::us,k,s,hi,ho,hb,hk=>by
  cases k with
  |zero=>cases hk;exact⟨u,rfl,hi.1.2 _ _ ho.1,y.mono (zb hno) (hi.1.1 _ _ ho.1)⟩
  |succ k=>exact GU hno (c:=l) (cs:=cs) (us:=us) (k:=k) hi.2 ho.2 hb hk
 |.r R::l,y::cs,u::us,k,s,hi,ho,hb,hk=>by
  cases k with
  |zero=>
   cases hk
   obtain⟨rows,q1,q2,q3,q4⟩:=hi.1
   obtain⟨r1,r2⟩:=QJ hno (fun g hg=>hb (R,u) (by rw[bu];simp) g hg) ho.1 q1 q2 q3
   exact⟨u,rfl,r2,q4 _ _ r1⟩
  |succ k=>exact GU hno (c:=l) (cs:=cs) (us:=us) (k:=k) hi.2 ho.2 (fun q hq=>hb q (by rw[bu];exact List.mem_cons_of_mem _ hq)) hk
 |[],[],_,_,_,_,_,_,hk=>by simp at hk
 |[],_::_,_,_,_,hi,_,_,_=>hi.elim
 |.s _::_,[],_,_,_,hi,_,_,_=>hi.elim
 |.r _::_,[],_,_,_,hi,_,_,_=>hi.elim
 |.s _::_,_::_,[],_,_,_,ho,_,_=>ho.elim
 |.r _::_,_::_,[],_,_,_,ho,_,_=>ho.elim
theorem xP{M M':Mem}{w w':World}(hM:M.le M'):∀{c:List Oc} {us:List Value},pG M w c us→(∀q∈bu c us,∀g,q.2.ownBlock=some g→w'.heap[g]? =w.heap[g]?)→pG M' w' c us
 |[],[],_,_=>trivial
 |.s x::l,u::us,h,hs=>⟨x.mono hM h.1,xP hM (c:=l) (us:=us) h.2 hs⟩
 |.r R::l,u::us,h,hs=>by
  obtain⟨vs,h1,h2⟩:=h.1
  exact⟨⟨vs,c6 h1 (fun g hg=>hs (R,u) (by rw[bu];simp) g hg),h2.mono hM⟩,xP hM (c:=l) (us:=us) h.2 (fun q hq=>hs q (by rw[bu];exact List.mem_cons_of_mem _ hq))⟩
 |[],_::_,h,_=>h.elim
 |.s _::_,[],h,_=>h.elim
 |.r _::_,[],h,_=>h.elim
def AV.ach(cells:List SV):AV→SV
 |.sv s=>s
 |_=>ref cells
def AV.VK:AV→Bool
 |.sv _=>true
 |.ptr i o=>Nat.beq i 1000&&Nat.beq o 0
 |_=>false
theorem Jl{M M':Mem}{β:Nat}{cells:List SV}(hM:M.le M')(hc:(ref cells).h M' (.pointer (some ⟨β,0,none⟩))):∀{args:List AV} {vs:List Value},(args.all AV.VK)=true→cS (pJ M β) args vs→SV.dH M' (args.map (AV.ach cells)) vs
 |[],[],_,_=>trivial
 |x::l,v::vs,hy,h=>by
  rw[List.all_cons,Bool.and_eq_true]at hy
  refine⟨?_,Jl hM hc hy.2 h.2⟩
  cases x with
  |sv s=>exact s.mono hM h.1
  |ptr i o=>
   have h1:=Bool.and_eq_true_iff.1 hy.1
   have e:v=.pointer (some ⟨β,o,none⟩):=h.1
   rw[e,Nat.eq_of_beq_eq_true h1.2];exact hc
  |_=>exact(Bool.false_ne_true hy.1).elim
 |[],_::_,_,h=>h.elim
 |_::_,[],_,h=>h.elim
theorem dL{P:Program}{f:FuncId}{args:List AV}{T:TypeId}{c:List Oc}{cells:List SV}{r:Nat→SV}{res:SV}(hp:∀N,cL P f N (args.map (AV.ach cells)) (r N))(hy:args.all AV.VK=true)(hi:OcI c cells)(hr:∀N M v,(r N).h M v→res.h (M.fr N) v):xN P f args T c res:=by
 intro M w β vs us hM ho hv
 have hno:∀b,(b=β∨ec c us b)→∀o,M b o=none:=fun b hb o=>by
  rcases hb with rfl|hb
  ·exact ho.nb o
  ·exact(ho.nr b hb).2 o
 have hlt:∀b,(b=β∨ec c us b)→b<w.heap.size:=fun b hb=>by
  rcases hb with rfl|⟨q,hq,hg⟩
  ·exact(Array.getElem?_eq_some_iff.1 ho.hp).1
  ·obtain⟨ws,h1,_⟩:=lK ho.al q hq
   rcases h1.2 with⟨h2,_⟩|⟨g,cap,cur,h2,_,h3,_⟩
   ·rw[h2]at hg;cases hg
   ·rw[h2]at hg;cases hg;exact(Array.getElem?_eq_some_iff.1 h3).1
 have sq:(ref cells).h (wW M w (fun b=>b=β∨ec c us b)) (.pointer (some ⟨β,0,none⟩)):=⟨β,0,rfl,fun k s hk=>by
  obtain⟨y,h1,h2,h3⟩:=GU hno hi ho.al (fun q hq g hg=>.inr ⟨q,hq,hg⟩) hk
  refine⟨y,Ji (.inl rfl) ?_ h2,h2,h3⟩
  simp only[World.cell?,ho.hp]
  simpa using h1⟩
 refine(hp w.heap.size _ w vs (Nat.le_refl _) (NJ hM) (Jl (zb hno) sq hy hv)).mono ?_
 rintro e w' ⟨v,M',rfl,hM',hnew,ag6,hres,hb⟩
 have hMM:M.le (za M' (fun b=>b=β∨ec c us b)):=fun b o x e=>Jk (fun hb=>by rw[hno b hb o]at e;cases e) (hM' b o x (zb hno b o x e))
 refine⟨v,za M' (fun b=>b=β∨ec c us b),rfl,hMM,fun b o x e=>?_,fun b o x e=>ag6 b o x (Jj b o x e),res.mono (fun b o x e=>?_) (hr _ _ _ hres),?_,hb.os,hb.tape,hb.output,hb.size,fun k hk _ _=>hb.block k hk⟩
 ·rcases hnew b o x (Jj b o x e)with q|q
  ·refine .inl ?_
   unfold wW at q
   split at q
   ·rename_i BA
    have e2:za M' (fun b=>b=β∨ec c us b) b o=none:=Dn (p:=fun b=>b=β∨ec c us b) BA o
    rw[e2]at e;cases e
   ·exact q
  ·exact .inr q
 ·unfold Mem.fr at e
  split at e
  ·rename_i hN
   exact Jk (fun BA=>by have:=hlt b BA;omega) e
  ·cases e
 ·exact⟨by rw[hb.block β (hlt β (.inl rfl))];exact ho.hp,xP hMM ho.al (fun q hq g hg=>hb.block g (hlt g (.inr ⟨q,hq,hg⟩))),fun o=>Dn (p:=fun b=>b=β∨ec c us b) (.inl rfl) o,fun g hg=>⟨(ho.nr g hg).1,fun o=>Dn (p:=fun b=>b=β∨ec c us b) (.inr hg) o⟩,ho.ap⟩
theorem nE{P:Program}{f:FuncId}{args:List SV}{r:SV}(h:Pure P f args r)(N:Nat):cL P f N args r:=fun M w vs _ hM hv=>h M w vs hM hv
theorem YA{s:SV}:∀(N:Nat) (M:Mem) (v:Value),(nw N s).h M v→s.h (M.fr N) v:=fun _ _ _ h=>h.1
theorem BJ{l:List Qr}:∀(N:Nat) (M:Mem) (v:Value),(nw N (slc 4 (l.map (fQ N)))).h M v→(slc 4 (l.map eQ)).h (M.fr N) v:=fun N M v h=>nwQ (M.fr N) v (by
 obtain⟨h1,h2⟩:=h
 rw[←Mem.Jd]at h1
 exact⟨h1,fun g e=>by rw[Mem.Jd];exact h2 g e⟩)
theorem Mp{x:Value}:∀(N:Nat) (M:Mem) (v:Value),(SV.v x).h M v→(SV.v x).h (M.fr N) v:=fun _ _ _ h=>h
theorem GV{P:Program}{f:FuncId}{fn:Func}{code:Code}{args:Nat→List AV}{T:TypeId}{c:List Oc}{res:SV}(ids:List Nat)(hf:P.funcs[f]? =some fn)(hb:fn.body=some code)(hn:∀β,(args β).length≤fn.ntmps)(Fk:∀β,(args β).all AV.oy=true)(zG:ids.Nodup)(Oo:ids.length=(rowsOf c).length)(hge:(ids.all fun i=>Nat.ble 1000 i)=true)(Li:Ab c)
  (h:∀(w:World) (M:Mem) (β:Nat) (us:List Value),Ok P (Jc w M β c us ids hge) code (AS.A0 fn.ntmps (args β) [(1000,⟨T,bG ids c⟩)] (ids.zip (rowsOf c))) (fun e S=>(e=.normal∨e=.ret)∧Og P S fn.results.toList res∧S.b 1000=some ⟨T,bG ids c⟩∧Lv S ids (rowsOf c))):AL P f args T c (fun _ M' _ v=>res.h M' v):=
 AM ids hf hb hn Fk zG Oo hge Li _ h (fun w M β us S' E a w' hr hh _ _ _=>by
  obtain⟨v,hv,hx⟩:=(yq.sv hr).run hh
  exact⟨v,hv,hx⟩)
section steps
variable {P:Program}{C:Ctx}{ops:Array Oper}{S:AS}{nd:Bool}{K:List Ac→AS→Prop}{rest:List Oper}{acc:List Ac}{Q:Exit→AS→Prop}
variable {gd:Option (Nat×Bool)}{rg:List Nat}{d:Nat}{ty:TypeId}{pos:String}{aft:Array Edge}{x y z:Operand}{T U E0:TypeId}
theorem TK{c:Code}{i k β:Nat}(hp:C.gP k=some β)(hB:S.b i=some ⟨T,[.ptr k 0]⟩)(h:Ok P C c (S.kH i ⟨T,[.sv (.v (.pointer (some ⟨β,0,none⟩)))]⟩) Q):Ok P C c S Q:=fun a w ⟨E,hh⟩=>by
 refine h a w ⟨E,?_⟩
 have hβ:E.β k=β:=hh.gP k β hp
 have AZ:∀j B,(S.kH i ⟨T,[.sv (.v (.pointer (some ⟨β,0,none⟩)))]⟩).b j=some B→(j=i∧B=⟨T,[.sv (.v (.pointer (some ⟨β,0,none⟩)))]⟩)∨(j≠i∧S.b j=some B):=fun j B e=>by
  by_cases hj:j=i
  ·subst hj;rw[AS.cD]at e;cases e;exact .inl ⟨rfl,rfl⟩
  ·rw[AS.bw _ _ _ _ hj]at e;exact .inr ⟨hj,e⟩
 have bTo:∀j,(∃B,S.b j=some B)→∃B,(S.kH i ⟨T,[.sv (.v (.pointer (some ⟨β,0,none⟩)))]⟩).b j=some B:=fun j ⟨B,e⟩=>by
  by_cases hj:j=i
  ·subst hj;exact⟨_,AS.cD _ _ _⟩
  ·exact⟨B,by rw[AS.bw _ _ _ _ hj];exact e⟩
 have YB:∀j B,(S.kH i ⟨T,[.sv (.v (.pointer (some ⟨β,0,none⟩)))]⟩).b j=some B→∃B',S.b j=some B':=fun j B e=>by
  rcases AZ j B e with⟨rfl,_⟩|⟨_,q⟩
  ·exact⟨_,hB⟩
  ·exact⟨_,q⟩
 exact{hh with
  wf:=⟨fun s j hj=>bTo j (hh.wf.tb s j hj),hh.wf.tr,fun j B e y hy m hm=>by
    rcases AZ j B e with⟨rfl,rfl⟩|⟨_,q⟩
    ·obtain rfl:y=_:=by simpa using hy
     exact(hm:False).elim
    ·exact bTo m (hh.wf.bb j B q y hy m hm),fun j B e y hy m hm=>by
    rcases AZ j B e with⟨rfl,rfl⟩|⟨_,q⟩
    ·obtain rfl:y=_:=by simpa using hy
     exact(hm:False).elim
    ·exact hh.wf.br j B q y hy m hm⟩
  bx:=fun j B e=>by
   rcases AZ j B e with⟨rfl,rfl⟩|⟨_,q⟩
   ·obtain⟨h1,h2,h3,vs,h4,h5⟩:=hh.bx j _ hB
    refine⟨h1,h2,h3,vs,h4,?_⟩
    match vs,h5 with
    |[v],h5=>exact⟨(show v=.pointer (some ⟨β,0,none⟩)from hβ▸h5.1),trivial⟩
   ·exact hh.bx j B q
  inj:=fun j j' B B' e e' q=>by
   obtain⟨_,h1⟩:=YB j B e
   obtain⟨_,h2⟩:=YB j' B' e'
   exact hh.inj j j' _ _ h1 h2 q
  rx:=fun j R hR=>by
   obtain⟨p1,p2⟩:=hh.rx j R hR
   refine⟨p1,fun g hg=>?_⟩
   obtain⟨q1,q2,q3,q4⟩:=p2 g hg
   refine⟨q1,q2,q3,fun m B e=>?_⟩
   obtain⟨_,h1⟩:=YB m B e
   exact q4 m _ h1}
theorem RT.Af(hg:Gd ops S gd rg)[tV:bX P T]{k β:Nat}{B:oG}(hx:S.ev x=.sv (ref [.v (.pointer (some ⟨β,0,none⟩))]))(hp:C.gP k=some β)(hB:S.b k=some B)(hd:d<S.n)
  (next:RunT P C ops nd K rest (⟨rg++aq x,[k],[],⟨some (d,.ptr k 0),[],[]⟩⟩::acc) (S.set d (.ptr k 0))):RunT P C ops nd K (⟨some d,.load T x,ty,pos,aft,gd⟩::rest) acc S:=
 RT.value hg (aq x) [k] [] (.ptr k 0) hd (by intro c h;cases h) (fun S' ht hb _ E a w h=>by
  have h1:=h.ev x
  rw[aJ (fun _ h=>h) ht,hx]at h1
  obtain⟨b,o,e,hc⟩:=h1
  obtain⟨u,hu,hu1,hs⟩:=hc 0 _ rfl
  have hβ:E.β k=β:=h.gP k β hp
  have hs:u=.pointer (some ⟨β,0,none⟩):=hs
  refine⟨u,?_,by show u=.pointer (some ⟨E.β k,0,none⟩);rw[hβ];exact hs,fun j e=>?_,fun j e=>e.elim⟩
  ·have Ww:w.cell? ⟨b,o,none⟩=some u:=(h.cI _ _ _ hu).cell hu1
   simp[execOp,e,Instr.loadAt,Instr.sureAddr,loadVar,tV.isAgg,Ww]
  ·have e:j=k:=e
   subst e
   exact⟨B,by rw[hb j (by simp)];exact hB⟩) next
theorem RT.TL(hg:Gd ops S gd rg){f:FuncId}[bF P f]{g:Operand}{xs:Array Operand}{at_:Array TypeId}{args:List AV}{caps:Nat→List SV}{β:Nat}{T:TypeId}{c:List Oc}{res:SV}(hp:AL P f (fun β=>args++(caps β).map AV.sv) T c (fun _ M' _ v=>res.h M' v))(i:Nat)(js:List Nat)(KB:C.gP i=some β)(hB:S.b i=some ⟨T,bG js c⟩)(hL:Lv S js (rowsOf c))(QC:js.Nodup)
  (Fk:args.all AV.oy=true) (hf:S.ev g=.sv (iC f (caps β))) (hargs:ur S xs.toList (args.map (AV.Ty i))) (hd:d<S.n)
  (next:RunT P C ops nd K rest (⟨rg++(aq g++xs.toList.flatMap aq),[i],js,⟨some (d,.sv res),[],[]⟩⟩::acc) (S.set d (.sv res))):RunT P C ops nd K (⟨some d,.call ⟨.value g,xs,at_⟩,ty,pos,aft,gd⟩::rest) acc S:=by
 refine .inl ⟨_,[i],js,_,?_,next⟩
 rintro S' hn ht hb hr k a w L Q ho ⟨E,h⟩ Yo
 refine bW (C:=C) ho (hg.wanted h (fun s hs=>ht s (List.mem_append_left _ hs)) rfl) ?_
 have tW:(iC f (caps β)).h E.M (a.eval g):=by
  have h1:=h.ev g;rw[aJ (fun _ h=>List.mem_append_right _ (List.mem_append_left _ h)) ht,hf]at h1;exact h1
 obtain⟨oK,tW,yg⟩:=tW
 have hβ:E.β i=β:=h.gP i β KB
 have hall:=yX Fk (ur.vals h hargs (fun s hs=>ht s (List.mem_append_right _ (List.mem_append_right _ hs))))
 have fu:S'.b i=some ⟨T,bG js c⟩:=by rw[hb i (by simp)];exact hB
 have QD:Lv S' js (rowsOf c):=hL.congr (fun k hk=>hr k hk)
 obtain⟨us,Mi,AI⟩:=nY h fu QD QC
 have aci:cS (pJ E.M (E.β i)) (args++(caps (E.β i)).map AV.sv) (xs.toList.map a.eval++oK):=hall.append (cS.yj (E:=pJ E.M (E.β i)) (by rw[hβ];exact yg))
 have hrun:(execOp a.eval ⟨some d,.call ⟨.value g,xs,at_⟩,ty,pos,aft,gd⟩).run P w=.ok (.enter f ⟨xs.toList.map a.eval++oK⟩) w:=by
  have e2:xs.map a.eval++⟨oK⟩=⟨xs.toList.map a.eval++oK⟩:=by apply Array.ext';simp
  have e1:=bF.run (P:=P) (f:=f) (xs.map a.eval++⟨oK⟩) w
  rw[←e2]
  simp[execOp,resolve,tW,Deferred.ofValue,invoke,e1]
 refine bR (C:=C) (by intro c h;cases h) hrun ?_
 refine⟨fun h=>by simp at h,gB ((hp E.M w (E.β i) _ us h.cI Mi aci).mono ?_)⟩
 rintro e w' ⟨v,M',rfl,hM,hnew,hin,hv,Kk,hos,pE,hout,hsize,ju⟩
 have h1:=h.GN fu QD QC Mi hM hnew hin Kk hos pE hout hsize ju
 exact Yo _ _ ⟨_,h1.put (x:=.sv res) (v:=v) hv (by show d<S'.n;omega) eY⟩
theorem Mq{α:Type}(l k:List α):(vN l k).length=l.length:=by unfold vN;simp;omega
theorem Fo{M:Mem}{b:Nat}{α:Type}{e:α→List SV}[el:EL e 1]:∀(k:List α) (o:Nat),(∀(i:Nat) (row:List SV),(k.map e)[i]? =some row→∀(q:Nat) (s:SV),row[q]? =some s→∃y,M b (o+i*1+q)=some y∧y.oneCell'=true∧s.h M y)→∃cs:List Value,cs.length=k.length∧SV.dH M (k.flatMap e) cs∧∀j v,cs[j]? =some v→M b (o+j)=some v∧v.oneCell'=true
 |[],_,_=>⟨[],rfl,trivial,fun j v h=>by simp at h⟩
 |x::k,o,h=>by
  obtain⟨cs,h1,h2,h3⟩:=Fo k (o+1) (fun i row hr q s hs=>by
   have:=h (i+1) row (by simpa using hr) q s hs
   rwa[show o+(i+1)*1+q=o+1+i*1+q by omega]at this)
  have hl:=el.len x
  match he:e x,hl with
  |[s],_=>
   obtain⟨y,q1,q2,q3⟩:=h 0 [s] (by simp[he]) 0 s rfl
   refine⟨y::cs,by simp[h1],?_,fun j v hj=>?_⟩
   ·rw[List.flatMap_cons,he];exact⟨q3,h2⟩
   ·cases j with
    |zero=>cases hj;exact⟨by simpa using q1,q2⟩
    |succ j=>rw[show o+(j+1)=o+1+j by omega];exact h3 j v (by simpa using hj)
theorem Dp{M:Mem}{α:Type}{e:α→List SV}[el:EL e 1]:∀(l:List α) (vs:List Value) (m:Nat),SV.dH M (l.flatMap e) vs→SV.dH M ((l.drop m).flatMap e) (vs.drop m)
 |l,vs,0,h=>by simpa using h
 |[],vs,m+1,h=>by
  cases vs with
  |nil=>trivial
  |cons _ _=>exact h.elim
 |x::l,vs,m+1,h=>by
  have hl:=el.len x
  match he:e x,hl with
  |[s],_=>
   rw[List.flatMap_cons,he]at h
   match vs,h with
   |v::vs,h=>exact Dp l vs m h.2
theorem RT.VL(hg:Gd ops S gd rg)[tS:eK P T E0 1]{α:Type}{e:α→List SV}[el:EL e 1]{i:Nat}{E1:TypeId}{l k:List α}{m:Int}(hx:S.ev x=.row i)(hR:S.r i=.live (TR E1 1 e l))(hy:S.ev y=.sv (slc 1 (k.map e)))(hd:d<S.n)(hm:((Min.min k.length l.length:Nat):Int)=m)
  (next:RunT P C ops nd K rest (⟨rg++(aq x++aq y),[],[i],⟨some (d,.sv (.v (.int .i64 m))),[],[(i,.live (TR E1 1 e (vN l k)))]⟩⟩::acc) ((AS.bC [(i,.live (TR E1 1 e (vN l k)))] S).set d (.sv (.v (.int .i64 m))))):RunT P C ops nd K (⟨some d,.call ⟨.builtin .copy,#[x,y],#[T,U]⟩,ty,pos,aft,gd⟩::rest) acc S:=by
 subst hm
 refine .inl ⟨_,[],[i],_,?_,next⟩
 rintro S' hn' ht _ LX ix a w L Q ho ⟨E,h⟩ hL
 refine bW (C:=C) ho (hg.wanted h (fun s hs=>ht s (List.mem_append_left _ hs)) rfl) ?_
 have mY:S'.r i=.live (TR E1 1 e l):=by rw[LX i (by simp)];exact hR
 have h1:a.eval x=E.ν i:=by
  have h1:=h.ev x
  rw[aJ (fun _ h=>List.mem_append_right _ (List.mem_append_left _ h)) ht,hx]at h1;exact h1
 have h2:(slc 1 (k.map e)).h E.M (a.eval y):=by
  have h2:=h.ev y
  rw[aJ (fun _ h=>List.mem_append_right _ (List.mem_append_right _ h)) ht,hy]at h2;exact h2
 have hsrc:∃sa sc,a.eval y=.slice sa k.length sc:=by
  rcases h2 with⟨sa,q1,q2⟩|⟨b,o,c,q1,_⟩
  ·have:k=[]:=List.map_eq_nil_iff.1 q2
   subst this;exact⟨sa,0,q1⟩
  ·rw[List.length_map]at q1;exact⟨_,c,q1⟩
 obtain⟨⟨us,hown,AY⟩,_⟩:=h.rx i _ mY
 have YC:∃da dc,E.ν i=.slice da l.length dc:=by
  rcases hown.2 with⟨q1,q2⟩|⟨g,cap,cur,q1,_⟩
  ·have q2:l.length=0:=q2
   exact⟨none,0,by rw[q2];exact q1⟩
  ·exact⟨_,cap,q1⟩
 obtain⟨sa,sc,hs⟩:=hsrc
 by_cases h0:Nat.min k.length l.length=0
 ·obtain⟨da,dc,hdv⟩:=YC
  have hc:vN l k=l:=by
   rcases Nat.eq_zero_or_pos l.length with q|q
   ·have:=List.length_eq_zero_iff.1 q
    subst this;simp[vN]
   ·have:k.length=0:=by
     have h0:Min.min k.length l.length=0:=h0
     omega
    have:=List.length_eq_zero_iff.1 this
    subst this;simp[vN]
  have hr:(execOp a.eval ⟨some d,.call ⟨.builtin .copy,#[x,y],#[T,U]⟩,ty,pos,aft,gd⟩).run P w=.ok (.value (goInt 0)) w:=by
   have:=run_copy_none (P:=P) w T U ty E0 da sa l.length dc k.length sc tS.u tS.s h0
   simp[execOp,resolve,invoke,builtin,h1,hs,hdv,this]
  refine bR (C:=C) (by intro c h;cases h) hr (hL _ _ ⟨E,?_⟩)
  rw[hc]
  have e0:((Min.min k.length l.length:Nat):Int)=0:=by
   have h0:Min.min k.length l.length=0:=h0
   rw[h0];rfl
  rw[e0]
  have:AS.app S' ⟨some (d,.sv (.v (.int .i64 0))),[],[(i,.live (TR E1 1 e l))]⟩=S'.set d (.sv (.v (.int .i64 0))):=by
   show(AS.oV S' i _).set d _=_
   rw[AS.zK mY]
  rw[this]
  exact h.put (x:=.sv (.v (.int .i64 0))) (v:=.int .i64 0) rfl (by show d<S'.n;omega) eY
 ·have hpos:0<Min.min k.length l.length:=Nat.pos_of_ne_zero h0
  obtain⟨g,xn⟩:∃g,(E.ν i).ownBlock=some g:=by
   rcases hown.2 with⟨_,q2⟩|⟨g,cap,cur,q1,_⟩
   ·have q2:l.length=0:=q2
    omega
   ·exact⟨g,by rw[q1];rfl⟩
  obtain⟨cur,vs,q1,q2,q3,q4,cap,q5,q6,q7,q8⟩:=uo h mY xn
  replace q2:cur.take (l.length*1)=vs:=q2
  replace q3:vs.length=l.length*1:=q3
  replace q6:l.length≤cap:=q6
  replace q8:cur.length=cap*1:=q8
  rcases h2 with⟨sa',r1,r2⟩|⟨b,o,c,r1,_,_,r4⟩
  ·have:k=[]:=List.map_eq_nil_iff.1 r2
   subst this;simp at hpos
  rw[List.length_map]at r1
  rw[hs]at r1
  cases r1
  obtain⟨cs,c1,c2,c3⟩:=Fo (M:=E.M) (b:=b) (e:=e) (k.take (Min.min k.length l.length)) o (fun j row hr q s hq=>by
   refine(r4 j row ?_).2 q s hq
   rw[List.map_take,List.getElem?_take]at hr
   split at hr
   ·exact hr
   ·cases hr)
  have sq:cs.length=Nat.min k.length l.length:=by rw[c1,List.length_take];show Min.min (Min.min k.length l.length) k.length=Min.min k.length l.length;omega
  have Ll:cs.length=Min.min k.length l.length:=sq
  have hrun:=run_copy_row (P:=P) w T U ty E0 g 0 l.length cap ⟨b,o,none⟩ k.length sc ⟨cur⟩ E1 cs tS.u tS.s q1 sq (fun j v hj=>by
   rw[fO];exact(h.cI _ _ _ (c3 j v hj).1).cell (c3 j v hj).2) (by simp;omega) (fun v hv=>by
   obtain⟨j,hj,rfl⟩:=List.getElem_of_mem hv
   exact(c3 j _ (List.getElem?_eq_getElem hj)).2)
  have hr:(execOp a.eval ⟨some d,.call ⟨.builtin .copy,#[x,y],#[T,U]⟩,ty,pos,aft,gd⟩).run P w=.ok (.value (goInt cs.length)) (w.setRow g (cs++cur.drop cs.length).toArray):=by
   have hrun:(Builtin.copy_ #[T,U] ty #[.slice (some ⟨g,0,none⟩) l.length cap,.slice (some ⟨b,o,none⟩) k.length sc]).run P w=.ok (goInt cs.length) (w.setRow g (cs++cur.drop cs.length).toArray):=by simpa using hrun
   have q5:E.ν i=.slice (some ⟨g,0,none⟩) l.length cap:=q5
   simp[execOp,resolve,invoke,builtin,h1,hs,q5,hrun]
  have YD:vN l k=k.take (Min.min k.length l.length)++l.drop (Min.min k.length l.length):=by
   unfold vN
   have e1:k.take l.length=k.take (Min.min k.length l.length):=by rw[List.take_eq_take_iff];omega
   have e2:l.drop k.length=l.drop (Min.min k.length l.length):=by rw[List.drop_eq_drop_iff];omega
   rw[e1,e2]
  have hall:SV.dH E.M ((vN l k).flatMap e) (cs++vs.drop cs.length):=by
   rw[YD,List.flatMap_append,←Ll]
   rw[←Ll]at c2
   exact SV.dH.append c2 (Dp l vs cs.length q4)
  have hh:=setRow_heap w g ⟨cur⟩ (cs++cur.drop cs.length).toArray E1 (0,0) q1
  have Fp:(w.setRow g (cs++cur.drop cs.length).toArray).ownsRow 0 E1 1 (E.ν i) l.length (cs++vs.drop cs.length):=by
   refine⟨by simp;omega,.inr ⟨g,cap,_,q5,Nat.zero_le _,hh,q6,q7,by simp;omega,?_⟩⟩
   rw[←q2]
   simp only[List.take_append,List.length_take,List.drop_take]
   congr 1
   ·rw[List.take_of_length_le (by omega)]
  have hp:=h.F1 mY xn (w':=w.setRow g (cs++cur.drop cs.length).toArray) ⟨_,_,q1⟩ rfl rfl rfl (by simp[World.setRow]) (fun k' hk'=>setRow_other w g k' _ hk') Fp hall
  refine bR (C:=C) (by intro c h;cases h) hr (hL _ _ ⟨E,?_⟩)
  have hrow:(⟨(TR E1 1 e l).E,(TR E1 1 e l).sz,(TR E1 1 e l).n,(vN l k).flatMap e⟩:Row)=TR E1 1 e (vN l k):=by
   show Row.mk _ _ l.length _=Row.mk _ _ (vN l k).length _
   rw[Mq]
  rw[hrow]at hp
  rw[←Ll]
  exact hp.put (x:=.sv (.v (.int .i64 cs.length))) (v:=.int .i64 cs.length) rfl (by show d<S'.n;omega) eY
end steps
end Go.Fw
namespace Go.Proofs.YtningmnklfpfjaaGreat
open Go.Fw
noncomputable def bK(x0:Tb):Option (Bool):=match x0 with|⟨aC,aD,aM,aN,cm⟩=>b9 (fun(acj:Bool)=>some acj) fun K3=>(bif false then none else(some (!aC)).bind fun ek=>some ek).bind fun VM=>K3 VM
noncomputable def dr(x0:Tb):Option (Int):=match x0 with|⟨aC,aD,aM,aN,cm⟩=>(some (cm.length:Int)).bind fun iI=>(some (IntKind.i64.wrap (aD+iI))).bind fun dW=>some dW
noncomputable def g9(x0:Tb)(x1:Int):Option (List Qr):=match x0 with|⟨aC,aD,aM,aN,cm⟩=>(some (cm.length:Int)).bind fun dW=>(D4 64 dW (⟨⟨false,[]⟩,⟨false,[]⟩⟩:Qr)).bind fun iA=>(some (cm.length:Int)).bind fun fF=>(bQ (fun(s8:Int×(List Qr))=>match s8 with|⟨Fq,Dq⟩=>(show Option ((Int×(List Qr))⊕((List Qr)))from(some (decide ((Fq:Int)<fF))).bind fun gO=>(bif gO then(cz cm Fq).bind fun jB=>(cz jB x1).bind fun⟨⟨iQ,iS⟩,⟨Dr,Ds⟩⟩=>(cj ⟨⟨iQ,iS⟩,⟨Dr,Ds⟩⟩).bind fun⟨⟨o5,o6⟩,⟨Jm,Jn⟩⟩=>(kQ Dq Fq).bind fun rf=>(stM Dq rf ⟨⟨o5,o6⟩,⟨Jm,Jn⟩⟩).bind fun yC=>(some (IntKind.i64.wrap (Fq+1))).bind fun iD=>some (.inl (iD,yC))else some (.inr Dq)))) (0,iA)).bind fun rS=>some rS
noncomputable def jE(x0:Tb)(x1:Int):Option (List Qr):=match x0 with|⟨aC,aD,aM,aN,cm⟩=>(some (aM.length:Int)).bind fun dW=>(some (IntKind.i64.wrap (dW+aD))).bind fun gx=>(D4 64 gx (⟨⟨false,[]⟩,⟨false,[]⟩⟩:Qr)).bind fun fF=>(some (decide ((x1:Int)<aD))).bind fun ir=>b9 (fun(QK:(List Qr))=>some QK) fun VJ=>(bif ir then(some (aM.length:Int)).bind fun iq=>(bQ (fun(s18:Int×(List Qr))=>match s18 with|⟨Dt,Du⟩=>(show Option ((Int×(List Qr))⊕((List Qr)))from(some (decide ((Dt:Int)<iq))).bind fun rf=>(bif rf then(cz aM Dt).bind fun sL=>(cz sL x1).bind fun⟨⟨QL,QM⟩,⟨QN,QO⟩⟩=>(kQ Du Dt).bind fun tG=>(stM Du tG ⟨⟨QL,QM⟩,⟨QN,QO⟩⟩).bind fun l20=>(some (IntKind.i64.wrap (Dt+1))).bind fun oZ=>some (.inl (oZ,l20))else some (.inr Du)))) (0,fF)).bind fun xQ=>(some (aM.length:Int)).bind fun rI=>(some (IntKind.i64.wrap (rI+x1))).bind fun ri=>(cZ (-1)).bind fun⟨⟨CE,CF⟩,⟨QS,QT⟩⟩=>(kQ xQ ri).bind fun uc=>(stM xQ uc ⟨⟨CE,CF⟩,⟨QS,QT⟩⟩).bind fun l22=>VJ l22 else VJ fF)
noncomputable def fC(x0:Tb)(x1:List Qr):Option (List Qr):=match x0 with|⟨aC,aD,aM,aN,cm⟩=>(some (aM.length:Int)).bind fun dW=>(some (IntKind.i64.wrap (dW+aD))).bind fun gx=>(D4 64 gx (⟨⟨false,[]⟩,⟨false,[]⟩⟩:Qr)).bind fun fF=>(some (x1.length:Int)).bind fun gO=>(bQ (fun(Jo:(List Qr)×Int)=>match Jo with|⟨vi,nn⟩=>(show Option (((List Qr)×Int)⊕((List Qr)))from(some (decide ((nn:Int)<gO))).bind fun jB=>(bif jB then(cz x1 nn).bind fun⟨⟨rL,rM⟩,⟨rN,rO⟩⟩=>b9 (fun(Dv:Bool)=>b9 (fun(Jp:(List Qr))=>(some (IntKind.i64.wrap (nn+1))).bind fun wA=>some (.inl (Jp,wA))) fun K21=>(bif Dv then(cz aN nn).bind fun ri=>(jE ⟨aC,aD,aM,aN,cm⟩ ri).bind fun uc=>(eO ⟨⟨rL,rM⟩,⟨rN,rO⟩⟩ uc vi).bind fun yI=>K21 yI else K21 vi)) fun K19=>(cz aN nn).bind fun rf=>(some (decide ((rf:Int)<aD))).bind fun sK=>(bif sK then(eM ⟨⟨rL,rM⟩,⟨rN,rO⟩⟩).bind fun lO=>(some (decide ((lO:Int)≠0))).bind fun tG=>some tG else some false).bind fun Lm=>K19 Lm else some (.inr vi)))) (fF,0)).bind fun vk=>some vk
noncomputable def ee(x0:Tb):Option (List Int):=match x0 with|⟨aC,aD,aM,aN,cm⟩=>(bK ⟨aC,aD,aM,aN,cm⟩).bind fun x5=>(bif x5 then some []else(some (aN.length:Int)).bind fun ek=>(D4 8 ek (0:Int)).bind fun iI=>some (vN iI aN))
noncomputable def e9(x0:Tb):Option (List Qr):=match x0 with|⟨aC,aD,aM,aN,cm⟩=>(bK ⟨aC,aD,aM,aN,cm⟩).bind fun x4=>(bif x4 then some []else(dr ⟨aC,aD,aM,aN,cm⟩).bind fun x7=>(g9 ⟨aC,aD,aM,aN,cm⟩ x7).bind fun x8=>some x8)
noncomputable def cH(x0:Tb)(x1:Int):Option (List Qr):=match x0 with|⟨aC,aD,aM,aN,cm⟩=>b9 (fun(Jq:Bool)=>(bif Jq then some []else(g9 ⟨aC,aD,aM,aN,cm⟩ x1).bind fun gO=>(fC ⟨aC,aD,aM,aN,cm⟩ gO).bind fun ik=>(jE ⟨aC,aD,aM,aN,cm⟩ x1).bind fun ir=>(nj ik ir).bind fun vS=>some vS)) fun K6=>(bK ⟨aC,aD,aM,aN,cm⟩).bind fun x6=>(bif x6 then some true else(some (decide ((x1:Int)<0))).bind fun x9=>some x9).bind fun QU=>(bif QU then some true else(dr ⟨aC,aD,aM,aN,cm⟩).bind fun fg=>(some (decide ((fg:Int)≤x1))).bind fun dR=>some dR).bind fun YE=>K6 YE
noncomputable def kC(x0:Tb):Option (List Qr):=match x0 with|⟨aC,aD,aM,aN,cm⟩=>(bK ⟨aC,aD,aM,aN,cm⟩).bind fun x4=>(bif x4 then some []else(e9 ⟨aC,aD,aM,aN,cm⟩).bind fun x7=>(fC ⟨aC,aD,aM,aN,cm⟩ x7).bind fun x8=>some x8)
noncomputable def fD(x0:Tb):Option (List Qr):=match x0 with|⟨aC,aD,aM,aN,cm⟩=>(bK ⟨aC,aD,aM,aN,cm⟩).bind fun x7=>(bif x7 then some []else(D4 64 aD (⟨⟨false,[]⟩,⟨false,[]⟩⟩:Qr)).bind fun dW=>(e9 ⟨aC,aD,aM,aN,cm⟩).bind fun fg=>(some (fg.length:Int)).bind fun dR=>(bQ (fun(Gg:Int×(List Qr))=>match Gg with|⟨Dw,Dx⟩=>(show Option ((Int×(List Qr))⊕((List Qr)))from(some (decide ((Dw:Int)<dR))).bind fun gx=>(bif gx then(cz fg Dw).bind fun⟨⟨mU,mW⟩,⟨Dc,Dd⟩⟩=>(cz aN Dw).bind fun lG=>(some (decide ((lG:Int)<aD))).bind fun iD=>b9 (fun(Ln:(List Qr))=>(some (IntKind.i64.wrap (Dw+1))).bind fun tJ=>some (.inl (tJ,Ln))) fun Oj=>(bif iD then(cz aN Dw).bind fun tX=>(kQ Dx tX).bind fun oZ=>(stM Dx oZ ⟨⟨mU,mW⟩,⟨Dc,Dd⟩⟩).bind fun SF=>Oj SF else Oj Dx)else some (.inr Dx)))) (0,dW)).bind fun Dy=>some Dy)
noncomputable def fN(x0:Tb):Option (List (List Qr)):=match x0 with|⟨aC,aD,aM,aN,cm⟩=>(bK ⟨aC,aD,aM,aN,cm⟩).bind fun x7=>(bif x7 then some []else(some (cm.length:Int)).bind fun dW=>(bQ (fun(s6:Int×(List (List Qr)))=>match s6 with|⟨ze,GW⟩=>(show Option ((Int×(List (List Qr)))⊕((List (List Qr))))from(some (decide ((ze:Int)<dW))).bind fun fg=>(bif fg then(cz cm ze).bind fun dR=>(dr ⟨aC,aD,aM,aN,cm⟩).bind fun gO=>(fY dR gO).bind fun ik=>(zM 24 GW [ik]).bind fun jJ=>(some (IntKind.i64.wrap (ze+1))).bind fun ir=>some (.inl (ir,jJ))else some (.inr GW)))) (0,[])).bind fun xR=>some xR)
noncomputable def iT(x0:Tb):Option (Bool):=match x0 with|⟨aC,aD,aM,aN,cm⟩=>(bK ⟨aC,aD,aM,aN,cm⟩).bind fun x6=>(bif x6 then some false else(e9 ⟨aC,aD,aM,aN,cm⟩).bind fun x8=>(some (x8.length:Int)).bind fun x9=>(bQ (fun(Mr:Int)=>(show Option ((Int)⊕((Unit)⊕(Bool)))from(some (decide ((Mr:Int)<x9))).bind fun iI=>(bif iI then(cz x8 Mr).bind fun⟨⟨gE,gj⟩,⟨Ms,Mt⟩⟩=>(eM ⟨⟨gE,gj⟩,⟨Ms,Mt⟩⟩).bind fun dR=>(some (decide ((dR:Int)<0))).bind fun iY=>(bif iY then some (.inr (.inr false))else(some (IntKind.i64.wrap (Mr+1))).bind fun gx=>some (.inl gx))else some (.inr (.inl ()))))) 0).bind fun e6=>match e6 with|.inr v6=>some v6|.inl _=>some true)
noncomputable def iv(x0:Tb):Option (Bool):=match x0 with|⟨aC,aD,aM,aN,cm⟩=>(bK ⟨aC,aD,aM,aN,cm⟩).bind fun x5=>(bif x5 then some false else(ou (fun(k:Nat) (s3:Unit)=>(show Option ((Unit)⊕(Bool))from(some ((k:Nat):Int)).bind fun p8=>(cH ⟨aC,aD,aM,aN,cm⟩ p8).bind fun iI=>(pD iI).bind fun dW=>(some (decide ((dW:Int)<0))).bind fun iA=>(bif iA then some (.inr false)else some (.inl ())))) ((IntKind.i64.wrap (Tb.vars ⟨aC,aD,aM,aN,cm⟩+((Tb.rows ⟨aC,aD,aM,aN,cm⟩).length:Int))).toNat) ()).bind fun e3=>match e3 with|.inr v3=>some v3|.inl _=>some true)
noncomputable def cQ(x0:Tb):Option (List (List Qr)):=match x0 with|⟨aC,aD,aM,aN,cm⟩=>(bK ⟨aC,aD,aM,aN,cm⟩).bind fun x6=>(bif x6 then some []else(ot (fun(k:Nat) (Ag:(List (List Qr)))=>(show Option ((List (List Qr)))from(some ((k:Nat):Int)).bind fun p9=>(cH ⟨aC,aD,aM,aN,cm⟩ p9).bind fun iA=>(zM 24 Ag [iA]).bind fun dR=>some dR)) ((IntKind.i64.wrap (Tb.vars ⟨aC,aD,aM,aN,cm⟩+((Tb.rows ⟨aC,aD,aM,aN,cm⟩).length:Int))).toNat) []).bind fun Ag=>some Ag)
noncomputable def dw(x0:Lr):Option (Bool×Int×(List (List Qr))×(List Int)×(List (List Qr))):=match x0 with|⟨aC,aD,aM,aN⟩=>(some (aD.length:Int)).bind fun dR=>(bQ (fun(s6:Int×(List (List Qr)))=>match s6 with|⟨Mu,GX⟩=>(show Option ((Int×(List (List Qr)))⊕((List (List Qr))))from(some (decide ((Mu:Int)<dR))).bind fun gx=>(bif gx then(cz aD Mu).bind fun fF=>(fY fF aC).bind fun oM=>(zM 24 GX [oM]).bind fun uB=>(some (IntKind.i64.wrap (Mu+1))).bind fun sL=>some (.inl (sL,uB))else some (.inr GX)))) (0,[])).bind fun qT=>(some (aM.length:Int)).bind fun oP=>(bQ (fun(Kl:Int×(List Int)×(List (List Qr)))=>match Kl with|⟨pL,vW,vX⟩=>(show Option ((Int×(List Int)×(List (List Qr)))⊕((List Int)×(List (List Qr))))from(some (decide ((pL:Int)<oP))).bind fun yB=>(bif yB then(some (aM.length:Int)).bind fun zS=>(some (IntKind.i64.wrap (aC+zS))).bind fun xA=>(some (IntKind.i64.wrap (xA+1))).bind fun vU=>(D4 64 vU (⟨⟨false,[]⟩,⟨false,[]⟩⟩:Qr)).bind fun uC=>(bQ (fun(EW:Int×(List Qr))=>match EW with|⟨Dz,DA⟩=>(show Option ((Int×(List Qr))⊕((List Qr)))from(some (decide ((Dz:Int)<aC))).bind fun Gc=>(bif Gc then(uX aM pL Dz).bind fun⟨⟨Mw,Jr⟩,⟨QV,QW⟩⟩=>(kQ DA Dz).bind fun EX=>(stM DA EX ⟨⟨Mw,Jr⟩,⟨QV,QW⟩⟩).bind fun Nu=>(some (IntKind.i64.wrap (Dz+1))).bind fun D6=>some (.inl (D6,Nu))else some (.inr DA)))) (0,uC)).bind fun xS=>(some (IntKind.i64.wrap (aC+pL))).bind fun Kj=>(cZ 1).bind fun⟨⟨QX,QY⟩,⟨QZ,Q0⟩⟩=>(kQ xS Kj).bind fun KH=>(stM xS KH ⟨⟨QX,QY⟩,⟨QZ,Q0⟩⟩).bind fun SB=>(some (SB.length:Int)).bind fun Km=>(some (IntKind.i64.wrap (Km-1))).bind fun KJ=>(cz aN pL).bind fun⟨⟨VN,VO⟩,⟨VP,VQ⟩⟩=>(cj ⟨⟨VN,VO⟩,⟨VP,VQ⟩⟩).bind fun⟨⟨Q1,Q2⟩,⟨Q3,Q4⟩⟩=>(kQ SB KJ).bind fun Iy=>(stM SB Iy ⟨⟨Q1,Q2⟩,⟨Q3,Q4⟩⟩).bind fun l44=>(zM 24 vX [l44]).bind fun Iz=>(some (IntKind.i64.wrap (aC+pL))).bind fun YF=>(zM 8 vW [YF]).bind fun NK=>(some (IntKind.i64.wrap (pL+1))).bind fun KL=>some (.inl (KL,NK,Iz))else some (.inr (vW,vX))))) (0,[],[])).bind fun YG=>match YG with|⟨My,jn⟩=>some (true,aC,qT,My,jn)
noncomputable def iw(x0:Lr):Option (Bool×Int×(List (List Qr))×(List Int)×(List (List Qr))):=match x0 with|⟨aC,aD,aM,aN⟩=>(iu ⟨aC,aD,aM,aN⟩).bind fun x5=>(some (!x5)).bind fun x6=>(bif x6 then none else(dw ⟨aC,aD,aM,aN⟩).bind fun⟨wE,wF,Bf,Bg,TM⟩=>some (wE,wF,Bf,Bg,TM))
noncomputable def n7(x0:List Qr)(Ev:Qr):Option (List Qr):=match Ev with|⟨⟨Ff,Fg⟩,⟨Fh,Fi⟩⟩=>(nW ⟨⟨Ff,Fg⟩,⟨Fh,Fi⟩⟩ x0).bind fun x6=>some x6
noncomputable def kL(o0:Bool)(o1:Int)(o2:List (List Qr))(o3:List Int)(o4:List (List Qr))(x0:List Qr)(Ev:Int)(c_2:Int):Option (List Qr):=(cz x0 Ev).bind fun⟨⟨wE,wF⟩,⟨Bf,Bg⟩⟩=>(eM ⟨⟨wE,wF⟩,⟨Bf,Bg⟩⟩).bind fun ek=>(some (decide ((ek:Int)=0))).bind fun iI=>(bif iI then some x0 else(cz x0 Ev).bind fun⟨⟨kg,kj⟩,⟨Fb,Fe⟩⟩=>(pB ⟨⟨kg,kj⟩,⟨Fb,Fe⟩⟩).bind fun⟨⟨uK,uL⟩,⟨Fs,Ft⟩⟩=>(kQ o4 c_2).bind fun jJ=>(o4[jJ]?).bind fun ir=>(eO ⟨⟨uK,uL⟩,⟨Fs,Ft⟩⟩ ir x0).bind fun lG=>some lG)
noncomputable def bZ(o0:Bool)(o1:Int)(o2:List (List Qr))(o3:List Int)(o4:List (List Qr))(x1:Int)(x2:Int):Option ((List (List Qr))×(List Int)×(List (List Qr))):=(cZ 1).bind fun⟨⟨EZ,E4⟩,⟨VR,VS⟩⟩=>(kQ o4 x1).bind fun kS=>(o4[kS]?).bind fun gO=>(cz gO x2).bind fun⟨⟨yQ,yR⟩,⟨yS,yT⟩⟩=>(pA ⟨⟨EZ,E4⟩,⟨VR,VS⟩⟩ ⟨⟨yQ,yR⟩,⟨yS,yT⟩⟩).bind fun⟨⟨⟨Ah,Ai⟩,⟨Aj,Ak⟩⟩,NC⟩=>(kQ o4 x1).bind fun tG=>(o4[tG]?).bind fun oZ=>(n7 oZ ⟨⟨Ah,Ai⟩,⟨Aj,Ak⟩⟩).bind fun tJ=>(kQ o4 x1).bind fun zS=>(stM o4 zS tJ).bind fun l2=>(some (l2.length:Int)).bind fun Gc=>(bQ (fun(yE:Int×(List (List Qr)))=>match yE with|⟨qH,gM⟩=>(show Option ((Int×(List (List Qr)))⊕((List (List Qr))))from(some (decide ((qH:Int)<Gc))).bind fun Mz=>(bif Mz then(kQ gM qH).bind fun wA=>(gM[wA]?).bind fun D5=>(some (decide ((qH:Int)≠x1))).bind fun KE=>b9 (fun(vm:(List (List Qr)))=>(some (IntKind.i64.wrap (qH+1))).bind fun D7=>some (.inl (D7,vm))) fun YH=>(bif KE then(kL o0 o1 o2 o3 gM D5 x2 x1).bind fun KH=>(kQ gM qH).bind fun Md=>(stM gM Md KH).bind fun l17=>YH l17 else YH gM)else some (.inr gM)))) (0,l2)).bind fun rT=>some (o2,o3,rT)
noncomputable def aA(o0:Bool)(o1:Int)(o2:List (List Qr))(o3:List Int)(o4:List (List Qr))(x1:Int)(x2:Int):Option (Int×(List (List Qr))×(List Int)×(List (List Qr))):=(bK (⟨o0,o1,o2,o3,o4⟩:Tb)).bind fun ek=>(bif ek then some (2,o2,o3,o4)else b9 (fun(Q5:Bool)=>(bif Q5 then some (1,o2,o3,o4)else(some (o3.length:Int)).bind fun oP=>(bQ (fun(GY:Int)=>(show Option ((Int)⊕((Unit)⊕(Int×(List (List Qr))×(List Int)×(List (List Qr)))))from(some (decide ((GY:Int)<oP))).bind fun yB=>(bif yB then(kQ o3 GY).bind fun tX=>(o3[tX]?).bind fun lO=>(some (decide ((lO:Int)=x2))).bind fun tJ=>(bif tJ then some (.inr (.inr (1,o2,o3,o4)))else(some (IntKind.i64.wrap (GY+1))).bind fun zS=>some (.inl zS))else some (.inr (.inl ()))))) 0).bind fun Lo=>match Lo with|.inr v16=>some v16|.inl _=>(kQ o4 x1).bind fun ri=>(o4[ri]?).bind fun Gc=>(cz Gc x2).bind fun⟨⟨VT,VU⟩,⟨VV,VW⟩⟩=>(eM ⟨⟨VT,VU⟩,⟨VV,VW⟩⟩).bind fun wA=>(some (decide ((wA:Int)=0))).bind fun D5=>(bif D5 then some (7,o2,o3,o4)else(bZ o0 o1 o2 o3 o4 x1 x2).bind fun⟨l20,l21,l22⟩=>(kQ l21 x1).bind fun Om=>(stM l21 Om x2).bind fun l24=>some (0,l20,l24,l22)))) fun VJ=>(some (decide ((x1:Int)<0))).bind fun dW=>(bif dW then some true else(some (o4.length:Int)).bind fun kS=>(some (decide ((kS:Int)≤x1))).bind fun gO=>some gO).bind fun Q6=>(bif Q6 then some true else(some (decide ((x2:Int)<0))).bind fun ir=>some ir).bind fun YI=>(bif YI then some true else(dr (⟨o0,o1,o2,o3,o4⟩:Tb)).bind fun iq=>(some (decide ((iq:Int)≤x2))).bind fun uB=>some uB).bind fun YJ=>VJ YJ)
end Go.Proofs.YtningmnklfpfjaaGreat
namespace Go.Proofs.YtningmnklfpfjaaGreat
open Go.Fw Go.Fw.Z Go.RowKit
instance:AJ Tryz.prog 15:=⟨by kernel_rfl⟩
instance:AJ Tryz.prog 16:=⟨by kernel_rfl⟩
instance:AJ Tryz.prog 17:=⟨by kernel_rfl⟩
instance:AJ Tryz.prog 30:=⟨by kernel_rfl⟩
instance:AJ Tryz.prog 34:=⟨by kernel_rfl⟩
instance:AJ Tryz.prog 216:=⟨by kernel_rfl⟩
theorem cX{x0:Tb}{r:Bool}(h:bK x0=some r):Pure Tryz.prog 57 [ref (sE x0)] (.v (.bool r)):=by
 obtain⟨aC,aD,aM,aN,cm⟩:=x0
 refine ay Tryz.func57 rfl (Nat.le_of_ble_eq_true rfl) (fun cO M vs hvs=>?_)
 unfold bK at h
 refine sr<|ag rfl<|dn<|qq ?_
 refine aF h (fun j3=>AS.bJ 12 [(2,.sv (.v (.bool j3)))] [] []) (fun h=>?_) (fun acj h=>?_)
 refine af<|mv rfl<|RT.Yz .none rfl rfl T<|mv rfl<|bE h fun VM nC h=>gm rfl<|RT.bT (.some rfl rfl) rfl T<|RT.bh (.some rfl rfl) rfl T rfl<|gr rfl rfl<|lE (F nC) fun ek gC nC=>Ki rfl _ gC ?_
 obtain rfl:=O nC
 exact pF rfl<|ag rfl<|dn<|⟨ek,h,wR []⟩
 try dsimp only
 refine ae.n<|aj ?_
 obtain rfl:=O h
 exact R1 rfl
theorem jo{x0:Tb}{r:Int}(h:dr x0=some r):Pure Tryz.prog 58 [ref (sE x0)] (.v (.int .i64 r)):=by
 obtain⟨aC,aD,aM,aN,cm⟩:=x0
 refine ay Tryz.func58 rfl (Nat.le_of_ble_eq_true rfl) (fun cO M vs hvs=>?_)
 unfold dr at h
 refine sr<|ag rfl<|dn<|qq<|ai mixed<|mv rfl<|RT.bT .none rfl T<|RT.bh .none rfl T rfl<|lr rfl rfl<|mv rfl<|RT.bT .none rfl T<|RT.bh .none rfl T rfl<|lr rfl rfl<|lE h fun iI nh h=>ln rfl nh<|lE h fun dW fj h=>ad _ rfl rfl fj<|ag rfl ?_
 refine RT.done ⟨by kernel_rfl,?_⟩
 refine ae.n<|aj ?_
 obtain rfl:=O h
 exact R1 rfl
theorem wX{x0:Tb}{x1:Int}{r:List Qr}(h:g9 x0 x1=some r):Pure Tryz.prog 64 [ref (sE x0),.v (.int .i64 x1)] (slc 4 (List.map eQ r)):=by
 obtain⟨aC,aD,aM,aN,cm⟩:=x0
 refine ay Tryz.func64 rfl (Nat.le_of_ble_eq_true rfl) (fun cO M vs hvs=>?_)
 unfold g9 at h
 refine sr<|aI rfl (imp_nil (n:=4) (e:=eQ))<|dn<|sr<|mv rfl<|RT.bT .none rfl T<|RT.bh .none rfl T rfl<|lr rfl rfl<|lE h fun dW fj h=>ln rfl fj<|bE h fun iA gW h=>RT.kW (n:=4) (e:=eQ) .none rfl rfl T rfl T (by rfl) (by decide) (by exact⟨SV.aa _,imp_nil,SV.aa _,imp_nil,trivial⟩) gW<|an (s:=.row _) rfl<|dn<|qq<|sr<|mv rfl<|RT.bT .none rfl T<|RT.bh .none rfl T rfl ?_
 refine lr rfl rfl<|lE h fun fF iM h=>ln rfl iM<|mv rfl<|dn<|bE h fun e8 Gr yM=>?_
 refine aT (fun(rS:(List Qr))=>AS.bJ 34 [(5,.row 13)] [] [(13,TR 43 4 eQ rS)]) (fun rS=>rS=e8) ?_ (fun rS Gs=>?_)
 refine ak ?_
 refine aU Gr (fun s8=>AS.bJ 34 [(1,.sv (.v (.int .i64 x1))),(5,.row 13),(17,.sv (slc 1 (List.map (eS 4 eQ) cm))),(18,.sv (.v (.int .i64 fF))),(19,.sv (.v (.int .i64 s8.1)))] [] [(13,TR 43 4 eQ s8.2)]) (wR []) (fun s8 y8 G8 h Gt Gu=>?_)
 obtain⟨Fq,Dq⟩:=s8
 try dsimp only
 refine sr<|lE h fun gO lW h=>ls _ rfl rfl lW<|dn<|qq ?_
 cases gO
 refine cF<|bf<|ae.x<|ae.x<|aK.x<|ae.n ?_
 obtain rfl:=O (F h)
 exact⟨Dq,Gu _ rfl,wR []⟩
 refine cT<|aH<|ae.n<|qq<|ak<|sr<|mv rfl<|bE (V h) fun jB nS h=>ix rfl rfl nS<|lr rfl rfl<|ag rfl<|ag rfl<|dn<|af<|mo (s:=.row _) rfl<|mv rfl<|mv rfl<|mv rfl ?_
 obtain⟨⟨⟨iQ,iS⟩,⟨Dr,Ds⟩⟩,sS,h⟩:=bS h
 refine ix rfl rfl sS<|RT.iW (cs:=[_,_,_,_]) .none rfl T rfl rfl ?_
 obtain⟨⟨⟨o5,o6⟩,⟨Jm,Jn⟩⟩,uJ,h⟩:=bS h
 refine cl (gX uJ) ⟨rfl,trivial⟩<|bE h fun rf xC h=>iR rfl rfl rfl xC<|bE h fun yC pg h=>sA ⟨⟨o5,o6⟩,⟨Jm,Jn⟩⟩ rfl rfl rfl pg<|RT.done<|aK.n<|ae.n<|af<|lE h fun iD kV h=>ad _ rfl rfl kV<|mv rfl<|RT.done ?_
 obtain rfl:=O h
 exact ae.n ⟨(iD,yC),Gt _ rfl,wR []⟩
 subst Gs
 try dsimp only
 refine ae.n<|sr<|mo (s:=.row _) rfl<|an (s:=.row _) rfl<|dn<|bt (dD (i:=13) (E1:=43) (n:=4) (e:=eQ) (l:=rS) rfl)<|aj ?_
 obtain rfl:=O yM
 exact R1 rfl
theorem wY{x0:Tb}{x1:Int}(N:Nat){r:List Qr}(h:g9 x0 x1=some r):cL Tryz.prog 64 N [ref (sE x0),.v (.int .i64 x1)] (nw N (slc 4 (List.map (fQ N) r))):=by
 obtain⟨aC,aD,aM,aN,cm⟩:=x0
 refine aO Tryz.func64 rfl (Nat.le_of_ble_eq_true rfl) (fun cO M vs hN hvs=>?_)
 unfold g9 at h
 refine sr<|aI rfl (aB (N:=N) (n:=4) (e:=(fQ N)))<|dn<|sr<|mv rfl<|RT.bT .none rfl T<|RT.bh .none rfl T rfl<|lr rfl rfl<|lE h fun dW fj h=>ln rfl fj<|bE h fun iA gW h=>RT.kW (n:=4) (e:=(fQ N)) .none rfl rfl T rfl T (by rfl) (by decide) (by exact⟨SV.aa _,aB,SV.aa _,aB,trivial⟩) gW<|an (s:=.row _) rfl<|dn<|qq<|sr<|mv rfl<|RT.bT .none rfl T ?_
 refine RT.bh .none rfl T rfl<|lr rfl rfl<|lE h fun fF iM h=>ln rfl iM<|mv rfl<|dn<|bE h fun e8 Gr yM=>?_
 refine aT (fun(rS:(List Qr))=>AS.bJ 34 [(5,.row 13)] [] [(13,TR 43 4 (fQ N) rS)]) (fun rS=>rS=e8) ?_ (fun rS Gs=>?_)
 refine ak ?_
 refine aU Gr (fun s8=>AS.bJ 34 [(1,.sv (.v (.int .i64 x1))),(5,.row 13),(17,.sv (slc 1 (List.map (eS 4 eQ) cm))),(18,.sv (.v (.int .i64 fF))),(19,.sv (.v (.int .i64 s8.1)))] [] [(13,TR 43 4 (fQ N) s8.2)]) (wR []) (fun s8 y8 G8 h Gt Gu=>?_)
 obtain⟨Fq,Dq⟩:=s8
 try dsimp only
 refine sr<|lE h fun gO lW h=>ls _ rfl rfl lW<|dn<|qq ?_
 cases gO
 refine cF<|bf<|ae.x<|ae.x<|aK.x<|ae.n ?_
 obtain rfl:=O (F h)
 exact⟨Dq,Gu _ rfl,wR []⟩
 refine cT<|aH<|ae.n<|qq<|ak<|sr<|mv rfl<|bE (V h) fun jB nS h=>ix rfl rfl nS<|lr rfl rfl<|ag rfl<|ag rfl<|dn<|af<|mo (s:=.row _) rfl<|mv rfl<|mv rfl<|mv rfl ?_
 obtain⟨⟨⟨iQ,iS⟩,⟨Dr,Ds⟩⟩,sS,h⟩:=bS h
 refine ix rfl rfl sS<|RT.iW (cs:=[_,_,_,_]) .none rfl T rfl rfl ?_
 obtain⟨⟨⟨o5,o6⟩,⟨Jm,Jn⟩⟩,uJ,h⟩:=bS h
 refine RT.aX .none (qG N uJ) hN rfl ⟨rfl,trivial⟩ T<|bE h fun rf xC h=>iR rfl rfl rfl xC<|bE h fun yC pg h=>sA ⟨⟨o5,o6⟩,⟨Jm,Jn⟩⟩ rfl rfl rfl pg<|RT.done<|aK.n<|ae.n<|af<|lE h fun iD kV h=>ad _ rfl rfl kV<|mv rfl<|RT.done ?_
 obtain rfl:=O h
 exact ae.n ⟨(iD,yC),Gt _ rfl,wR []⟩
 subst Gs
 try dsimp only
 refine ae.n<|sr<|mo (s:=.row _) rfl<|an (s:=.row _) rfl<|dn<|jm (i:=13) (E1:=43) (n:=4) (e:=(fQ N)) (l:=rS) hN (fun _ h=>h) rfl<|aj ?_
 obtain rfl:=O yM
 exact R1 rfl
theorem mz{x0:Tb}{x1:Int}{r:List Qr}(h:jE x0 x1=some r):Pure Tryz.prog 78 [ref (sE x0),.v (.int .i64 x1)] (slc 4 (List.map eQ r)):=by
 obtain⟨aC,aD,aM,aN,cm⟩:=x0
 refine ay Tryz.func78 rfl (Nat.le_of_ble_eq_true rfl) (fun cO M vs hvs=>?_)
 unfold jE at h
 refine sr<|aI rfl (imp_nil (n:=4) (e:=eQ))<|dn<|qq<|ai mixed<|mv rfl<|RT.bT .none rfl T<|RT.bh .none rfl T rfl<|lr rfl rfl<|lE h fun dW fj h=>ln rfl fj<|mv rfl<|RT.bT .none rfl T<|RT.bh .none rfl T rfl<|lr rfl rfl<|lE h fun gx lH h=>ad _ rfl rfl lH<|bE h fun fF iM h=>RT.kW (n:=4) (e:=eQ) .none rfl rfl T rfl T (by rfl) (by decide) (by exact⟨SV.aa _,imp_nil,SV.aa _,imp_nil,trivial⟩) iM ?_
 refine an (s:=.row _) rfl ?_
 refine RT.done ⟨by kernel_rfl,?_⟩
 refine ae.n<|qq<|sr<|mv rfl<|mv rfl<|RT.bT .none rfl T<|RT.bh .none rfl T rfl<|lr rfl rfl<|lE h fun ir mP h=>ls _ rfl rfl mP<|dn ?_
 refine aF h (fun Yv=>AS.bJ 54 [(5,.row 18)] [] [(18,TR 43 4 eQ Yv)]) (fun h=>?_) (fun QK h=>?_)
 cases ir
 exact fs<|⟨fF,(F h),wR []⟩
 refine cT<|qq<|sr<|mv rfl<|RT.bT .none rfl T<|RT.bh .none rfl T rfl<|lr rfl rfl<|lE (V h) fun iq jw h=>ln rfl jw<|mv rfl<|dn<|bE h fun e18 ag9 DB=>?_
 refine aT (fun(xQ:(List Qr))=>AS.bJ 54 [(0,.sv (ref [.v (.bool aC),.v (.int .i64 aD),slc 1 (List.map (eS 4 eQ) aM),slc 1 (List.map bj aN),slc 1 (List.map (eS 4 eQ) cm)])),(1,.sv (.v (.int .i64 x1))),(5,.row 18)] [] [(18,TR 43 4 eQ xQ)]) (fun xQ=>xQ=e18) ?_ (fun xQ aha=>?_)
 refine ak ?_
 refine aU ag9 (fun s18=>AS.bJ 54 [(0,.sv (ref [.v (.bool aC),.v (.int .i64 aD),slc 1 (List.map (eS 4 eQ) aM),slc 1 (List.map bj aN),slc 1 (List.map (eS 4 eQ) cm)])),(1,.sv (.v (.int .i64 x1))),(5,.row 18),(28,.sv (slc 1 (List.map (eS 4 eQ) aM))),(29,.sv (.v (.int .i64 iq))),(30,.sv (.v (.int .i64 s18.1)))] [] [(18,TR 43 4 eQ s18.2)]) (wR []) (fun s18 y18 G18 h ahb ahc=>?_)
 obtain⟨Dt,Du⟩:=s18
 try dsimp only
 refine sr<|lE h fun rf xC h=>ls _ rfl rfl xC<|dn<|qq ?_
 cases rf
 refine cF<|bf<|ae.x<|ae.x<|aK.x<|ae.n ?_
 obtain rfl:=O (F h)
 exact⟨Du,ahc _ rfl,wR []⟩
 refine cT<|aH<|ae.n<|qq<|ak<|sr<|mv rfl<|bE (V h) fun sL sV h=>ix rfl rfl sV<|lr rfl rfl<|ag rfl<|ag rfl<|dn<|af<|mo (s:=.row _) rfl<|mv rfl<|mv rfl<|mv rfl ?_
 obtain⟨⟨⟨QL,QM⟩,⟨QN,QO⟩⟩,CM,h⟩:=bS h
 refine ix rfl rfl CM<|RT.iW (cs:=[_,_,_,_]) .none rfl T rfl rfl<|bE h fun tG zX h=>iR rfl rfl rfl zX<|bE h fun l20 acn h=>sA ⟨⟨QL,QM⟩,⟨QN,QO⟩⟩ rfl rfl rfl acn<|RT.done<|aK.n<|ae.n<|af<|lE h fun oZ xE h=>ad _ rfl rfl xE<|mv rfl<|RT.done ?_
 obtain rfl:=O h
 exact ae.n ⟨(oZ,l20),ahb _ rfl,wR []⟩
 subst aha
 try dsimp only
 refine ae.n<|ai mixed<|mo (s:=.row _) rfl<|mv rfl<|RT.bT .none rfl T<|RT.bh .none rfl T rfl<|lr rfl rfl<|lE DB fun rI h48 DB=>ln rfl h48<|mv rfl<|lE DB fun ri A8 DB=>ad _ rfl rfl A8 ?_
 obtain⟨⟨⟨CE,CF⟩,⟨QS,QT⟩⟩,Gq,DB⟩:=bS DB
 refine cl (jU Gq) ⟨rfl,trivial⟩<|bE DB fun uc yL DB=>iR rfl rfl rfl yL<|bE DB fun l22 aco DB=>sA ⟨⟨CE,CF⟩,⟨QS,QT⟩⟩ rfl rfl rfl aco ?_
 refine RT.done ⟨by kernel_rfl,?_⟩
 exact ae.n<|⟨l22,DB,wR []⟩
 try dsimp only
 refine ae.n<|sr<|mo (s:=.row _) rfl<|an (s:=.row _) rfl<|dn<|bt (dD (i:=18) (E1:=43) (n:=4) (e:=eQ) (l:=QK) rfl)<|aj ?_
 obtain rfl:=O h
 exact R1 rfl
theorem Bn{x0:Tb}{x1:List Qr}{r:List Qr}(h:fC x0 x1=some r):Pure Tryz.prog 77 [ref (sE x0),slc 4 (List.map eQ x1)] (slc 4 (List.map eQ r)):=by
 obtain⟨aC,aD,aM,aN,cm⟩:=x0
 refine ay Tryz.func77 rfl (Nat.le_of_ble_eq_true rfl) (fun cO M vs hvs=>?_)
 unfold fC at h
 refine sr<|aI rfl (imp_nil (n:=4) (e:=eQ))<|dn<|qq<|ai mixed<|mv rfl<|RT.bT .none rfl T<|RT.bh .none rfl T rfl<|lr rfl rfl<|lE h fun dW fj h=>ln rfl fj<|mv rfl<|RT.bT .none rfl T<|RT.bh .none rfl T rfl<|lr rfl rfl<|lE h fun gx lH h=>ad _ rfl rfl lH<|bE h fun fF iM h=>RT.kW (n:=4) (e:=eQ) .none rfl rfl T rfl T (by rfl) (by decide) (by exact⟨SV.aa _,imp_nil,SV.aa _,imp_nil,trivial⟩) iM ?_
 refine an (s:=.row _) rfl ?_
 refine RT.done ⟨by kernel_rfl,?_⟩
 refine ae.n<|qq<|sr<|mv rfl<|lE h fun gO lW h=>ln rfl lW<|mv rfl<|dn<|bt (dD (i:=18) (E1:=43) (n:=4) (e:=eQ) (l:=fF) rfl)<|bE h fun Lo GZ mA=>?_
 refine aT (fun(vk:(List Qr))=>AS.bJ 57 [(5,.sv (slc 4 (List.map eQ vk)))] [] []) (fun vk=>vk=Lo) ?_ (fun vk G0=>?_)
 refine ak ?_
 refine aU GZ (fun Jo=>AS.bJ 57 [(0,.sv (ref [.v (.bool aC),.v (.int .i64 aD),slc 1 (List.map (eS 4 eQ) aM),slc 1 (List.map bj aN),slc 1 (List.map (eS 4 eQ) cm)])),(5,.sv (slc 4 (List.map eQ Jo.1))),(19,.sv (slc 4 (List.map eQ x1))),(20,.sv (.v (.int .i64 gO))),(21,.sv (.v (.int .i64 Jo.2)))] [] []) (wR []) (fun Jo y16 G16 h G3 Bo=>?_)
 obtain⟨vi,nn⟩:=Jo
 try dsimp only
 refine sr<|lE h fun jB nS h=>ls _ rfl rfl nS<|dn<|qq ?_
 cases jB
 refine cF<|bf<|ae.x<|ae.x<|aK.x<|ae.n ?_
 obtain rfl:=O (F h)
 exact⟨vi,Bo _ rfl,wR []⟩
 refine cT<|aH<|ae.n<|qq<|ak<|sr<|mv rfl ?_
 obtain⟨⟨⟨rL,rM⟩,⟨rN,rO⟩⟩,mP,h⟩:=bS (V h)
 refine ix rfl rfl mP<|RT.iW (cs:=[_,_,_,_]) .none rfl T rfl rfl<|al (cs:=[.v (.bool false),slc 1 (List.map ah []),.v (.bool false),slc 1 (List.map ah [])]) (by exact⟨SV.aa _,imp_nil,SV.aa _,imp_nil,trivial⟩) rfl<|ag rfl<|so rfl rfl rfl<|dn<|qq ?_
 refine aF h (fun j19=>AS.bJ 57 [(0,.sv (ref [.v (.bool aC),.v (.int .i64 aD),slc 1 (List.map (eS 4 eQ) aM),slc 1 (List.map bj aN),slc 1 (List.map (eS 4 eQ) cm)])),(5,.sv (slc 4 (List.map eQ vi))),(6,.sv (.v (.int .i64 nn))),(7,.ptr 7 0),(19,.sv (slc 4 (List.map eQ x1))),(20,.sv (.v (.int .i64 gO))),(21,.sv (.v (.int .i64 nn))),(42,.sv (.v (.bool j19)))] [(7,⟨43,[.sv (.v (.bool rL)),.sv (slc 1 (List.map ah rM)),.sv (.v (.bool rN)),.sv (slc 1 (List.map ah rO))]⟩)] []) (fun h=>?_) (fun Dv h=>?_)
 refine ai mixed<|mv rfl<|RT.bT .none rfl T<|RT.bh .none rfl T rfl<|lr rfl rfl<|mv rfl<|bE h fun rf xC h=>ix rfl rfl xC<|lr rfl rfl<|mv rfl<|RT.bT .none rfl T<|RT.bh .none rfl T rfl<|lr rfl rfl<|lE h fun sK yN h=>ls _ rfl rfl yN<|mv rfl<|bE h fun Lm vc h=>?_
 cases sK
 obtain rfl:=O (F vc)
 refine ww<|ww<|ww<|pF rfl ?_
 refine RT.done ⟨by kernel_rfl,?_⟩
 exact ae.n<|⟨false,h,wR []⟩
 refine gl rfl rfl (.cons rfl (.cons rfl (.cons rfl (.cons rfl (.nil)))))<|bE (V vc) fun lO oc vc=>gc (jk oc) ⟨rfl,trivial⟩<|lE vc fun tG zX vc=>gq _ rfl rfl (F6 (p:=lO) (q:=0) zX) ?_
 obtain rfl:=O vc
 refine pT rfl ?_
 refine RT.done ⟨by kernel_rfl,?_⟩
 exact ae.n<|⟨tG,h,wR []⟩
 try dsimp only
 refine ae.n ?_
 refine aF h (fun Yb=>AS.bJ 57 [(0,.sv (ref [.v (.bool aC),.v (.int .i64 aD),slc 1 (List.map (eS 4 eQ) aM),slc 1 (List.map bj aN),slc 1 (List.map (eS 4 eQ) cm)])),(5,.sv (slc 4 (List.map eQ Yb))),(19,.sv (slc 4 (List.map eQ x1))),(20,.sv (.v (.int .i64 gO))),(21,.sv (.v (.int .i64 nn)))] [] []) (fun h=>?_) (fun Jp h=>?_)
 cases Dv
 exact fs<|⟨vi,(F h),wR []⟩
 refine cT<|ai mixed<|ld rfl rfl (.cons rfl (.cons rfl (.cons rfl (.cons rfl (.nil)))))<|mv rfl<|mv rfl<|RT.bT .none rfl T<|RT.bh .none rfl T rfl<|lr rfl rfl<|mv rfl<|bE (V h) fun ri A8 h=>ix rfl rfl A8<|lr rfl rfl<|bE h fun uc yL h=>cl (mz yL) ⟨rfl,rfl,trivial⟩<|mv rfl<|bE h fun yI Er h=>cl (rQ Er) ⟨rfl,rfl,rfl,trivial⟩<|ag rfl ?_
 refine RT.done ⟨by kernel_rfl,?_⟩
 exact ae.n<|⟨yI,h,wR []⟩
 try dsimp only
 refine aK.n<|ae.n<|af<|lE h fun wA IJ h=>ad _ rfl rfl IJ<|mv rfl<|RT.done ?_
 obtain rfl:=O h
 exact ae.n ⟨(Jp,wA),G3 _ rfl,wR []⟩
 subst G0
 try dsimp only
 refine ae.n<|sr<|mv rfl<|ag rfl<|dn<|aj ?_
 obtain rfl:=O mA
 exact R1 rfl
theorem tO{x0:Tb}{x1:List Qr}(N:Nat){r:List Qr}(h:fC x0 x1=some r):cL Tryz.prog 77 N [ref (sE x0),slc 4 (List.map eQ x1)] (nw N (slc 4 (List.map (fQ N) r))):=by
 obtain⟨aC,aD,aM,aN,cm⟩:=x0
 refine aO Tryz.func77 rfl (Nat.le_of_ble_eq_true rfl) (fun cO M vs hN hvs=>?_)
 unfold fC at h
 refine sr<|aI rfl (aB (N:=N) (n:=4) (e:=(fQ N)))<|dn<|qq<|ai mixed<|mv rfl<|RT.bT .none rfl T<|RT.bh .none rfl T rfl<|lr rfl rfl<|lE h fun dW fj h=>ln rfl fj<|mv rfl<|RT.bT .none rfl T<|RT.bh .none rfl T rfl<|lr rfl rfl<|lE h fun gx lH h=>ad _ rfl rfl lH<|bE h fun fF iM h=>RT.kW (n:=4) (e:=(fQ N)) .none rfl rfl T rfl T (by rfl) (by decide) (by exact⟨SV.aa _,aB,SV.aa _,aB,trivial⟩) iM ?_
 refine an (s:=.row _) rfl ?_
 refine RT.done ⟨by kernel_rfl,?_⟩
 refine ae.n<|qq<|sr<|mv rfl<|lE h fun gO lW h=>ln rfl lW<|mv rfl<|dn<|jm (i:=18) (E1:=43) (n:=4) (e:=(fQ N)) (l:=fF) hN (fun _ h=>h) rfl<|bE h fun Lo GZ mA=>?_
 refine aT (fun(vk:(List Qr))=>AS.bJ 57 [(5,.sv (nw N (slc 4 (List.map (fQ N) vk))))] [] []) (fun vk=>vk=Lo) ?_ (fun vk G0=>?_)
 refine ak ?_
 refine aU GZ (fun Jo=>AS.bJ 57 [(0,.sv (ref [.v (.bool aC),.v (.int .i64 aD),slc 1 (List.map (eS 4 eQ) aM),slc 1 (List.map bj aN),slc 1 (List.map (eS 4 eQ) cm)])),(5,.sv (nw N (slc 4 (List.map (fQ N) Jo.1)))),(19,.sv (slc 4 (List.map eQ x1))),(20,.sv (.v (.int .i64 gO))),(21,.sv (.v (.int .i64 Jo.2)))] [] []) (wR []) (fun Jo y16 G16 h G3 Bo=>?_)
 obtain⟨vi,nn⟩:=Jo
 try dsimp only
 refine sr<|lE h fun jB nS h=>ls _ rfl rfl nS<|dn<|qq ?_
 cases jB
 refine cF<|bf<|ae.x<|ae.x<|aK.x<|ae.n ?_
 obtain rfl:=O (F h)
 exact⟨vi,Bo _ rfl,wR []⟩
 refine cT<|aH<|ae.n<|qq<|ak<|sr<|mv rfl ?_
 obtain⟨⟨⟨rL,rM⟩,⟨rN,rO⟩⟩,mP,h⟩:=bS (V h)
 refine ix rfl rfl mP<|RT.iW (cs:=[_,_,_,_]) .none rfl T rfl rfl<|al (cs:=[.v (.bool false),nw N (slc 1 (List.map ah [])),.v (.bool false),nw N (slc 1 (List.map ah []))]) (by exact⟨SV.aa _,aB,SV.aa _,aB,trivial⟩) rfl<|ag rfl<|so rfl rfl rfl<|dn<|qq ?_
 refine aF h (fun j19=>AS.bJ 57 [(0,.sv (ref [.v (.bool aC),.v (.int .i64 aD),slc 1 (List.map (eS 4 eQ) aM),slc 1 (List.map bj aN),slc 1 (List.map (eS 4 eQ) cm)])),(5,.sv (nw N (slc 4 (List.map (fQ N) vi)))),(6,.sv (.v (.int .i64 nn))),(7,.ptr 7 0),(19,.sv (slc 4 (List.map eQ x1))),(20,.sv (.v (.int .i64 gO))),(21,.sv (.v (.int .i64 nn))),(42,.sv (.v (.bool j19)))] [(7,⟨43,[.sv (.v (.bool rL)),.sv (slc 1 (List.map ah rM)),.sv (.v (.bool rN)),.sv (slc 1 (List.map ah rO))]⟩)] []) (fun h=>?_) (fun Dv h=>?_)
 refine ai mixed<|mv rfl<|RT.bT .none rfl T<|RT.bh .none rfl T rfl<|lr rfl rfl<|mv rfl<|bE h fun rf xC h=>ix rfl rfl xC<|lr rfl rfl<|mv rfl<|RT.bT .none rfl T<|RT.bh .none rfl T rfl<|lr rfl rfl<|lE h fun sK yN h=>ls _ rfl rfl yN<|mv rfl<|bE h fun Lm vc h=>?_
 cases sK
 obtain rfl:=O (F vc)
 refine ww<|ww<|ww<|pF rfl ?_
 refine RT.done ⟨by kernel_rfl,?_⟩
 exact ae.n<|⟨false,h,wR []⟩
 refine gl rfl rfl (.cons rfl (.cons rfl (.cons rfl (.cons rfl (.nil)))))<|bE (V vc) fun lO oc vc=>gc (jk oc) ⟨rfl,trivial⟩<|lE vc fun tG zX vc=>gq _ rfl rfl (F6 (p:=lO) (q:=0) zX) ?_
 obtain rfl:=O vc
 refine pT rfl ?_
 refine RT.done ⟨by kernel_rfl,?_⟩
 exact ae.n<|⟨tG,h,wR []⟩
 try dsimp only
 refine ae.n ?_
 refine aF h (fun Yb=>AS.bJ 57 [(0,.sv (ref [.v (.bool aC),.v (.int .i64 aD),slc 1 (List.map (eS 4 eQ) aM),slc 1 (List.map bj aN),slc 1 (List.map (eS 4 eQ) cm)])),(5,.sv (nw N (slc 4 (List.map (fQ N) Yb)))),(19,.sv (slc 4 (List.map eQ x1))),(20,.sv (.v (.int .i64 gO))),(21,.sv (.v (.int .i64 nn)))] [] []) (fun h=>?_) (fun Jp h=>?_)
 cases Dv
 exact fs<|⟨vi,(F h),wR []⟩
 refine cT<|ai mixed<|ld rfl rfl (.cons rfl (.cons rfl (.cons rfl (.cons rfl (.nil)))))<|mv rfl<|mv rfl<|RT.bT .none rfl T<|RT.bh .none rfl T rfl<|lr rfl rfl<|mv rfl<|bE (V h) fun ri A8 h=>ix rfl rfl A8<|lr rfl rfl<|bE h fun uc yL h=>cl (mz yL) ⟨rfl,rfl,trivial⟩<|mv rfl<|bE h fun yI Er h=>RT.aX .none ((Ae N Er).w (args':=[_,_,_]) ⟨(SV.aa _),(SV.aa _),nwQ,trivial⟩) hN rfl ⟨rfl,rfl,rfl,trivial⟩ T ?_
 refine ag rfl ?_
 refine RT.done ⟨by kernel_rfl,?_⟩
 exact ae.n<|⟨yI,h,wR []⟩
 try dsimp only
 refine aK.n<|ae.n<|af<|lE h fun wA IJ h=>ad _ rfl rfl IJ<|mv rfl<|RT.done ?_
 obtain rfl:=O h
 exact ae.n ⟨(Jp,wA),G3 _ rfl,wR []⟩
 subst G0
 try dsimp only
 refine ae.n<|sr<|mv rfl<|ag rfl<|dn<|aj ?_
 obtain rfl:=O mA
 exact R1 rfl
theorem G4{x0:Tb}(N:Nat){r:List Int}(h:ee x0=some r):cL Tryz.prog 17 N [ref (sE x0)] (nw N (slc 1 (List.map bj r))):=by
 obtain⟨aC,aD,aM,aN,cm⟩:=x0
 refine aO Tryz.func17 rfl (Nat.le_of_ble_eq_true rfl) (fun cO M vs hN hvs=>?_)
 unfold ee at h
 refine sr<|aI rfl (aB (N:=N) (n:=1) (e:=bj))<|dn<|qq<|sr<|mv rfl<|bE h fun x5 h5 h=>cl (cX h5) ⟨rfl,trivial⟩<|dn ?_
 cases x5
 refine fs<|sr<|mv rfl<|RT.bT .none rfl T<|RT.bh .none rfl T rfl<|lr rfl rfl<|lE (F h) fun ek gC h=>ln rfl gC<|bE h fun iI nh h=>RT.kW (n:=1) (e:=bj) .none rfl rfl T rfl T (by rfl) (by decide) (by exact⟨SV.aa _,trivial⟩) nh<|an (s:=.row _) rfl<|dn<|sr<|mo (s:=.row _) rfl<|mv rfl<|RT.bT .none rfl T<|RT.bh .none rfl T rfl<|lr rfl rfl ?_
 refine RT.VL (l:=iI) (k:=aN) (e:=bj) .none rfl rfl rfl T rfl<|dn<|sr<|mo (s:=.row _) rfl<|an (s:=.row _) rfl<|dn<|jm (i:=11) (E1:=3) (n:=1) (e:=bj) (l:=(vN iI aN)) hN (fun _ h=>h) rfl<|aj ?_
 obtain rfl:=O h
 exact R1 rfl
 refine cT<|sr<|aI rfl (aB (N:=N) (n:=1) (e:=bj))<|dn<|aj<|ae.r ?_
 obtain rfl:=O (V h)
 exact R1 rfl
theorem Lp{x0:Tb}{r:List Qr}(h:e9 x0=some r):Pure Tryz.prog 19 [ref (sE x0)] (slc 4 (List.map eQ r)):=by
 obtain⟨aC,aD,aM,aN,cm⟩:=x0
 refine ay Tryz.func19 rfl (Nat.le_of_ble_eq_true rfl) (fun cO M vs hvs=>?_)
 unfold e9 at h
 refine sr<|aI rfl (imp_nil (n:=4) (e:=eQ))<|dn<|qq<|sr<|mv rfl<|bE h fun x4 h4 h=>cl (cX h4) ⟨rfl,trivial⟩<|dn ?_
 cases x4
 refine fs<|sr<|mv rfl<|mv rfl<|bE (F h) fun x7 h7 h=>cl (jo h7) ⟨rfl,trivial⟩<|bE h fun x8 h8 h=>cl (wX h8) ⟨rfl,rfl,trivial⟩<|ag rfl<|dn<|aj ?_
 obtain rfl:=O h
 exact R1 rfl
 refine cT<|sr<|aI rfl (imp_nil (n:=4) (e:=eQ))<|dn<|aj<|ae.r ?_
 obtain rfl:=O (V h)
 exact R1 rfl
theorem xT{x0:Tb}(N:Nat){r:List Qr}(h:e9 x0=some r):cL Tryz.prog 19 N [ref (sE x0)] (nw N (slc 4 (List.map (fQ N) r))):=by
 obtain⟨aC,aD,aM,aN,cm⟩:=x0
 refine aO Tryz.func19 rfl (Nat.le_of_ble_eq_true rfl) (fun cO M vs hN hvs=>?_)
 unfold e9 at h
 refine sr<|aI rfl (aB (N:=N) (n:=4) (e:=(fQ N)))<|dn<|qq<|sr<|mv rfl<|bE h fun x4 h4 h=>cl (cX h4) ⟨rfl,trivial⟩<|dn ?_
 cases x4
 refine fs<|sr<|mv rfl<|mv rfl<|bE (F h) fun x7 h7 h=>cl (jo h7) ⟨rfl,trivial⟩<|bE h fun x8 h8 h=>RT.aX .none (wY N h8) hN rfl ⟨rfl,rfl,trivial⟩ T<|ag rfl<|dn<|aj ?_
 obtain rfl:=O h
 exact R1 rfl
 refine cT<|sr<|aI rfl (aB (N:=N) (n:=4) (e:=(fQ N)))<|dn<|aj<|ae.r ?_
 obtain rfl:=O (V h)
 exact R1 rfl
theorem xU{x0:Tb}{x1:Int}{r:List Qr}(h:cH x0 x1=some r):Pure Tryz.prog 28 [ref (sE x0),.v (.int .i64 x1)] (slc 4 (List.map eQ r)):=by
 obtain⟨aC,aD,aM,aN,cm⟩:=x0
 refine ay Tryz.func28 rfl (Nat.le_of_ble_eq_true rfl) (fun cO M vs hvs=>?_)
 unfold cH at h
 refine sr<|aI rfl (imp_nil (n:=4) (e:=eQ))<|dn<|qq<|qq ?_
 refine aF h (fun j6=>AS.bJ 26 [(0,.sv (ref [.v (.bool aC),.v (.int .i64 aD),slc 1 (List.map (eS 4 eQ) aM),slc 1 (List.map bj aN),slc 1 (List.map (eS 4 eQ) cm)])),(1,.sv (.v (.int .i64 x1))),(16,.sv (.v (.bool j6)))] [] []) (fun h=>?_) (fun Jq h=>?_)
 refine af<|mv rfl<|bE h fun x6 h6 h=>cl (cX h6) ⟨rfl,trivial⟩<|mv rfl<|bE h fun QU On h=>?_
 cases x6
 refine gm rfl<|lE (F On) fun x9 h9 On=>RT.lss (.some rfl rfl) _ rfl rfl T h9 ?_
 obtain rfl:=O On
 refine pF rfl<|mv rfl<|bE h fun acp CW h=>?_
 cases x9
 refine gm rfl<|gm rfl<|bE (F CW) fun fg jv CW=>gc (jo jv) ⟨rfl,trivial⟩<|lE CW fun dR fT CW=>RT.geq (.some rfl rfl) _ rfl rfl T fT ?_
 obtain rfl:=O CW
 exact pF rfl<|dn<|⟨dR,h,wR []⟩
 obtain rfl:=O (V CW)
 exact ww<|ww<|ww<|ww<|pT rfl<|dn<|⟨true,h,wR []⟩
 obtain rfl:=O (V On)
 refine ww<|ww<|pT rfl<|mv rfl<|bE h fun acq hg9 h=>?_
 obtain rfl:=O (V hg9)
 exact ww<|ww<|ww<|ww<|pT rfl<|dn<|⟨true,h,wR []⟩
 try dsimp only
 refine ae.n ?_
 cases Jq
 refine fs<|sr<|mv rfl<|mv rfl<|mv rfl<|bE (F h) fun gO lW h=>cl (wX lW) ⟨rfl,rfl,trivial⟩<|bE h fun ik ni h=>cl (Bn ni) ⟨rfl,rfl,trivial⟩<|mv rfl<|mv rfl<|bE h fun ir mP h=>cl (mz mP) ⟨rfl,rfl,trivial⟩<|bE h fun vS qc h=>cl (Ld qc) ⟨rfl,rfl,trivial⟩<|ag rfl<|dn<|aj ?_
 obtain rfl:=O h
 exact R1 rfl
 refine cT<|sr<|aI rfl (imp_nil (n:=4) (e:=eQ))<|dn<|aj<|ae.r ?_
 obtain rfl:=O (V h)
 exact R1 rfl
theorem pM{x0:Tb}{x1:Int}(N:Nat){r:List Qr}(h:cH x0 x1=some r):cL Tryz.prog 28 N [ref (sE x0),.v (.int .i64 x1)] (nw N (slc 4 (List.map (fQ N) r))):=by
 obtain⟨aC,aD,aM,aN,cm⟩:=x0
 refine aO Tryz.func28 rfl (Nat.le_of_ble_eq_true rfl) (fun cO M vs hN hvs=>?_)
 unfold cH at h
 refine sr<|aI rfl (aB (N:=N) (n:=4) (e:=(fQ N)))<|dn<|qq<|qq ?_
 refine aF h (fun j6=>AS.bJ 26 [(0,.sv (ref [.v (.bool aC),.v (.int .i64 aD),slc 1 (List.map (eS 4 eQ) aM),slc 1 (List.map bj aN),slc 1 (List.map (eS 4 eQ) cm)])),(1,.sv (.v (.int .i64 x1))),(16,.sv (.v (.bool j6)))] [] []) (fun h=>?_) (fun Jq h=>?_)
 refine af<|mv rfl<|bE h fun x6 h6 h=>cl (cX h6) ⟨rfl,trivial⟩<|mv rfl<|bE h fun QU On h=>?_
 cases x6
 refine gm rfl<|lE (F On) fun x9 h9 On=>RT.lss (.some rfl rfl) _ rfl rfl T h9 ?_
 obtain rfl:=O On
 refine pF rfl<|mv rfl<|bE h fun acp CW h=>?_
 cases x9
 refine gm rfl<|gm rfl<|bE (F CW) fun fg jv CW=>gc (jo jv) ⟨rfl,trivial⟩<|lE CW fun dR fT CW=>RT.geq (.some rfl rfl) _ rfl rfl T fT ?_
 obtain rfl:=O CW
 exact pF rfl<|dn<|⟨dR,h,wR []⟩
 obtain rfl:=O (V CW)
 exact ww<|ww<|ww<|ww<|pT rfl<|dn<|⟨true,h,wR []⟩
 obtain rfl:=O (V On)
 refine ww<|ww<|pT rfl<|mv rfl<|bE h fun acq hg9 h=>?_
 obtain rfl:=O (V hg9)
 exact ww<|ww<|ww<|ww<|pT rfl<|dn<|⟨true,h,wR []⟩
 try dsimp only
 refine ae.n ?_
 cases Jq
 refine fs<|sr<|mv rfl<|mv rfl<|mv rfl<|bE (F h) fun gO lW h=>RT.aX .none (wY N lW) hN rfl ⟨rfl,rfl,trivial⟩ T<|bE h fun ik ni h=>RT.aX .none ((tO N ni).w (args':=[_,_]) ⟨(SV.aa _),nwQ,trivial⟩) hN rfl ⟨rfl,rfl,trivial⟩ T<|mv rfl<|mv rfl<|bE h fun ir mP h=>cl (mz mP) ⟨rfl,rfl,trivial⟩<|bE h fun vS qc h=>RT.aX .none ((Lk N qc).w (args':=[_,_]) ⟨nwQ,(SV.aa _),trivial⟩) hN rfl ⟨rfl,rfl,trivial⟩ T ?_
 refine ag rfl<|dn<|aj ?_
 obtain rfl:=O h
 exact R1 rfl
 refine cT<|sr<|aI rfl (aB (N:=N) (n:=4) (e:=(fQ N)))<|dn<|aj<|ae.r ?_
 obtain rfl:=O (V h)
 exact R1 rfl
theorem G5{x0:Tb}(N:Nat){r:List Qr}(h:kC x0=some r):cL Tryz.prog 38 N [ref (sE x0)] (nw N (slc 4 (List.map (fQ N) r))):=by
 obtain⟨aC,aD,aM,aN,cm⟩:=x0
 refine aO Tryz.func38 rfl (Nat.le_of_ble_eq_true rfl) (fun cO M vs hN hvs=>?_)
 unfold kC at h
 refine sr<|aI rfl (aB (N:=N) (n:=4) (e:=(fQ N)))<|dn<|qq<|sr<|mv rfl<|bE h fun x4 h4 h=>cl (cX h4) ⟨rfl,trivial⟩<|dn ?_
 cases x4
 refine fs<|sr<|mv rfl<|mv rfl<|bE (F h) fun x7 h7 h=>RT.aX .none (xT N h7) hN rfl ⟨rfl,trivial⟩ T<|bE h fun x8 h8 h=>RT.aX .none ((tO N h8).w (args':=[_,_]) ⟨(SV.aa _),nwQ,trivial⟩) hN rfl ⟨rfl,rfl,trivial⟩ T<|ag rfl<|dn<|aj ?_
 obtain rfl:=O h
 exact R1 rfl
 refine cT<|sr<|aI rfl (aB (N:=N) (n:=4) (e:=(fQ N)))<|dn<|aj<|ae.r ?_
 obtain rfl:=O (V h)
 exact R1 rfl
theorem Bp{x0:Tb}(N:Nat){r:List Qr}(h:fD x0=some r):cL Tryz.prog 21 N [ref (sE x0)] (nw N (slc 4 (List.map (fQ N) r))):=by
 obtain⟨aC,aD,aM,aN,cm⟩:=x0
 refine aO Tryz.func21 rfl (Nat.le_of_ble_eq_true rfl) (fun cO M vs hN hvs=>?_)
 unfold fD at h
 refine sr<|aI rfl (aB (N:=N) (n:=4) (e:=(fQ N)))<|dn<|qq<|sr<|mv rfl<|bE h fun x7 h7 h=>cl (cX h7) ⟨rfl,trivial⟩<|dn ?_
 cases x7
 refine fs<|sr<|mv rfl<|RT.bT .none rfl T<|RT.bh .none rfl T rfl<|lr rfl rfl<|bE (F h) fun dW fj h=>RT.kW (n:=4) (e:=(fQ N)) .none rfl rfl T rfl T (by rfl) (by decide) (by exact⟨SV.aa _,aB,SV.aa _,aB,trivial⟩) fj<|an (s:=.row _) rfl<|dn<|qq<|sr<|mv rfl<|bE h fun fg jv h=>RT.aX .none (xT N jv) hN rfl ⟨rfl,trivial⟩ T<|lE h fun dR fT h=>RT.Fl .none rfl T fT<|mv rfl ?_
 refine dn<|bE h fun PI Gj A7=>?_
 refine aT (fun(Dy:(List Qr))=>AS.bJ 45 [(3,.row 12)] [] [(12,TR 43 4 (fQ N) Dy)]) (fun Dy=>Dy=PI) ?_ (fun Dy Gk=>?_)
 refine ak ?_
 refine aU Gj (fun Gg=>AS.bJ 45 [(0,.sv (ref [.v (.bool aC),.v (.int .i64 aD),slc 1 (List.map (eS 4 eQ) aM),slc 1 (List.map bj aN),slc 1 (List.map (eS 4 eQ) cm)])),(3,.row 12),(14,.sv (nw N (slc 4 (List.map (fQ N) fg)))),(15,.sv (.v (.int .i64 dR))),(16,.sv (.v (.int .i64 Gg.1)))] [] [(12,TR 43 4 (fQ N) Gg.2)]) (wR []) (fun Gg y10 G10 h Gl CH=>?_)
 obtain⟨Dw,Dx⟩:=Gg
 try dsimp only
 refine sr<|lE h fun gx lH h=>ls _ rfl rfl lH<|dn<|qq ?_
 cases gx
 refine cF<|bf<|ae.x<|ae.x<|aK.x<|ae.n ?_
 obtain rfl:=O (F h)
 exact⟨Dx,CH _ rfl,wR []⟩
 refine cT<|aH<|ae.n<|qq<|ak<|sr<|mv rfl ?_
 obtain⟨⟨⟨mU,mW⟩,⟨Dc,Dd⟩⟩,kJ,h⟩:=bS (V h)
 refine RT.acf .none rfl rfl T kJ<|RT.iW (cs:=[_,_,_,_]) .none rfl T rfl rfl<|al (cs:=[.v (.bool false),nw N (slc 1 (List.map ah [])),.v (.bool false),nw N (slc 1 (List.map ah []))]) (by exact⟨SV.aa _,aB,SV.aa _,aB,trivial⟩) rfl<|ag rfl<|so rfl rfl rfl<|dn<|qq<|ai mixed<|mv rfl<|RT.bT .none rfl T<|RT.bh .none rfl T rfl<|lr rfl rfl<|mv rfl<|bE h fun lG oQ h=>ix rfl rfl oQ ?_
 refine lr rfl rfl<|mv rfl<|RT.bT .none rfl T<|RT.bh .none rfl T rfl<|lr rfl rfl<|lE h fun iD kV h=>ls _ rfl rfl kV ?_
 refine RT.done ⟨by kernel_rfl,?_⟩
 refine ae.n ?_
 refine aF h (fun Nz=>AS.bJ 45 [(0,.sv (ref [.v (.bool aC),.v (.int .i64 aD),slc 1 (List.map (eS 4 eQ) aM),slc 1 (List.map bj aN),slc 1 (List.map (eS 4 eQ) cm)])),(3,.row 12),(14,.sv (nw N (slc 4 (List.map (fQ N) fg)))),(15,.sv (.v (.int .i64 dR))),(16,.sv (.v (.int .i64 Dw)))] [] [(12,TR 43 4 (fQ N) Nz)]) (fun h=>?_) (fun Ln h=>?_)
 cases iD
 exact fs<|⟨Dx,(F h),wR []⟩
 refine cT<|ai mixed<|mo (s:=.row _) rfl<|mv rfl<|RT.bT .none rfl T<|RT.bh .none rfl T rfl<|lr rfl rfl<|mv rfl<|bE (V h) fun tX CM h=>ix rfl rfl CM<|lr rfl rfl<|ld rfl rfl (.cons rfl (.cons rfl (.cons rfl (.cons rfl (.nil)))))<|bE h fun oZ xE h=>iR rfl rfl rfl xE<|bE h fun SF acr h=>sA ⟨⟨mU,mW⟩,⟨Dc,Dd⟩⟩ rfl rfl rfl acr ?_
 refine RT.done ⟨by kernel_rfl,?_⟩
 exact ae.n<|⟨SF,h,wR []⟩
 try dsimp only
 refine aK.n<|ae.n<|af<|lE h fun tJ BF h=>ad _ rfl rfl BF<|mv rfl<|RT.done ?_
 obtain rfl:=O h
 exact ae.n ⟨(tJ,Ln),Gl _ rfl,wR []⟩
 subst Gk
 try dsimp only
 refine ae.n<|sr<|mo (s:=.row _) rfl<|an (s:=.row _) rfl<|dn<|jm (i:=12) (E1:=43) (n:=4) (e:=(fQ N)) (l:=Dy) hN (fun _ h=>h) rfl<|aj ?_
 obtain rfl:=O A7
 exact R1 rfl
 refine cT<|sr<|aI rfl (aB (N:=N) (n:=4) (e:=(fQ N)))<|dn<|aj<|ae.r ?_
 obtain rfl:=O (V h)
 exact R1 rfl
theorem Js{x0:Tb}(N:Nat){r:List (List Qr)}(h:fN x0=some r):cL Tryz.prog 18 N [ref (sE x0)] (nw N (slc 1 (List.map (fS N 4 (fQ N)) r))):=by
 obtain⟨aC,aD,aM,aN,cm⟩:=x0
 refine aO Tryz.func18 rfl (Nat.le_of_ble_eq_true rfl) (fun cO M vs hN hvs=>?_)
 unfold fN at h
 refine sr<|aI rfl (aB (N:=N) (n:=1) (e:=(fS N 4 (fQ N))))<|dn<|qq<|sr<|mv rfl<|bE h fun x7 h7 h=>cl (cX h7) ⟨rfl,trivial⟩<|dn ?_
 cases x7
 refine fs<|sr<|ag rfl<|dn<|bt (fR 3 304 23 1 rfl rfl T)<|qq<|sr<|mv rfl<|RT.bT .none rfl T<|RT.bh .none rfl T rfl<|lr rfl rfl<|lE (F h) fun dW fj h=>ln rfl fj<|mv rfl<|dn<|bE h fun e6 CI jd=>?_
 refine aT (fun(xR:(List (List Qr)))=>AS.bJ 26 [(3,.row 306)] [] [(306,TR 23 1 (fS N 4 (fQ N)) xR)]) (fun xR=>xR=e6) ?_ (fun xR CJ=>?_)
 refine ak ?_
 refine aU CI (fun s6=>AS.bJ 26 [(0,.sv (ref [.v (.bool aC),.v (.int .i64 aD),slc 1 (List.map (eS 4 eQ) aM),slc 1 (List.map bj aN),slc 1 (List.map (eS 4 eQ) cm)])),(3,.row 306),(11,.sv (slc 1 (List.map (eS 4 eQ) cm))),(12,.sv (.v (.int .i64 dW))),(13,.sv (.v (.int .i64 s6.1)))] [] [(306,TR 23 1 (fS N 4 (fQ N)) s6.2)]) (cy (fun i=>bif Nat.beq i 306 then 304 else i) rfl rfl rfl rfl rfl ⟨.sv (SV.aa _),.row rfl,.sv (SV.aa _),.sv (SV.aa _),.sv (SV.aa _),trivial⟩ trivial ⟨⟨_,rfl,bB.refl _⟩,trivial⟩ (fun i hi=>by rw[bp (show i≠306 by omega)];rfl)) (fun s6 y6 G6 h CK yJ=>?_)
 obtain⟨ze,GW⟩:=s6
 try dsimp only
 refine sr<|lE h fun fg jv h=>ls _ rfl rfl jv<|dn<|qq ?_
 cases fg
 refine cF<|bf<|ae.x<|ae.x<|aK.x<|ae.n ?_
 obtain rfl:=O (F h)
 exact⟨GW,yJ _ rfl,wR []⟩
 refine cT<|aH<|ae.n<|qq<|ak<|sr<|bE (V h) fun dR fT h=>ix rfl rfl fT<|lr rfl rfl<|ag rfl<|dn<|af<|mo (s:=.row _) rfl<|mv rfl<|mv rfl<|bE h fun gO lW h=>cl (jo lW) ⟨rfl,trivial⟩<|bE h fun ik ni h=>RT.aX .none (Ex N ni) hN rfl ⟨rfl,rfl,trivial⟩ T<|bl (l:=[ik]) (e:=(fS N 4 (fQ N))) (.one rfl (.nil)) rfl rfl rfl rfl rfl rfl<|bE h fun jJ qb h=>aR (k:=[ik]) (e:=(fS N 4 (fQ N))) rfl rfl rfl qb ?_
 refine an (s:=.row _) rfl<|RT.done<|aK.n<|ae.n<|af<|lE h fun ir mP h=>ad _ rfl rfl mP<|mv rfl<|RT.done ?_
 obtain rfl:=O h
 exact ae.n ⟨(ir,jJ),CK _ rfl,cy (fun i=>bif Nat.beq i 306 then 23 else i) rfl rfl rfl rfl rfl ⟨.sv (SV.aa _),.row rfl,.sv (SV.aa _),.sv (SV.aa _),.sv (SV.aa _),trivial⟩ trivial ⟨⟨_,rfl,bB.refl _⟩,trivial⟩ (fun i hi=>by rw[bp (show i≠306 by omega)];rfl)⟩
 subst CJ
 try dsimp only
 refine ae.n<|sr<|mo (s:=.row _) rfl<|an (s:=.row _) rfl<|dn<|jm (i:=306) (E1:=23) (n:=1) (e:=(fS N 4 (fQ N))) (l:=xR) hN (fun _ h=>h) rfl<|aj ?_
 obtain rfl:=O jd
 exact R1 rfl
 refine cT<|sr<|aI rfl (aB (N:=N) (n:=1) (e:=(fS N 4 (fQ N))))<|dn<|aj<|ae.r ?_
 obtain rfl:=O (V h)
 exact R1 rfl
theorem Bq{x0:Tb}{r:Bool}(h:iT x0=some r):Pure Tryz.prog 35 [ref (sE x0)] (.v (.bool r)):=by
 obtain⟨aC,aD,aM,aN,cm⟩:=x0
 refine ay Tryz.func35 rfl (Nat.le_of_ble_eq_true rfl) (fun cO M vs hvs=>?_)
 unfold iT at h
 refine sr<|ag rfl<|dn<|qq<|sr<|mv rfl<|bE h fun x6 h6 h=>cl (cX h6) ⟨rfl,trivial⟩<|dn ?_
 cases x6
 refine fs<|qq<|sr<|mv rfl<|bE (F h) fun x8 h8 h=>cl (Lp h8) ⟨rfl,trivial⟩<|lE h fun x9 h9 h=>ln rfl h9<|mv rfl<|dn<|bE h fun e6 CI jd=>?_
 refine aT (fun(Gm:Unit)=>AS.bJ 18 [] [] []) (fun Gm=>.inl Gm=e6) ?_ (fun Gm CJ=>?_)
 refine ak ?_
 refine aU CI (fun s6=>AS.bJ 18 [(8,.sv (slc 4 (List.map eQ x8))),(9,.sv (.v (.int .i64 x9))),(10,.sv (.v (.int .i64 s6)))] [] []) (wR []) (fun Mr y6 G6 h CK yJ=>?_)
 try dsimp only
 refine sr<|lE h fun iI nh h=>ls _ rfl rfl nh<|dn<|qq ?_
 cases iI
 refine cF<|bf<|ae.x<|ae.x<|aK.x<|ae.n ?_
 obtain rfl:=O (F h)
 exact⟨(),yJ _ rfl,wR []⟩
 refine cT<|aH<|ae.n<|qq<|ak<|sr ?_
 obtain⟨⟨⟨gE,gj⟩,⟨Ms,Mt⟩⟩,fj,h⟩:=bS (V h)
 refine ix rfl rfl fj<|RT.iW (cs:=[_,_,_,_]) .none rfl T rfl rfl<|al (cs:=[.v (.bool false),slc 1 (List.map ah []),.v (.bool false),slc 1 (List.map ah [])]) (by exact⟨SV.aa _,imp_nil,SV.aa _,imp_nil,trivial⟩) rfl<|so rfl rfl rfl<|dn<|sr<|ld rfl rfl (.cons rfl (.cons rfl (.cons rfl (.cons rfl (.nil)))))<|bE h fun dR fT h=>cl (jk fT) ⟨rfl,trivial⟩<|lE h fun iY kX h=>ls _ rfl rfl kX<|dn ?_
 cases iY
 refine cF<|aH<|aK.n<|ae.n<|af<|lE (F h) fun gx lH h=>ad _ rfl rfl lH<|mv rfl<|RT.done ?_
 obtain rfl:=O h
 exact ae.n ⟨gx,CK _ rfl,wR []⟩
 refine cT<|sr<|ag rfl<|dn<|aj<|aK.r<|ae.r ?_
 obtain rfl:=O (V h)
 have PJ:=yJ _ rfl
 subst PJ
 refine ae.r<|aK.r<|ae.r<|ae.r ?_
 obtain rfl:=O jd
 exact R1 rfl
 subst CJ
 try dsimp only
 refine ae.n<|sr<|ag rfl<|dn<|aj ?_
 obtain rfl:=O jd
 exact R1 rfl
 refine cT<|sr<|ag rfl<|dn<|aj<|ae.r ?_
 obtain rfl:=O (V h)
 exact R1 rfl
theorem vn(t:Tb):Pure Tryz.prog 65 [ref (sE t)] (iC 114 [ref [ref (sE t)]]):=by
 refine ay Tryz.func65 rfl (Nat.le_of_ble_eq_true rfl) (fun cO M vs hvs=>?_)
 exact sr<|RT.uf .none (s:=.sv _) rfl T rfl rfl<|ag rfl<|dn<|sr<|RT.makeFunc .none (.box rfl (.nil)) T<|an (s:=.eU _ _) rfl<|dn<|bt (gw (i:=1) rfl [ref (sE t)] (.cons rfl .nil) .any 0 [(2,.eU 114 [.val (ref [ref (sE t)])])] (fun _ _ _=>trivial) (qN.h (l:=[ref (sE t)])) ⟨@FT.eU _ _ _ _ _ 2 114 [.box 1] rfl,trivial⟩)<|bt (F3 2 (iC 114 [ref [ref (sE t)]]) (fun _ _ h=>F4 h))<|aj<|⟨.inr rfl,FZ (.tmp rfl (.nil)) rfl⟩
theorem TN(n:Int):IntKind.i64.wrap n≤9223372036854775807:=by
 show(if(true&&decide (n%18446744073709551616≥9223372036854775808))=true then n%18446744073709551616-18446744073709551616 else n%18446744073709551616)≤9223372036854775807
 by_cases h:n%18446744073709551616≥9223372036854775808
 ·simp only[h,decide_true,Bool.and_self,if_true];omega
 ·simp only[h,decide_false,Bool.and_false,Bool.false_eq_true,if_false];omega
theorem width_eq(t:Tb):dr t=some (IntKind.i64.wrap (t.vars+(t.rows.length:Int))):=by
 cases t;rfl
theorem vo(t:Tb):Iter Tryz.prog 114 [ref [ref (sE t)]] (IntKind.i64.wrap (t.vars+(t.rows.length:Int))).toNat (fun k=>[.v (.int .i64 (k:Int))]):=by
 refine sD Tryz.func114 rfl rfl (Nat.le_of_ble_eq_true rfl) (fun cO M O l J hJ yg hr=>?_)
 have hw:=TN (t.vars+(t.rows.length:Int))
 have hwd:=width_eq t
 generalize (IntKind.i64.wrap (t.vars+(t.rows.length:Int)))=W at hw hwd hr⊢
 refine aS ?_
 refine af ?_
 refine RT.di .none rfl rfl (tl rfl) ?_
 refine RT.call .none (jo hwd) rfl ⟨rfl,trivial⟩ (tl rfl) ?_
 refine RT.mv .none rfl (tl rfl) ?_
 refine RT.done ?_
 refine ae.n ?_
 refine ak ?_
 refine ym (I:=fun x:{i:Nat//i≤W.toNat}=>AS.bJ 14 [(0,.sv (.v (.func (.yield l) #[] #[]))),(1,.sv (ref [ref (sE t)])),(5,.sv (.v (.int .i64 W))),(6,.sv (.v (.int .i64 ((x.1:Nat):Int))))] [] [] (x.1)) (μ:=fun x=>W.toNat-x.1) ⟨0,by omega⟩ (by(try dsimp only);exact cy id rfl rfl rfl rfl rfl ⟨.sv (by first|exact SV.aa _|exact SV.au (by omega)|exact SV.au (by push_cast;omega)|exact SV.au (by dsimp only;omega)|exact SV.imp_eq (by simp)),.sv (by first|exact SV.aa _|exact SV.au (by omega)|exact SV.au (by push_cast;omega)|exact SV.au (by dsimp only;omega)|exact SV.imp_eq (by simp)),.sv (by first|exact SV.aa _|exact SV.au (by omega)|exact SV.au (by push_cast;omega)|exact SV.au (by dsimp only;omega)|exact SV.imp_eq (by simp)),.sv (by first|exact SV.aa _|exact SV.au (by omega)|exact SV.au (by push_cast;omega)|exact SV.au (by dsimp only;omega)|exact SV.imp_eq (by simp)),trivial⟩ trivial trivial (fun _ _=>rfl)) ?_
 rintro⟨i,Vc⟩
 try dsimp only
 rcases Nat.lt_or_eq_of_le Vc with hi|hi
 ·
  refine aS ?_
  refine af ?_
  refine RT.lss .none (true) rfl rfl (tl rfl) (by simp;omega) ?_
  refine RT.done ?_
  refine ae.n ?_
  refine aS ?_
  refine cU rfl ?_
  refine aH ?_
  refine ae.n ?_
  refine aS ?_
  refine ak ?_
  refine aS ?_
  refine af ?_
  refine RT.mv .none rfl (tl rfl) ?_
  refine RT.EP .none rfl (tl rfl) ?_
  refine RT.done ?_
  refine ae.n ?_
  refine aS ?_
  refine af ?_
  refine RT.mv .none rfl (tl rfl) ?_
  refine RT.mv .none rfl (tl rfl) ?_
  refine RT.yield .none hr rfl (fun _ h=>h) rfl (i) rfl rfl (by omega) (by exact⟨rfl,trivial⟩) (tl rfl) (fun yb=>?_)
  cases yb
  ·
   refine RT.not .none rfl (tl rfl) true rfl ?_
   refine RT.done ?_
   refine ae.n ?_
   refine cU rfl ?_
   refine aj ?_
   refine aK.r ?_
   refine ae.r ?_
   refine ae.r ?_
   refine aK.r ?_
   exact⟨.inr rfl,(fun h=>by cases h)⟩
  ·
   refine RT.not .none rfl (tl rfl) false rfl ?_
   refine RT.done ?_
   refine ae.n ?_
   refine eV rfl ?_
   refine aH ?_
   refine aK.n ?_
   refine ae.n ?_
   refine af ?_
   refine RT.add .none (((i:Nat):Int)+1) rfl rfl (tl rfl) (mZ (by omega)) ?_
   refine RT.mv .none rfl (tl rfl) ?_
   refine RT.done ?_
   refine ae.n ?_
   refine⟨⟨i+1,by omega⟩,(by dsimp only;omega),?_⟩
   try dsimp only
   exact cy id rfl rfl rfl rfl rfl ⟨.sv (by first|exact SV.aa _|exact SV.au (by omega)|exact SV.au (by push_cast;omega)|exact SV.au (by dsimp only;omega)|exact SV.imp_eq (by simp)),.sv (by first|exact SV.aa _|exact SV.au (by omega)|exact SV.au (by push_cast;omega)|exact SV.au (by dsimp only;omega)|exact SV.imp_eq (by simp)),.sv (by first|exact SV.aa _|exact SV.au (by omega)|exact SV.au (by push_cast;omega)|exact SV.au (by dsimp only;omega)|exact SV.imp_eq (by simp)),.sv (by first|exact SV.aa _|exact SV.au (by omega)|exact SV.au (by push_cast;omega)|exact SV.au (by dsimp only;omega)|exact SV.imp_eq (by simp)),trivial⟩ trivial trivial (fun _ _=>rfl)
 ·
  subst hi
  refine aS ?_
  refine af ?_
  refine RT.lss .none (false) rfl rfl (tl rfl) (by simp;omega) ?_
  refine RT.done ?_
  refine ae.n ?_
  refine aS ?_
  refine eV rfl ?_
  refine bf ?_
  refine ae.x ?_
  refine ae.x ?_
  refine aK.x ?_
  exact⟨.inl rfl,(fun _=>rfl)⟩
theorem DC{x0:Tb}{r:Bool}(h:iv x0=some r):Pure Tryz.prog 42 [ref (sE x0)] (.v (.bool r)):=by
 obtain⟨aC,aD,aM,aN,cm⟩:=x0
 refine ay Tryz.func42 rfl (Nat.le_of_ble_eq_true rfl) (fun cO M vs hvs=>?_)
 unfold iv at h
 refine sr<|RT.uf .none (s:=.sv _) rfl T rfl rfl<|al (cs:=[.v (.bool false)]) (by exact⟨SV.aa _,trivial⟩) rfl<|dn<|qq<|sr<|lV rfl rfl rfl<|bE h fun x5 h5 h=>cl (cX h5) ⟨rfl,trivial⟩<|dn ?_
 cases x5
 refine fs<|qq<|sr<|lV rfl rfl rfl<|cl (vn ⟨aC,aD,aM,aN,cm⟩) ⟨rfl,trivial⟩<|dn<|ak<|bE (F h) fun e3 S6 Qx=>?_
 obtain⟨m3,st3,hs3,ht3,hn3⟩:=zO S6
 refine nB (vo ⟨aC,aD,aM,aN,cm⟩) (fun _ _ _ _ _=>trivial) rfl (fun k=>AS.bJ 14 [(1,.ptr 1 0),(2,.ptr 2 0),(7,.sv (iC 114 [ref [ref [.v (.bool aC),.v (.int .i64 aD),slc 1 (List.map (eS 4 eQ) aM),slc 1 (List.map bj aN),slc 1 (List.map (eS 4 eQ) cm)]]]))] [(2,⟨4,[.sv (.v (.bool false))]⟩),(1,⟨30,[.sv (ref [.v (.bool aC),.v (.int .i64 aD),slc 1 (List.map (eS 4 eQ) aM),slc 1 (List.map bj aN),slc 1 (List.map (eS 4 eQ) cm)])]⟩)] []) [2,1] rfl (fun _=>⟨rfl,rfl⟩) (om rfl) (fun _=>rfl) (oq rfl) (by(try dsimp only);(try dsimp only);exact cy id rfl rfl rfl rfl rfl ⟨.ptr,.ptr,.sv (SV.aa _),trivial⟩ ⟨⟨_,rfl,⟨.sv (SV.aa _),trivial⟩⟩,⟨_,rfl,⟨.sv (SV.aa _),trivial⟩⟩,trivial⟩ trivial (fun _ _=>rfl)) m3 (fun k hk hkm D hD=>?_) (fun hdn=>?_)
 obtain⟨y3,h,hG3,hE3⟩:=ht3 k hk hkm
 dsimp only[AS.L4,oY]
 try dsimp only at h
 refine lE h fun p8 hp8 h=>?_
 rw[hp8]
 refine af<|ag rfl<|RT.done ?_
 refine ae.n ⟨rfl,?_⟩
 dsimp only[AS.yy]
 refine ak<|sr<|lV rfl rfl rfl<|mv rfl<|bE h fun iI nh h=>cl (xU nh) ⟨rfl,rfl,trivial⟩<|bE h fun dW fj h=>cl (I6 fj) ⟨rfl,trivial⟩<|lE h fun iA gW h=>ls _ rfl rfl gW<|dn ?_
 cases iA
 refine cF<|aH<|aK.n ?_
 obtain rfl:=O (F h)
 obtain⟨hm3,hq3⟩:=hG3 _ rfl
 exact⟨hm3,rfl,rfl,wR []⟩
 refine cT<|sr<|RT.oh (cells:=[_]) .none (s:=.sv _) rfl rfl rfl T rfl<|dn<|aj<|aK.r ?_
 obtain rfl:=O (V h)
 have he3:=hE3 _ rfl
 subst he3
 refine⟨rfl,rfl,?_⟩
 refine aK.r<|ae.r ?_
 obtain rfl:=O Qx
 exact RZ (.one rfl rfl rfl (.nil))
 have hd3:=hn3 hdn
 subst hd3
 obtain⟨ee3,Qy⟩:∃q,st3 ((IntKind.i64.wrap (Tb.vars ⟨aC,aD,aM,aN,cm⟩+((Tb.rows ⟨aC,aD,aM,aN,cm⟩).length:Int))).toNat)=q:=⟨_,rfl⟩
 rw[Qy]at Qx
 try dsimp only
 refine aK.n<|ae.n<|sr<|RT.oh (cells:=[_]) .none (s:=.sv _) rfl rfl rfl T rfl<|dn<|aj ?_
 obtain rfl:=O Qx
 exact RZ (.one rfl rfl rfl (.nil))
 refine cT<|sr<|RT.oh (cells:=[_]) .none (s:=.sv _) rfl rfl rfl T rfl<|dn<|aj<|ae.r ?_
 obtain rfl:=O (V h)
 exact RZ (.one rfl rfl rfl (.nil))
theorem wG{x0:Tb}(N:Nat){r:List (List Qr)}(h:cQ x0=some r):cL Tryz.prog 20 N [ref (sE x0)] (nw N (slc 1 (List.map (fS N 4 (fQ N)) r))):=by
 obtain⟨aC,aD,aM,aN,cm⟩:=x0
 refine aO Tryz.func20 rfl (Nat.le_of_ble_eq_true rfl) (fun cO M vs hN hvs=>?_)
 unfold cQ at h
 refine sr<|RT.uf .none (s:=.sv _) rfl T rfl rfl<|aI rfl (aB (N:=N) (n:=1) (e:=(fS N 4 (fQ N))))<|dn<|qq<|sr<|lV rfl rfl rfl<|bE h fun x6 h6 h=>cl (cX h6) ⟨rfl,trivial⟩<|dn ?_
 cases x6
 refine fs<|sr<|RT.alloc .none T rfl rfl<|dn<|bt (vQ 3 0 302 23 1 rfl rfl rfl T)<|qq<|sr<|lV rfl rfl rfl<|cl (vn ⟨aC,aD,aM,aN,cm⟩) ⟨rfl,trivial⟩<|dn<|ak<|bE (F h) fun Ag Tr Ts=>?_
 obtain⟨Mh,Tt,Tu,Tv⟩:=jA Tr
 refine fW (vo ⟨aC,aD,aM,aN,cm⟩) (fun _ _ _ _ _=>trivial) rfl (fun k=>AS.bJ 17 [(1,.ptr 1 0),(3,.ptr 3 0),(8,.sv (iC 114 [ref [ref [.v (.bool aC),.v (.int .i64 aD),slc 1 (List.map (eS 4 eQ) aM),slc 1 (List.map bj aN),slc 1 (List.map (eS 4 eQ) cm)]]]))] [(3,⟨22,[.row 304]⟩),(1,⟨30,[.sv (ref [.v (.bool aC),.v (.int .i64 aD),slc 1 (List.map (eS 4 eQ) aM),slc 1 (List.map bj aN),slc 1 (List.map (eS 4 eQ) cm)])]⟩)] [(304,TR 23 1 (fS N 4 (fQ N)) (Mh k))]) [3,1] rfl (fun _=>⟨rfl,rfl⟩) (om rfl) (fun _=>rfl) (oq rfl) (by(try dsimp only);rw[Tt];(try dsimp only);exact cy (fun i=>bif Nat.beq i 304 then 302 else i) rfl rfl rfl rfl rfl ⟨.ptr,.ptr,.sv (SV.aa _),trivial⟩ ⟨⟨_,rfl,⟨.row rfl,trivial⟩⟩,⟨_,rfl,⟨.sv (SV.aa _),trivial⟩⟩,trivial⟩ ⟨⟨_,rfl,bB.refl _⟩,trivial⟩ (fun i hi=>by rw[bp (show i≠304 by omega)];rfl)) (fun k hk D hD=>?_) ?_
 have h:=Tu k hk
 obtain⟨Ag,IG⟩:∃q,Mh k=q:=⟨_,rfl⟩
 rw[IG]at h⊢
 dsimp only[AS.L4,oY]
 try dsimp only at h
 refine lE h fun p9 hp9 h=>?_
 rw[hp9]
 refine af<|ag rfl<|RT.done ?_
 refine ae.n ⟨rfl,?_⟩
 dsimp only[AS.yy]
 refine ak<|ai mixed<|RT.c7 .none (s:=.row _) rfl rfl rfl T<|lV rfl rfl rfl<|mv rfl<|bE h fun iA gW h=>RT.aX .none (pM N gW) (Nat.le_trans hN hD) rfl ⟨rfl,rfl,trivial⟩ T<|bl (l:=[iA]) (e:=(fS N 4 (fQ N))) (.one rfl (.nil)) rfl rfl rfl rfl rfl rfl<|bE h fun dR fT h=>aR (k:=[iA]) (e:=(fS N 4 (fQ N))) rfl rfl rfl fT<|RT.iH (cells:=[_]) .none rfl rfl rfl rfl T rfl ?_
 refine RT.done ⟨by kernel_rfl,?_⟩
 refine aK.n ?_
 replace h:=Option.some.inj h
 refine⟨trivial,rfl,rfl,?_⟩
 try dsimp only
 rw[←h]
 try dsimp only
 exact cy (fun i=>bif Nat.beq i 304 then 15 else i) rfl rfl rfl rfl rfl ⟨.ptr,.ptr,.sv (SV.aa _),trivial⟩ ⟨⟨_,rfl,⟨.row rfl,trivial⟩⟩,⟨_,rfl,⟨.sv (SV.aa _),trivial⟩⟩,trivial⟩ ⟨⟨_,rfl,bB.refl _⟩,trivial⟩ (fun i hi=>by rw[bp (show i≠304 by omega)];rfl)
 rw[Tv]
 try dsimp only
 refine aK.n<|ae.n<|sr<|RT.c7 .none (s:=.row _) rfl rfl rfl T<|an (s:=.row _) rfl<|dn<|jm (i:=304) (E1:=23) (n:=1) (e:=(fS N 4 (fQ N))) (l:=Ag) hN (fun _ h=>h) rfl<|aj ?_
 obtain rfl:=O Ts
 exact R1 rfl
 refine cT<|sr<|aI rfl (aB (N:=N) (n:=1) (e:=(fS N 4 (fQ N))))<|dn<|aj<|ae.r ?_
 obtain rfl:=O (V h)
 exact R1 rfl
theorem pN{o0:Bool}{o1:Int}{o2:List (List Qr)}{o3:List Int}{o4:List (List Qr)}{r:Bool}(h:bK (⟨o0,o1,o2,o3,o4⟩:Tb)=some r):xN Tryz.prog 57 [.ptr 1000 0] 79 [.s (.v (.bool o0)),.s (.v (.int .i64 o1)),.r (TR 23 1 (eS 4 eQ) o2),.r (TR 3 1 bj o3),.r (TR 23 1 (eS 4 eQ) o4)] (.v (.bool r)):=dL (cells:=sE (⟨o0,o1,o2,o3,o4⟩:Tb)) (r:=fun N=>.v (.bool r)) (fun N=>by exact nE (cX h) N) rfl ⟨⟨SV.aa _,fun _ _ q=>One.h _ _ q⟩,⟨SV.aa _,fun _ _ q=>One.h _ _ q⟩,cC,cC,cC,trivial⟩ Mp
theorem zf{o0:Bool}{o1:Int}{o2:List (List Qr)}{o3:List Int}{o4:List (List Qr)}{r:Int}(h:dr (⟨o0,o1,o2,o3,o4⟩:Tb)=some r):xN Tryz.prog 58 [.ptr 1000 0] 79 [.s (.v (.bool o0)),.s (.v (.int .i64 o1)),.r (TR 23 1 (eS 4 eQ) o2),.r (TR 3 1 bj o3),.r (TR 23 1 (eS 4 eQ) o4)] (.v (.int .i64 r)):=dL (cells:=sE (⟨o0,o1,o2,o3,o4⟩:Tb)) (r:=fun N=>.v (.int .i64 r)) (fun N=>by exact nE (jo h) N) rfl ⟨⟨SV.aa _,fun _ _ q=>One.h _ _ q⟩,⟨SV.aa _,fun _ _ q=>One.h _ _ q⟩,cC,cC,cC,trivial⟩ Mp
theorem jq{o0:Bool}{o1:Int}{o2:List (List Qr)}{o3:List Int}{o4:List (List Qr)}{r:List Int}(h:ee (⟨o0,o1,o2,o3,o4⟩:Tb)=some r):xN Tryz.prog 17 [.ptr 1000 0] 79 [.s (.v (.bool o0)),.s (.v (.int .i64 o1)),.r (TR 23 1 (eS 4 eQ) o2),.r (TR 3 1 bj o3),.r (TR 23 1 (eS 4 eQ) o4)] (slc 1 (List.map bj r)):=dL (cells:=sE (⟨o0,o1,o2,o3,o4⟩:Tb)) (r:=fun N=>nw N (slc 1 (List.map bj r))) (fun N=>by exact G4 N h) rfl ⟨⟨SV.aa _,fun _ _ q=>One.h _ _ q⟩,⟨SV.aa _,fun _ _ q=>One.h _ _ q⟩,cC,cC,cC,trivial⟩ YA
theorem pO{o0:Bool}{o1:Int}{o2:List (List Qr)}{o3:List Int}{o4:List (List Qr)}{r:List Qr}(h:e9 (⟨o0,o1,o2,o3,o4⟩:Tb)=some r):xN Tryz.prog 19 [.ptr 1000 0] 79 [.s (.v (.bool o0)),.s (.v (.int .i64 o1)),.r (TR 23 1 (eS 4 eQ) o2),.r (TR 3 1 bj o3),.r (TR 23 1 (eS 4 eQ) o4)] (slc 4 (List.map eQ r)):=dL (cells:=sE (⟨o0,o1,o2,o3,o4⟩:Tb)) (r:=fun N=>nw N (slc 4 (List.map (fQ N) r))) (fun N=>by exact xT N h) rfl ⟨⟨SV.aa _,fun _ _ q=>One.h _ _ q⟩,⟨SV.aa _,fun _ _ q=>One.h _ _ q⟩,cC,cC,cC,trivial⟩ BJ
theorem xV{o0:Bool}{o1:Int}{o2:List (List Qr)}{o3:List Int}{o4:List (List Qr)}{x1:Int}{r:List Qr}(h:cH (⟨o0,o1,o2,o3,o4⟩:Tb) x1=some r):xN Tryz.prog 28 [.ptr 1000 0,.sv (.v (.int .i64 x1))] 79 [.s (.v (.bool o0)),.s (.v (.int .i64 o1)),.r (TR 23 1 (eS 4 eQ) o2),.r (TR 3 1 bj o3),.r (TR 23 1 (eS 4 eQ) o4)] (slc 4 (List.map eQ r)):=dL (cells:=sE (⟨o0,o1,o2,o3,o4⟩:Tb)) (r:=fun N=>nw N (slc 4 (List.map (fQ N) r))) (fun N=>by exact pM N h) rfl ⟨⟨SV.aa _,fun _ _ q=>One.h _ _ q⟩,⟨SV.aa _,fun _ _ q=>One.h _ _ q⟩,cC,cC,cC,trivial⟩ BJ
theorem zg{o0:Bool}{o1:Int}{o2:List (List Qr)}{o3:List Int}{o4:List (List Qr)}{r:List Qr}(h:kC (⟨o0,o1,o2,o3,o4⟩:Tb)=some r):xN Tryz.prog 38 [.ptr 1000 0] 79 [.s (.v (.bool o0)),.s (.v (.int .i64 o1)),.r (TR 23 1 (eS 4 eQ) o2),.r (TR 3 1 bj o3),.r (TR 23 1 (eS 4 eQ) o4)] (slc 4 (List.map eQ r)):=dL (cells:=sE (⟨o0,o1,o2,o3,o4⟩:Tb)) (r:=fun N=>nw N (slc 4 (List.map (fQ N) r))) (fun N=>by exact G5 N h) rfl ⟨⟨SV.aa _,fun _ _ q=>One.h _ _ q⟩,⟨SV.aa _,fun _ _ q=>One.h _ _ q⟩,cC,cC,cC,trivial⟩ BJ
theorem oC{o0:Bool}{o1:Int}{o2:List (List Qr)}{o3:List Int}{o4:List (List Qr)}{r:List Qr}(h:fD (⟨o0,o1,o2,o3,o4⟩:Tb)=some r):xN Tryz.prog 21 [.ptr 1000 0] 79 [.s (.v (.bool o0)),.s (.v (.int .i64 o1)),.r (TR 23 1 (eS 4 eQ) o2),.r (TR 3 1 bj o3),.r (TR 23 1 (eS 4 eQ) o4)] (slc 4 (List.map eQ r)):=dL (cells:=sE (⟨o0,o1,o2,o3,o4⟩:Tb)) (r:=fun N=>nw N (slc 4 (List.map (fQ N) r))) (fun N=>by exact Bp N h) rfl ⟨⟨SV.aa _,fun _ _ q=>One.h _ _ q⟩,⟨SV.aa _,fun _ _ q=>One.h _ _ q⟩,cC,cC,cC,trivial⟩ BJ
theorem Br{o0:Bool}{o1:Int}{o2:List (List Qr)}{o3:List Int}{o4:List (List Qr)}{r:Bool}(h:iT (⟨o0,o1,o2,o3,o4⟩:Tb)=some r):xN Tryz.prog 35 [.ptr 1000 0] 79 [.s (.v (.bool o0)),.s (.v (.int .i64 o1)),.r (TR 23 1 (eS 4 eQ) o2),.r (TR 3 1 bj o3),.r (TR 23 1 (eS 4 eQ) o4)] (.v (.bool r)):=dL (cells:=sE (⟨o0,o1,o2,o3,o4⟩:Tb)) (r:=fun N=>.v (.bool r)) (fun N=>by exact nE (Bq h) N) rfl ⟨⟨SV.aa _,fun _ _ q=>One.h _ _ q⟩,⟨SV.aa _,fun _ _ q=>One.h _ _ q⟩,cC,cC,cC,trivial⟩ Mp
theorem vp{o0:Bool}{o1:Int}{o2:List (List Qr)}{o3:List Int}{o4:List (List Qr)}{r:Bool}(h:iv (⟨o0,o1,o2,o3,o4⟩:Tb)=some r):xN Tryz.prog 42 [.ptr 1000 0] 79 [.s (.v (.bool o0)),.s (.v (.int .i64 o1)),.r (TR 23 1 (eS 4 eQ) o2),.r (TR 3 1 bj o3),.r (TR 23 1 (eS 4 eQ) o4)] (.v (.bool r)):=dL (cells:=sE (⟨o0,o1,o2,o3,o4⟩:Tb)) (r:=fun N=>.v (.bool r)) (fun N=>by exact nE (DC h) N) rfl ⟨⟨SV.aa _,fun _ _ q=>One.h _ _ q⟩,⟨SV.aa _,fun _ _ q=>One.h _ _ q⟩,cC,cC,cC,trivial⟩ Mp
theorem kD{o0:Bool}{o1:Int}{o2:List (List Qr)}{o3:List Int}{o4:List (List Qr)}{r:List (List Qr)}(h:fN (⟨o0,o1,o2,o3,o4⟩:Tb)=some r):xN Tryz.prog 18 [.ptr 1000 0] 79 [.s (.v (.bool o0)),.s (.v (.int .i64 o1)),.r (TR 23 1 (eS 4 eQ) o2),.r (TR 3 1 bj o3),.r (TR 23 1 (eS 4 eQ) o4)] (slc 1 (List.map (eS 4 eQ) r)):=dL (cells:=sE (⟨o0,o1,o2,o3,o4⟩:Tb)) (r:=fun N=>nw N (slc 1 (List.map (fS N 4 (fQ N)) r))) (fun N=>by exact Js N h) rfl ⟨⟨SV.aa _,fun _ _ q=>One.h _ _ q⟩,⟨SV.aa _,fun _ _ q=>One.h _ _ q⟩,cC,cC,cC,trivial⟩ Jh
theorem iF{o0:Bool}{o1:Int}{o2:List (List Qr)}{o3:List Int}{o4:List (List Qr)}{r:List (List Qr)}(h:cQ (⟨o0,o1,o2,o3,o4⟩:Tb)=some r):xN Tryz.prog 20 [.ptr 1000 0] 79 [.s (.v (.bool o0)),.s (.v (.int .i64 o1)),.r (TR 23 1 (eS 4 eQ) o2),.r (TR 3 1 bj o3),.r (TR 23 1 (eS 4 eQ) o4)] (slc 1 (List.map (eS 4 eQ) r)):=dL (cells:=sE (⟨o0,o1,o2,o3,o4⟩:Tb)) (r:=fun N=>nw N (slc 1 (List.map (fS N 4 (fQ N)) r))) (fun N=>by exact wG N h) rfl ⟨⟨SV.aa _,fun _ _ q=>One.h _ _ q⟩,⟨SV.aa _,fun _ _ q=>One.h _ _ q⟩,cC,cC,cC,trivial⟩ Jh
end Go.Proofs.YtningmnklfpfjaaGreat
namespace Go.Proofs.YtningmnklfpfjaaGreat
open Go.Fw Go.Fw.Z Go.RowKit
set_option maxHeartbeats 4000000 in
theorem jP{x0:Lr}{r:Bool×Int×(List (List Qr))×(List Int)×(List (List Qr))}(h:dw x0=some r):Le Tryz.prog 56 [.agg (Kh x0)] false [] 79 [.s (.v (.bool r.1)),.s (.v (.int .i64 r.2.1)),.r (TR 23 1 (eS 4 eQ) r.2.2.1),.r (TR 3 1 bj r.2.2.2.1),.r (TR 23 1 (eS 4 eQ) r.2.2.2.2)]:=by
 obtain⟨aC,aD,aM,aN⟩:=x0
 refine Jb Tryz.func56 rfl (Nat.le_of_ble_eq_true rfl) (fun cO M vs hvs=>?_)
 unfold dw at h
 refine sr<|bx rfl<|ag rfl<|dn<|sr<|fa rfl rfl<|lV rfl rfl rfl<|bI (cs:=[_,_,_,_,_]) (cs':=[.v (.bool true),.v (.int .i64 aC),.v (.slice none 0 0),.v (.slice none 0 0),.v (.slice none 0 0)]) (.one rfl (.one rfl (.nil))) ⟨SV.aa _,SV.aa _,SV.aa _,SV.aa _,SV.aa _,trivial⟩<|bx rfl<|an (s:=.ptr _ _) rfl<|dn<|bt (vQ 12 2 304 23 1 rfl rfl rfl T)<|bt (vQ 12 3 305 3 1 rfl rfl rfl T) ?_
 refine bt (vQ 12 4 306 23 1 rfl rfl rfl T)<|qq<|sr<|fa rfl rfl<|lV rfl rfl rfl<|lE h fun dR fT h=>ln rfl fT<|mv rfl<|dn<|bE h fun e6 CI jd=>?_
 refine aT (fun(qT:(List (List Qr)))=>AS.bJ 105 [(1,.ptr 1 0),(3,.ptr 12 0)] [(12,⟨79,[.sv (.v (.bool true)),.sv (.v (.int .i64 aC)),.row 308,.row 305,.row 306]⟩),(1,⟨25,[.sv (.v (.int .i64 aC)),.sv (slc 1 (List.map (eS 4 eQ) aD)),.sv (slc 1 (List.map (eS 4 eQ) aM)),.sv (slc 4 (List.map eQ aN))]⟩)] [(308,TR 23 1 (eS 4 eQ) qT),(305,TR 3 1 bj []),(306,TR 23 1 (eS 4 eQ) [])]) (fun qT=>qT=e6) ?_ (fun qT CJ=>?_)
 refine ak ?_
 refine aU CI (fun s6=>AS.bJ 105 [(1,.ptr 1 0),(3,.ptr 12 0),(14,.sv (slc 1 (List.map (eS 4 eQ) aD))),(15,.sv (.v (.int .i64 dR))),(16,.sv (.v (.int .i64 s6.1)))] [(12,⟨79,[.sv (.v (.bool true)),.sv (.v (.int .i64 aC)),.row 308,.row 305,.row 306]⟩),(1,⟨25,[.sv (.v (.int .i64 aC)),.sv (slc 1 (List.map (eS 4 eQ) aD)),.sv (slc 1 (List.map (eS 4 eQ) aM)),.sv (slc 4 (List.map eQ aN))]⟩)] [(308,TR 23 1 (eS 4 eQ) s6.2),(305,TR 3 1 bj []),(306,TR 23 1 (eS 4 eQ) [])]) (cy (fun i=>bif Nat.beq i 308 then 304 else i) rfl rfl rfl rfl rfl ⟨.ptr,.ptr,.sv (SV.aa _),.sv (SV.aa _),.sv (SV.aa _),trivial⟩ ⟨⟨_,rfl,⟨.sv (SV.aa _),.sv (SV.aa _),.row rfl,.row rfl,.row rfl,trivial⟩⟩,⟨_,rfl,⟨.sv (SV.aa _),.sv (SV.aa _),.sv (SV.aa _),.sv (SV.aa _),trivial⟩⟩,trivial⟩ ⟨⟨_,rfl,bB.refl _⟩,⟨_,rfl,bB.refl _⟩,⟨_,rfl,bB.refl _⟩,trivial⟩ (fun i hi=>by rw[bp (show i≠308 by omega)];rfl)) (fun s6 y6 G6 h CK yJ=>?_)
 obtain⟨Mu,GX⟩:=s6
 try dsimp only
 refine sr<|lE h fun gx lH h=>ls _ rfl rfl lH<|dn<|qq ?_
 cases gx
 refine cF<|bf<|ae.x<|ae.x<|aK.x<|ae.n ?_
 obtain rfl:=O (F h)
 exact⟨GX,yJ _ rfl,wR []⟩
 refine cT<|aH<|ae.n<|qq<|ak<|sr<|bE (V h) fun fF iM h=>ix rfl rfl iM<|lr rfl rfl<|ag rfl<|dn<|ai mixed<|mo (s:=.ptr _ _) rfl<|mo (s:=.ptr _ _) rfl<|RT.bY .none rfl T<|fa rfl rfl<|RT.c7 .none (s:=.row _) rfl rfl rfl T<|mv rfl<|fa rfl rfl<|lV rfl rfl rfl<|bE h fun oM sS h=>cl (wV sS) ⟨rfl,rfl,trivial⟩<|bl (l:=[oM]) (e:=(eS 4 eQ)) (.one rfl (.nil)) rfl rfl rfl rfl rfl rfl ?_
 refine bE h fun uB uJ h=>aR (k:=[oM]) (e:=(eS 4 eQ)) rfl rfl rfl uJ<|RT.bY .none rfl T<|fa rfl rfl<|RT.iH (cells:=[_,_,_,_,_]) .none rfl rfl rfl rfl T rfl ?_
 refine RT.done ⟨by kernel_rfl,?_⟩
 refine aK.n<|ae.n<|af<|lE h fun sL sV h=>ad _ rfl rfl sV<|mv rfl<|RT.done ?_
 obtain rfl:=O h
 exact ae.n ⟨(sL,uB),CK _ rfl,cy (fun i=>bif Nat.beq i 308 then 30 else i) rfl rfl rfl rfl rfl ⟨.ptr,.ptr,.sv (SV.aa _),.sv (SV.aa _),.sv (SV.aa _),trivial⟩ ⟨⟨_,rfl,⟨.sv (SV.aa _),.sv (SV.aa _),.row rfl,.row rfl,.row rfl,trivial⟩⟩,⟨_,rfl,⟨.sv (SV.aa _),.sv (SV.aa _),.sv (SV.aa _),.sv (SV.aa _),trivial⟩⟩,trivial⟩ ⟨⟨_,rfl,bB.refl _⟩,⟨_,rfl,bB.refl _⟩,⟨_,rfl,bB.refl _⟩,trivial⟩ (fun i hi=>by rw[bp (show i≠308 by omega)];rfl)⟩
 subst CJ
 try dsimp only
 refine ae.n<|qq<|sr<|fa rfl rfl<|lV rfl rfl rfl<|lE jd fun oP qe jd=>ln rfl qe<|mv rfl<|dn<|bE jd fun YG YK bM=>?_
 refine aT (fun(zh:(List Int)×(List (List Qr)))=>AS.bJ 105 [(3,.ptr 12 0)] [(12,⟨79,[.sv (.v (.bool true)),.sv (.v (.int .i64 aC)),.row 308,.row 312,.row 313]⟩)] [(308,TR 23 1 (eS 4 eQ) qT),(312,TR 3 1 bj zh.1),(313,TR 23 1 (eS 4 eQ) zh.2)]) (fun zh=>zh=YG) ?_ (fun zh YL=>?_)
 refine ak ?_
 refine aU YK (fun Kl=>AS.bJ 105 [(1,.ptr 1 0),(3,.ptr 12 0),(36,.sv (.v (.int .i64 oP))),(37,.sv (.v (.int .i64 Kl.1)))] [(12,⟨79,[.sv (.v (.bool true)),.sv (.v (.int .i64 aC)),.row 308,.row 312,.row 313]⟩),(1,⟨25,[.sv (.v (.int .i64 aC)),.sv (slc 1 (List.map (eS 4 eQ) aD)),.sv (slc 1 (List.map (eS 4 eQ) aM)),.sv (slc 4 (List.map eQ aN))]⟩)] [(308,TR 23 1 (eS 4 eQ) qT),(312,TR 3 1 bj Kl.2.1),(313,TR 23 1 (eS 4 eQ) Kl.2.2)]) (cy (fun i=>bif Nat.beq i 312 then 305 else bif Nat.beq i 313 then 306 else i) rfl rfl rfl rfl rfl ⟨.ptr,.ptr,.sv (SV.aa _),.sv (SV.aa _),trivial⟩ ⟨⟨_,rfl,⟨.sv (SV.aa _),.sv (SV.aa _),.row rfl,.row rfl,.row rfl,trivial⟩⟩,⟨_,rfl,⟨.sv (SV.aa _),.sv (SV.aa _),.sv (SV.aa _),.sv (SV.aa _),trivial⟩⟩,trivial⟩ ⟨⟨_,rfl,bB.refl _⟩,⟨_,rfl,bB.refl _⟩,⟨_,rfl,bB.refl _⟩,trivial⟩ (fun i hi=>by rw[bp (show i≠312 by omega)];rw[bp (show i≠313 by omega)];rfl)) (fun Kl y30 G30 h YM YN=>?_)
 obtain⟨pL,vW,vX⟩:=Kl
 try dsimp only
 refine sr<|lE h fun yB Gn h=>ls _ rfl rfl Gn<|dn<|qq ?_
 cases yB
 refine cF<|bf<|ae.x<|ae.x<|aK.x<|ae.n ?_
 obtain rfl:=O (F h)
 exact⟨(vW,vX),YN _ rfl,wR []⟩
 refine cT<|aH<|ae.n<|qq<|ak<|sr<|mv rfl<|ag rfl<|dn<|sr<|fa rfl rfl<|lV rfl rfl rfl<|fa rfl rfl<|lV rfl rfl rfl<|lE (V h) fun zS A9 h=>ln rfl A9<|lE h fun xA Gp h=>ad _ rfl rfl Gp<|lE h fun vU h46 h=>ad _ rfl rfl h46<|bE h fun uC xF h=>RT.kW (n:=4) (e:=eQ) .none rfl rfl T rfl T (by rfl) (by decide) (by exact⟨SV.aa _,imp_nil,SV.aa _,imp_nil,trivial⟩) xF ?_
 refine an (s:=.row _) rfl<|dn<|qq<|sr<|fa rfl rfl<|lV rfl rfl rfl<|mv rfl<|dn<|bE h fun WX PK eT=>?_
 refine aT (fun(xS:(List Qr))=>AS.bJ 105 [(1,.ptr 1 0),(3,.ptr 12 0),(6,.sv (.v (.int .i64 pL))),(7,.row 47),(36,.sv (.v (.int .i64 oP))),(37,.sv (.v (.int .i64 pL)))] [(12,⟨79,[.sv (.v (.bool true)),.sv (.v (.int .i64 aC)),.row 308,.row 312,.row 313]⟩),(1,⟨25,[.sv (.v (.int .i64 aC)),.sv (slc 1 (List.map (eS 4 eQ) aD)),.sv (slc 1 (List.map (eS 4 eQ) aM)),.sv (slc 4 (List.map eQ aN))]⟩)] [(47,TR 43 4 eQ xS),(308,TR 23 1 (eS 4 eQ) qT),(312,TR 3 1 bj vW),(313,TR 23 1 (eS 4 eQ) vX)]) (fun xS=>xS=WX) ?_ (fun xS PL=>?_)
 refine ak ?_
 refine aU PK (fun EW=>AS.bJ 105 [(1,.ptr 1 0),(3,.ptr 12 0),(6,.sv (.v (.int .i64 pL))),(7,.row 47),(36,.sv (.v (.int .i64 oP))),(37,.sv (.v (.int .i64 pL))),(49,.sv (.v (.int .i64 aC))),(50,.sv (.v (.int .i64 EW.1)))] [(12,⟨79,[.sv (.v (.bool true)),.sv (.v (.int .i64 aC)),.row 308,.row 312,.row 313]⟩),(1,⟨25,[.sv (.v (.int .i64 aC)),.sv (slc 1 (List.map (eS 4 eQ) aD)),.sv (slc 1 (List.map (eS 4 eQ) aM)),.sv (slc 4 (List.map eQ aN))]⟩)] [(47,TR 43 4 eQ EW.2),(308,TR 23 1 (eS 4 eQ) qT),(312,TR 3 1 bj vW),(313,TR 23 1 (eS 4 eQ) vX)]) (wR []) (fun EW y38 G38 h PM PN=>?_)
 obtain⟨Dz,DA⟩:=EW
 try dsimp only
 refine sr<|lE h fun Gc Gq h=>ls _ rfl rfl Gq<|dn<|qq ?_
 cases Gc
 refine cF<|bf<|ae.x<|ae.x<|aK.x<|ae.n ?_
 obtain rfl:=O (F h)
 exact⟨DA,PN _ rfl,wR []⟩
 refine cT<|aH<|ae.n<|qq<|ak<|sr<|mv rfl<|ag rfl<|dn<|af<|mo (s:=.row _) rfl<|mv rfl<|fa rfl rfl<|lV rfl rfl rfl<|mv rfl<|mv rfl ?_
 obtain⟨⟨⟨Mw,Jr⟩,⟨QV,QW⟩⟩,Tl,h⟩:=bS (V h)
 refine cl (ND Tl) ⟨rfl,rfl,rfl,trivial⟩<|bE h fun EX KT h=>iR rfl rfl rfl KT<|bE h fun Nu acs h=>sA ⟨⟨Mw,Jr⟩,⟨QV,QW⟩⟩ rfl rfl rfl acs<|RT.done<|aK.n<|ae.n<|af<|lE h fun D6 KU h=>ad _ rfl rfl KU<|mv rfl<|RT.done ?_
 obtain rfl:=O h
 exact ae.n ⟨(D6,Nu),PM _ rfl,wR []⟩
 subst PL
 try dsimp only
 refine ae.n<|qq<|ai mixed<|mo (s:=.row _) rfl<|fa rfl rfl<|lV rfl rfl rfl<|mv rfl<|lE eT fun Kj Xs eT=>ad _ rfl rfl Xs ?_
 obtain⟨⟨⟨QX,QY⟩,⟨QZ,Q0⟩⟩,XA,eT⟩:=bS eT
 refine cl (jU XA) ⟨rfl,trivial⟩<|bE eT fun KH Xt eT=>iR rfl rfl rfl Xt<|bE eT fun SB II eT=>sA ⟨⟨QX,QY⟩,⟨QZ,Q0⟩⟩ rfl rfl rfl II ?_
 refine RT.done ⟨by kernel_rfl,?_⟩
 refine ae.n<|sr<|mo (s:=.row _) rfl<|mo (s:=.row _) rfl<|lE eT fun Km YO eT=>lL rfl rfl YO<|lE eT fun KJ To eT=>sb _ rfl rfl To<|fa rfl rfl<|lV rfl rfl rfl<|mv rfl ?_
 obtain⟨⟨⟨VN,VO⟩,⟨VP,VQ⟩⟩,h76,eT⟩:=bS eT
 refine ix rfl rfl h76<|RT.iW (cs:=[_,_,_,_]) .none rfl T rfl rfl ?_
 obtain⟨⟨⟨Q1,Q2⟩,⟨Q3,Q4⟩⟩,h78,eT⟩:=bS eT
 refine cl (gX h78) ⟨rfl,trivial⟩<|bE eT fun Iy Tp eT=>iR rfl rfl rfl Tp<|bE eT fun l44 acv eT=>sA ⟨⟨Q1,Q2⟩,⟨Q3,Q4⟩⟩ rfl rfl rfl acv<|dn<|qq<|bt (dD (i:=47) (E1:=43) (n:=4) (e:=eQ) (l:=l44) rfl)<|af<|mo (s:=.ptr _ _) rfl<|mo (s:=.ptr _ _) rfl<|RT.bY .none rfl T<|fa rfl rfl<|RT.c7 .none (s:=.row _) rfl rfl rfl T<|mv rfl<|bl (l:=[l44]) (e:=(eS 4 eQ)) (.one rfl (.nil)) rfl rfl rfl rfl rfl rfl ?_
 refine bE eT fun Iz XG eT=>aR (k:=[l44]) (e:=(eS 4 eQ)) rfl rfl rfl XG<|RT.bY .none rfl T<|fa rfl rfl<|RT.iH (cells:=[_,_,_,_,_]) .none rfl rfl rfl rfl T rfl<|dn<|ai mixed<|mo (s:=.ptr _ _) rfl<|mo (s:=.ptr _ _) rfl<|RT.bY .none rfl T<|fa rfl rfl<|RT.c7 .none (s:=.row _) rfl rfl rfl T<|fa rfl rfl<|lV rfl rfl rfl<|mv rfl<|lE eT fun YF h98 eT=>ad _ rfl rfl h98 ?_
 refine bl (l:=[YF]) (e:=bj) (.one rfl (.nil)) rfl rfl rfl rfl rfl rfl<|bE eT fun NK YP eT=>aR (k:=[YF]) (e:=bj) rfl rfl rfl YP<|RT.bY .none rfl T<|fa rfl rfl<|RT.iH (cells:=[_,_,_,_,_]) .none rfl rfl rfl rfl T rfl ?_
 refine RT.done ⟨by kernel_rfl,?_⟩
 refine aK.n<|ae.n<|af<|lE eT fun KL PS eT=>ad _ rfl rfl PS<|mv rfl<|RT.done ?_
 obtain rfl:=O eT
 exact ae.n ⟨(KL,NK,Iz),YM _ rfl,cy (fun i=>bif Nat.beq i 312 then 100 else bif Nat.beq i 313 then 87 else i) rfl rfl rfl rfl rfl ⟨.ptr,.ptr,.sv (SV.aa _),.sv (SV.aa _),trivial⟩ ⟨⟨_,rfl,⟨.sv (SV.aa _),.sv (SV.aa _),.row rfl,.row rfl,.row rfl,trivial⟩⟩,⟨_,rfl,⟨.sv (SV.aa _),.sv (SV.aa _),.sv (SV.aa _),.sv (SV.aa _),trivial⟩⟩,trivial⟩ ⟨⟨_,rfl,bB.refl _⟩,⟨_,rfl,bB.refl _⟩,⟨_,rfl,bB.refl _⟩,trivial⟩ (fun i hi=>by rw[bp (show i≠312 by omega)];rw[bp (show i≠313 by omega)];rfl)⟩
 subst YL
 obtain⟨My,jn⟩:=zh
 try dsimp only
 refine ae.n<|sr<|mo (s:=.ptr _ _) rfl<|an (s:=.ptr _ _) rfl<|dn<|aj ?_
 obtain rfl:=O bM
 exact⟨.inr rfl,12,[308,312,313],.tmp rfl,rfl,⟨rfl,rfl,rfl,trivial⟩,by decide⟩
theorem vr{x0:Lr}{r:Bool×Int×(List (List Qr))×(List Int)×(List (List Qr))}(h:iw x0=some r):Le Tryz.prog 12 [.agg (Kh x0)] true [.v (.int .i64 0)] 79 [.s (.v (.bool r.1)),.s (.v (.int .i64 r.2.1)),.r (TR 23 1 (eS 4 eQ) r.2.2.1),.r (TR 3 1 bj r.2.2.2.1),.r (TR 23 1 (eS 4 eQ) r.2.2.2.2)]:=by
 obtain⟨aC,aD,aM,aN⟩:=x0
 refine AK (t1:=2) (t2:=3) Tryz.func12 rfl (Nat.le_of_ble_eq_true rfl) rfl (fun cO M vs hvs=>?_)
 unfold iw at h
 refine sr<|bx rfl<|ag rfl<|ag rfl<|dn<|qq<|sr<|ld rfl rfl (.cons rfl (.cons rfl (.cons rfl (.cons rfl (.nil)))))<|bE h fun x5 h5 h=>cl (qD h5) ⟨rfl,trivial⟩<|lE h fun x6 h6 h=>nt rfl _ h6<|dn ?_
 cases x6
 refine fs<|sr<|ld rfl rfl (.cons rfl (.cons rfl (.cons rfl (.cons rfl (.nil))))) ?_
 obtain⟨⟨wE,wF,Bf,Bg,TM⟩,h8,h⟩:=bS (F h)
 refine RT.Lf .none (jP h8) [304,305,306] (by decide) rfl ⟨⟨rfl,T⟩,⟨rfl,T⟩,⟨rfl,T⟩,trivial⟩ rfl ⟨rfl,trivial⟩ T rfl rfl<|an (s:=.ptr _ _) rfl<|ag rfl<|dn<|aj ?_
 obtain rfl:=O h
 exact⟨.inr rfl,8,[304,305,306],rfl,rfl,rfl,⟨rfl,rfl,rfl,trivial⟩,by decide⟩
 refine cT<|sr<|ag rfl<|ag rfl<|dn<|aj<|ae.r ?_
 replace h:=V h
 cases h
theorem G7{x0:List Qr}{Ev:Qr}{r:List Qr}(h:n7 x0 Ev=some r):Pure Tryz.prog 106 [slc 4 (List.map eQ x0),ref (eQ Ev)] (slc 4 (List.map eQ r)):=by
 obtain⟨⟨Ff,Fg⟩,⟨Fh,Fi⟩⟩:=Ev
 refine ay Tryz.func106 rfl (Nat.le_of_ble_eq_true rfl) (fun cO M vs hvs=>?_)
 unfold n7 at h
 refine sr<|aI rfl (imp_nil (n:=4) (e:=eQ))<|dn<|sr<|RT.iW (cs:=[_,_,_,_]) .none rfl T rfl rfl<|mv rfl<|bE h fun x6 h6 h=>cl (GK h6) ⟨rfl,rfl,trivial⟩<|ag rfl<|dn<|aj ?_
 obtain rfl:=O h
 exact R1 rfl
theorem Ey{o0:Bool}{o1:Int}{o2:List (List Qr)}{o3:List Int}{o4:List (List Qr)}{x0:List Qr}{Ev:Int}{c_2:Int}{r:List Qr}(h:kL o0 o1 o2 o3 o4 x0 Ev c_2=some r):AL Tryz.prog 107 (fun β=>[.sv (slc 4 (List.map eQ x0)),.sv (ref [.v (.int .i64 Ev)]),.sv (ref [.v (.pointer (some ⟨β,0,none⟩))]),.sv (ref [.v (.int .i64 c_2)])]) 79 [.s (.v (.bool o0)),.s (.v (.int .i64 o1)),.r (TR 23 1 (eS 4 eQ) o2),.r (TR 3 1 bj o3),.r (TR 23 1 (eS 4 eQ) o4)] (fun _ M' _ v=>SV.h (slc 4 (List.map eQ r)) M' v):=by
 refine GV [1001,1002,1003] Tryz.func107 rfl (fun _=>(Nat.le_of_ble_eq_true rfl)) (fun _=>rfl) (by decide) rfl rfl ⟨⟨_,rfl⟩,⟨_,rfl⟩,trivial,trivial,trivial,trivial⟩ (fun cO M β us=>?_)
 unfold kL at h
 refine sr<|aI rfl (imp_nil (n:=4) (e:=eQ))<|dn<|qq<|sr<|mv rfl<|lr rfl rfl ?_
 obtain⟨⟨⟨wE,wF⟩,⟨Bf,Bg⟩⟩,h8,h⟩:=bS h
 refine ix rfl rfl h8<|RT.iW (cs:=[_,_,_,_]) .none rfl T rfl rfl<|bE h fun ek gC h=>cl (jk gC) ⟨rfl,trivial⟩<|lE h fun iI nh h=>eq _ rfl rfl (ua (p:=ek) (q:=0) nh)<|dn ?_
 cases iI
 refine fs<|qq<|ai mixed<|mv rfl<|lr rfl rfl ?_
 obtain⟨⟨⟨kg,kj⟩,⟨Fb,Fe⟩⟩,fT,h⟩:=bS (F h)
 refine ix rfl rfl fT<|RT.iW (cs:=[_,_,_,_]) .none rfl T rfl rfl ?_
 obtain⟨⟨⟨uK,uL⟩,⟨Fs,Ft⟩⟩,lH,h⟩:=bS h
 refine cl (IY lH) ⟨rfl,trivial⟩<|RT.Af (k:=1000) .none rfl rfl rfl T<|RT.bY .none rfl T<|fa rfl rfl<|RT.c7 .none (s:=.row _) rfl rfl rfl T<|lr rfl rfl<|bE h fun jJ qb h=>iR rfl rfl rfl qb<|bE h fun ir mP h=>lR (e:=(eS 4 eQ)) rfl rfl mP rfl<|mv rfl<|bE h fun lG oQ h=>cl (rQ oQ) ⟨rfl,rfl,rfl,trivial⟩<|ag rfl ?_
 refine RT.done ⟨by kernel_rfl,?_⟩
 refine ae.n<|aj ?_
 obtain rfl:=O h
 exact⟨.inr rfl,gL (.tmp rfl (.nil)) (SV.aa _),rfl,⟨rfl,rfl,rfl,trivial⟩⟩
 refine cT<|sr<|mv rfl<|ag rfl<|dn<|aj<|ae.r ?_
 obtain rfl:=O (V h)
 exact⟨.inr rfl,gL (.tmp rfl (.nil)) (SV.aa _),rfl,⟨rfl,rfl,rfl,trivial⟩⟩
set_option maxHeartbeats 4000000 in
theorem jW{o0:Bool}{o1:Int}{o2:List (List Qr)}{o3:List Int}{o4:List (List Qr)}{x1:Int}{x2:Int}{r:(List (List Qr))×(List Int)×(List (List Qr))}(h:bZ o0 o1 o2 o3 o4 x1 x2=some r):Tz Tryz.prog 60 [.ptr 1000 0,.sv (.v (.int .i64 x1)),.sv (.v (.int .i64 x2))] 79 [.s (.v (.bool o0)),.s (.v (.int .i64 o1)),.r (TR 23 1 (eS 4 eQ) o2),.r (TR 3 1 bj o3),.r (TR 23 1 (eS 4 eQ) o4)] (.any) [.s (.v (.bool o0)),.s (.v (.int .i64 o1)),.r (TR 23 1 (eS 4 eQ) r.1),.r (TR 3 1 bj r.2.1),.r (TR 23 1 (eS 4 eQ) r.2.2)]:=by
 refine Dh [1001,1002,1003] Tryz.func60 rfl (Nat.le_of_ble_eq_true rfl) rfl (by decide) rfl (fun cO M β us=>?_)
 unfold bZ at h
 refine sr<|RT.uf .none (s:=.ptr _ _) rfl T rfl rfl<|RT.uf .none (s:=.sv _) rfl T rfl rfl<|RT.uf .none (s:=.sv _) rfl T rfl rfl<|dn<|TK (i:=3) rfl rfl<|bt (gw (i:=3) rfl [.v (.pointer (some ⟨β,0,none⟩))] (.cons rfl (.nil)) .any 0 [(3,.sv (ref [.v (.pointer (some ⟨β,0,none⟩))]))] (fun _ _ _=>trivial) (qN.h (l:=[.v (.pointer (some ⟨β,0,none⟩))])) ⟨@FT.ptr _ _ _ _ _ 3 0 rfl,trivial⟩)<|bt (gw (i:=4) rfl [.v (.int .i64 x1)] (.cons rfl (.nil)) .any 0 [(4,.sv (ref [.v (.int .i64 x1)]))] (fun _ _ _=>trivial) (qN.h (l:=[.v (.int .i64 x1)])) ⟨@FT.ptr _ _ _ _ _ 4 0 rfl,trivial⟩) ?_
 refine bt (gw (i:=5) rfl [.v (.int .i64 x2)] (.cons rfl (.nil)) .any 0 [(5,.sv (ref [.v (.int .i64 x2)]))] (fun _ _ _=>trivial) (qN.h (l:=[.v (.int .i64 x2)])) ⟨@FT.ptr _ _ _ _ _ 5 0 rfl,trivial⟩)<|qq<|ai mixed ?_
 obtain⟨⟨⟨EZ,E4⟩,⟨VR,VS⟩⟩,gW,h⟩:=bS h
 refine cl (jU gW) ⟨rfl,trivial⟩<|RT.Af (k:=1000) .none rfl rfl rfl T<|RT.bY .none rfl T<|fa rfl rfl<|RT.c7 .none (s:=.row _) rfl rfl rfl T<|lr rfl rfl<|bE h fun kS kJ h=>iR rfl rfl rfl kJ<|bE h fun gO lW h=>lR (e:=(eS 4 eQ)) rfl rfl lW rfl<|lr rfl rfl ?_
 obtain⟨⟨⟨yQ,yR⟩,⟨yS,yT⟩⟩,nS,h⟩:=bS h
 refine ix rfl rfl nS<|RT.iW (cs:=[_,_,_,_]) .none rfl T rfl rfl ?_
 obtain⟨⟨⟨⟨Ah,Ai⟩,⟨Aj,Ak⟩⟩,NC⟩,mP,h⟩:=bS h
 refine cl (IX mP) ⟨rfl,rfl,trivial⟩<|mv rfl<|ex rfl rfl<|ex rfl rfl<|al (cs:=[.v (.bool false),slc 1 (List.map ah []),.v (.bool false),slc 1 (List.map ah [])]) (by exact⟨SV.aa _,imp_nil,SV.aa _,imp_nil,trivial⟩) rfl<|so rfl rfl rfl<|ag rfl ?_
 refine RT.done ⟨by kernel_rfl,?_⟩
 refine ae.n ?_
 refine bt (gw (i:=6) rfl [.v (.bool Ah),slc 1 (List.map ah Ai),.v (.bool Aj),slc 1 (List.map ah Ak)] (.cons rfl (.cons rfl (.cons rfl (.cons rfl (.nil))))) .any 0 [(6,.sv (ref [.v (.bool Ah),slc 1 (List.map ah Ai),.v (.bool Aj),slc 1 (List.map ah Ak)]))] (fun _ _ _=>trivial) (qN.h (l:=[.v (.bool Ah),slc 1 (List.map ah Ai),.v (.bool Aj),slc 1 (List.map ah Ak)])) ⟨@FT.ptr _ _ _ _ _ 6 0 rfl,trivial⟩)<|sr<|RT.vR (caps:=[_]) .none ⟨rfl,trivial⟩ T<|bI (cs:=[_]) (cs':=[iC 106 [ref [.v (.bool Ah),slc 1 (List.map ah Ai),.v (.bool Aj),slc 1 (List.map ah Ak)]]]) (.one rfl (.nil)) ⟨SV.aa _,trivial⟩ ?_
 refine RT.alloc .none T rfl rfl<|so rfl rfl rfl<|dn<|qq<|ai mixed<|RT.Af (k:=1000) .none rfl rfl rfl T<|RT.bY .none rfl T<|fa rfl rfl<|RT.c7 .none (s:=.row _) rfl rfl rfl T<|lr rfl rfl<|fa rfl rfl<|lV rfl rfl rfl<|RT.Af (k:=1000) .none rfl rfl rfl T<|RT.bY .none rfl T<|fa rfl rfl<|RT.c7 .none (s:=.row _) rfl rfl rfl T<|lr rfl rfl<|bE h fun tG zX h=>iR rfl rfl rfl zX ?_
 refine bE h fun oZ xE h=>lR (e:=(eS 4 eQ)) rfl rfl xE rfl<|bE h fun tJ BF h=>RT.Vd (args:=[_]) (caps:=[_]) .none (G7 BF) rfl ⟨rfl,trivial⟩ T<|bE h fun zS A9 h=>iR rfl rfl rfl A9<|bE h fun l2 ahh h=>sR tJ rfl rfl rfl rfl ahh ?_
 refine RT.done ⟨by kernel_rfl,?_⟩
 refine ae.n<|sr<|RT.vR (caps:=[_,_,_]) .none ⟨rfl,rfl,rfl,trivial⟩ T<|bI (cs:=[_]) (cs':=[iC 107 [ref [.v (.int .i64 x2)],ref [.v (.pointer (some ⟨β,0,none⟩))],ref [.v (.int .i64 x1)]]]) (.one rfl (.nil)) ⟨SV.aa _,trivial⟩<|RT.alloc .none T rfl rfl<|so rfl rfl rfl<|dn<|sr<|RT.Af (k:=1000) .none rfl rfl rfl T<|RT.bY .none rfl T<|fa rfl rfl<|RT.c7 .none (s:=.row _) rfl rfl rfl T<|lE h fun Gc Gq h=>lL rfl rfl Gq ?_
 refine mv rfl<|dn<|bE h fun Pn Gv jK=>?_
 refine aT (fun(rT:(List (List Qr)))=>AS.bJ 71 [] [(1000,⟨79,[.sv (.v (.bool o0)),.sv (.v (.int .i64 o1)),.row 1001,.row 1002,.row 1003]⟩)] [(1001,TR 23 1 (eS 4 eQ) o2),(1002,TR 3 1 bj o3),(1003,TR 23 1 (eS 4 eQ) rT)]) (fun rT=>rT=Pn) ?_ (fun rT KV=>?_)
 refine ak ?_
 refine aU Gv (fun yE=>AS.bJ 71 [(3,.sv (ref [.v (.pointer (some ⟨β,0,none⟩))])),(4,.sv (ref [.v (.int .i64 x1)])),(9,.ptr 9 0),(50,.row 1003),(51,.sv (.v (.int .i64 Gc))),(52,.sv (.v (.int .i64 yE.1)))] [(1000,⟨79,[.sv (.v (.bool o0)),.sv (.v (.int .i64 o1)),.row 1001,.row 1002,.row 1003]⟩),(9,⟨124,[.sv (iC 107 [ref [.v (.int .i64 x2)],ref [.v (.pointer (some ⟨β,0,none⟩))],ref [.v (.int .i64 x1)]])]⟩)] [(1003,TR 23 1 (eS 4 eQ) yE.2),(1001,TR 23 1 (eS 4 eQ) o2),(1002,TR 3 1 bj o3)]) (wR []) (fun yE y12 G12 h KW KX=>?_)
 obtain⟨qH,gM⟩:=yE
 try dsimp only
 refine sr<|lE h fun Mz NA h=>ls _ rfl rfl NA<|dn<|qq ?_
 cases Mz
 refine cF<|bf<|ae.x<|ae.x<|aK.x<|ae.n ?_
 obtain rfl:=O (F h)
 exact⟨gM,KX _ rfl,wR []⟩
 refine cT<|aH<|ae.n<|qq<|ak<|sr<|mv rfl<|bE (V h) fun wA IJ h=>iR rfl rfl rfl IJ<|bE h fun D5 Ep h=>lR (e:=(eS 4 eQ)) rfl rfl Ep rfl<|ag rfl<|ag rfl<|dn<|sr<|mv rfl<|lr rfl rfl<|lE h fun KE Tl h=>ne _ rfl rfl (F6 (p:=qH) (q:=x1) Tl)<|dn ?_
 refine aF h (fun j15=>AS.bJ 71 [(3,.sv (ref [.v (.pointer (some ⟨β,0,none⟩))])),(4,.sv (ref [.v (.int .i64 x1)])),(9,.ptr 9 0),(50,.row 1003),(51,.sv (.v (.int .i64 Gc))),(52,.sv (.v (.int .i64 qH)))] [(1000,⟨79,[.sv (.v (.bool o0)),.sv (.v (.int .i64 o1)),.row 1001,.row 1002,.row 1003]⟩),(9,⟨124,[.sv (iC 107 [ref [.v (.int .i64 x2)],ref [.v (.pointer (some ⟨β,0,none⟩))],ref [.v (.int .i64 x1)]])]⟩)] [(1003,TR 23 1 (eS 4 eQ) j15),(1001,TR 23 1 (eS 4 eQ) o2),(1002,TR 3 1 bj o3)]) (fun h=>?_) (fun vm h=>?_)
 cases KE
 exact fs<|⟨gM,(F h),wR []⟩
 refine cT<|ai mixed<|RT.Af (k:=1000) .none rfl rfl rfl T<|RT.bY .none rfl T<|fa rfl rfl<|RT.c7 .none (s:=.row _) rfl rfl rfl T<|mv rfl<|fa rfl rfl<|lV rfl rfl rfl<|mv rfl<|bE (V h) fun KH Xt h=>RT.TL (args:=[.sv (slc 4 (List.map eQ D5))]) (caps:=fun β=>[ref [.v (.int .i64 x2)],ref [.v (.pointer (some ⟨β,0,none⟩))],ref [.v (.int .i64 x1)]]) .none (Ey Xt) 1000 [1001,1002,1003] rfl rfl ⟨rfl,rfl,rfl,trivial⟩ (by decide) rfl rfl (.cons rfl (.nil)) T ?_
 refine bE h fun Md Tm h=>iR rfl rfl rfl Tm<|bE h fun l17 acw h=>sR KH rfl rfl rfl rfl acw ?_
 refine RT.done ⟨by kernel_rfl,?_⟩
 exact ae.n<|⟨l17,h,wR []⟩
 try dsimp only
 refine aK.n<|ae.n<|af<|lE h fun D7 Tn h=>ad _ rfl rfl Tn<|mv rfl<|RT.done ?_
 obtain rfl:=O h
 exact ae.n ⟨(D7,vm),KW _ rfl,wR []⟩
 subst KV
 try dsimp only
 obtain rfl:=O jK
 exact⟨.inl rfl,gL .nil (fun _ _ _=>trivial),[1001,1002,1003],rfl,⟨rfl,rfl,rfl,trivial⟩,by decide⟩
set_option maxHeartbeats 4000000 in
theorem dM{o0:Bool}{o1:Int}{o2:List (List Qr)}{o3:List Int}{o4:List (List Qr)}{x1:Int}{x2:Int}{r:Int×(List (List Qr))×(List Int)×(List (List Qr))}(h:aA o0 o1 o2 o3 o4 x1 x2=some r):Tz Tryz.prog 14 [.ptr 1000 0,.sv (.v (.int .i64 x1)),.sv (.v (.int .i64 x2))] 79 [.s (.v (.bool o0)),.s (.v (.int .i64 o1)),.r (TR 23 1 (eS 4 eQ) o2),.r (TR 3 1 bj o3),.r (TR 23 1 (eS 4 eQ) o4)] (.v (.int .i64 r.1)) [.s (.v (.bool o0)),.s (.v (.int .i64 o1)),.r (TR 23 1 (eS 4 eQ) r.2.1),.r (TR 3 1 bj r.2.2.1),.r (TR 23 1 (eS 4 eQ) r.2.2.2)]:=by
 refine Dh [1001,1002,1003] Tryz.func14 rfl (Nat.le_of_ble_eq_true rfl) rfl (by decide) rfl (fun cO M β us=>?_)
 unfold aA at h
 refine sr<|ag rfl<|dn<|qq<|sr<|mo (s:=.ptr _ _) rfl<|bE h fun ek gC h=>RT.cW .none (pN gC) 1000 [1001,1002,1003] rfl ⟨rfl,rfl,rfl,trivial⟩ (by decide) rfl rfl (.cons rfl (.nil)) T<|dn ?_
 cases ek
 refine fs<|qq<|qq ?_
 refine aF (F h) (fun Yv=>AS.bJ 68 [(0,.ptr 1000 0),(1,.sv (.v (.int .i64 x1))),(2,.sv (.v (.int .i64 x2))),(31,.sv (.v (.bool Yv)))] [(1000,⟨79,[.sv (.v (.bool o0)),.sv (.v (.int .i64 o1)),.row 1001,.row 1002,.row 1003]⟩)] [(1001,TR 23 1 (eS 4 eQ) o2),(1002,TR 3 1 bj o3),(1003,TR 23 1 (eS 4 eQ) o4)]) (fun h=>?_) (fun Q5 h=>?_)
 refine af<|mv rfl<|lE h fun dW fj h=>ls _ rfl rfl fj<|mv rfl<|bE h fun Q6 xW h=>?_
 cases dW
 refine gm rfl<|RT.move (.some rfl rfl) (s:=.ptr _ _) rfl T<|RT.bY (.some rfl rfl) rfl T<|RT.fieldAddr (.some rfl rfl) rfl T rfl<|RT.c7 (.some rfl rfl) (s:=.row _) rfl rfl rfl T<|lE (F xW) fun kS kJ xW=>RT.O3 (.some rfl rfl) rfl rfl T kJ<|lE xW fun gO lW xW=>RT.geq (.some rfl rfl) _ rfl rfl T lW ?_
 obtain rfl:=O xW
 refine pF rfl<|mv rfl<|bE h fun ahj G9 h=>?_
 cases gO
 refine gm rfl<|lE (F G9) fun ir mP G9=>RT.lss (.some rfl rfl) _ rfl rfl T mP ?_
 obtain rfl:=O G9
 refine pF rfl<|mv rfl<|bE h fun ahk tY h=>?_
 cases ir
 refine gm rfl<|RT.move (.some rfl rfl) (s:=.ptr _ _) rfl T<|bE (F tY) fun iq jw tY=>RT.cW (.some rfl rfl) (zf jw) 1000 [1001,1002,1003] rfl ⟨rfl,rfl,rfl,trivial⟩ (by decide) rfl rfl (.cons rfl (.nil)) T<|lE tY fun uB uJ tY=>RT.geq (.some rfl rfl) _ rfl rfl T uJ ?_
 obtain rfl:=O tY
 exact pF rfl<|dn<|⟨uB,h,wR []⟩
 obtain rfl:=O (V tY)
 exact ww<|ww<|ww<|ww<|pT rfl<|dn<|⟨true,h,wR []⟩
 obtain rfl:=O (V G9)
 refine ww<|ww<|pT rfl<|mv rfl<|bE h fun ahl z5 h=>?_
 obtain rfl:=O (V z5)
 exact ww<|ww<|ww<|ww<|pT rfl<|dn<|⟨true,h,wR []⟩
 obtain rfl:=O (V xW)
 refine ww<|ww<|ww<|ww<|ww<|ww<|ww<|pT rfl<|mv rfl<|bE h fun ahm z6 h=>?_
 obtain rfl:=O (V z6)
 refine ww<|ww<|pT rfl<|mv rfl<|bE h fun ahn qf h=>?_
 obtain rfl:=O (V qf)
 exact ww<|ww<|ww<|ww<|pT rfl<|dn<|⟨true,h,wR []⟩
 try dsimp only
 refine ae.n ?_
 cases Q5
 refine fs<|qq<|sr<|mo (s:=.ptr _ _) rfl<|RT.bY .none rfl T<|fa rfl rfl<|RT.c7 .none (s:=.row _) rfl rfl rfl T<|lE (F h) fun oP qe h=>lL rfl rfl qe<|mv rfl<|dn<|bE h fun Lo GZ mA=>?_
 refine aT (fun(DD:Unit)=>AS.bJ 68 [(0,.ptr 1000 0),(1,.sv (.v (.int .i64 x1))),(2,.sv (.v (.int .i64 x2)))] [(1000,⟨79,[.sv (.v (.bool o0)),.sv (.v (.int .i64 o1)),.row 1001,.row 1002,.row 1003]⟩)] [(1001,TR 23 1 (eS 4 eQ) o2),(1002,TR 3 1 bj o3),(1003,TR 23 1 (eS 4 eQ) o4)]) (fun DD=>.inl DD=Lo) ?_ (fun DD G0=>?_)
 refine ak ?_
 refine aU GZ (fun Jo=>AS.bJ 68 [(0,.ptr 1000 0),(1,.sv (.v (.int .i64 x1))),(2,.sv (.v (.int .i64 x2))),(35,.row 1002),(36,.sv (.v (.int .i64 oP))),(37,.sv (.v (.int .i64 Jo)))] [(1000,⟨79,[.sv (.v (.bool o0)),.sv (.v (.int .i64 o1)),.row 1001,.row 1002,.row 1003]⟩)] [(1002,TR 3 1 bj o3),(1001,TR 23 1 (eS 4 eQ) o2),(1003,TR 23 1 (eS 4 eQ) o4)]) (wR []) (fun GY y16 G16 h G3 Bo=>?_)
 try dsimp only
 refine sr<|lE h fun yB Gn h=>ls _ rfl rfl Gn<|dn<|qq ?_
 cases yB
 refine cF<|bf<|ae.x<|ae.x<|aK.x<|ae.n ?_
 obtain rfl:=O (F h)
 exact⟨(),Bo _ rfl,wR []⟩
 refine cT<|aH<|ae.n<|qq<|ak<|sr<|bE (V h) fun tX CM h=>iR rfl rfl rfl CM<|bE h fun lO oc h=>lR rfl rfl oc rfl<|ag rfl<|dn<|sr<|mv rfl<|mv rfl<|lE h fun tJ BF h=>eq _ rfl rfl (ua (p:=lO) (q:=x2) BF)<|dn ?_
 cases tJ
 refine cF<|aH<|aK.n<|ae.n<|af<|lE (F h) fun zS A9 h=>ad _ rfl rfl A9<|mv rfl<|RT.done ?_
 obtain rfl:=O h
 exact ae.n ⟨zS,G3 _ rfl,wR []⟩
 refine cT<|sr<|ag rfl<|dn<|aj<|aK.r<|ae.r ?_
 obtain rfl:=O (V h)
 have Q7:=Bo _ rfl
 subst Q7
 refine ae.r<|aK.r<|ae.r<|ae.r ?_
 obtain rfl:=O mA
 exact⟨.inr rfl,gL (.tmp rfl (.nil)) (SV.aa _),[1001,1002,1003],rfl,⟨rfl,rfl,rfl,trivial⟩,by decide⟩
 subst G0
 try dsimp only
 refine ae.n<|qq<|sr<|mo (s:=.ptr _ _) rfl<|RT.bY .none rfl T<|fa rfl rfl<|RT.c7 .none (s:=.row _) rfl rfl rfl T<|mv rfl<|bE mA fun ri A8 mA=>iR rfl rfl rfl A8<|bE mA fun Gc Gq mA=>lR (e:=(eS 4 eQ)) rfl rfl Gq rfl<|mv rfl ?_
 obtain⟨⟨⟨VT,VU⟩,⟨VV,VW⟩⟩,NA,mA⟩:=bS mA
 refine ix rfl rfl NA<|RT.iW (cs:=[_,_,_,_]) .none rfl T rfl rfl<|bE mA fun wA IJ mA=>cl (jk IJ) ⟨rfl,trivial⟩<|lE mA fun D5 Ep mA=>eq _ rfl rfl (ua (p:=wA) (q:=0) Ep)<|dn ?_
 cases D5
 refine fs<|sr<|mo (s:=.ptr _ _) rfl<|mv rfl<|mv rfl ?_
 obtain⟨⟨l20,l21,l22⟩,KT,mA⟩:=bS (F mA)
 refine RT.Di .none (jW KT) 1000 [1001,1002,1003] [304,305,306] rfl ⟨rfl,rfl,rfl,trivial⟩ (by decide) (by decide) rfl ⟨⟨rfl,T⟩,⟨rfl,T⟩,⟨rfl,T⟩,trivial⟩ rfl rfl (.cons rfl (.cons rfl (.cons rfl (.nil)))) T<|dn<|sr<|mo (s:=.ptr _ _) rfl<|RT.bY .none rfl T<|fa rfl rfl<|RT.c7 .none (s:=.row _) rfl rfl rfl T<|mv rfl<|mv rfl<|bE mA fun Om XA mA=>iR rfl rfl rfl XA<|bE mA fun l24 acy mA=>sR x2 rfl rfl rfl rfl acy ?_
 refine dn<|sr<|ag rfl<|dn<|aj ?_
 obtain rfl:=O mA
 exact⟨.inr rfl,gL (.tmp rfl (.nil)) (SV.aa _),[304,305,306],rfl,⟨rfl,rfl,rfl,trivial⟩,by decide⟩
 refine cT<|sr<|ag rfl<|dn<|aj<|ae.r ?_
 obtain rfl:=O (V mA)
 exact⟨.inr rfl,gL (.tmp rfl (.nil)) (SV.aa _),[1001,1002,1003],rfl,⟨rfl,rfl,rfl,trivial⟩,by decide⟩
 refine cT<|sr<|ag rfl<|dn<|aj<|ae.r ?_
 obtain rfl:=O (V h)
 exact⟨.inr rfl,gL (.tmp rfl (.nil)) (SV.aa _),[1001,1002,1003],rfl,⟨rfl,rfl,rfl,trivial⟩,by decide⟩
 refine cT<|sr<|ag rfl<|dn<|aj<|ae.r ?_
 obtain rfl:=O (V h)
 exact⟨.inr rfl,gL (.tmp rfl (.nil)) (SV.aa _),[1001,1002,1003],rfl,⟨rfl,rfl,rfl,trivial⟩,by decide⟩
end Go.Proofs.YtningmnklfpfjaaGreat
namespace Go.Proofs.YtningmnklfpfjaaGreat
open Go.Fw
noncomputable def kM(x0:List (List Qr)):Option (Int):=(bQ (fun(s6:Int×Int)=>match s6 with|⟨qR,TO⟩=>(show Option ((Int×Int)⊕(Int))from(some (x0.length:Int)).bind fun x7=>(some (decide ((TO:Int)<x7))).bind fun x8=>(bif x8 then(cz x0 TO).bind fun fg=>(some (fg.length:Int)).bind fun iY=>(some (max (qR:Int) iY)).bind fun gx=>(some (IntKind.i64.wrap (TO+1))).bind fun ek=>some (.inl (gx,ek))else some (.inr qR)))) (0,0)).bind fun z8=>some z8
noncomputable def jF(x0:List (List Qr))(x1:Int):Option (Bool):=(kM x0).bind fun x6=>(some (decide ((x6:Int)≤x1))).bind fun x8=>some x8
noncomputable def lP(x0:Lr):Option (Bool):=match x0 with|⟨aC,aD,aM,aN⟩=>b9 (fun(Lq:Bool)=>(bif Lq then some false else b9 (fun(IP:Bool)=>some IP) fun K24=>(jF aD aC).bind fun oZ=>(bif oZ then(jF aM aC).bind fun rI=>some rI else some false).bind fun Q8=>K24 Q8)) fun K21=>(some (decide ((aC:Int)<0))).bind fun x5=>(bif x5 then some true else(some (decide ((64:Int)<aC))).bind fun x9=>some x9).bind fun Q9=>(bif Q9 then some true else(some (aD.length:Int)).bind fun fg=>(some (decide ((fg:Int)<1))).bind fun dR=>some dR).bind fun YQ=>(bif YQ then some true else(some (aD.length:Int)).bind fun gO=>(some (decide ((4:Int)<gO))).bind fun ik=>some ik).bind fun YR=>(bif YR then some true else(some (aM.length:Int)).bind fun lG=>(some (decide ((128:Int)<lG))).bind fun lq=>some lq).bind fun YS=>(bif YS then some true else(some (aN.length:Int)).bind fun iD=>(some (aM.length:Int)).bind fun ow=>(some (decide ((iD:Int)≠ow))).bind fun oP=>some oP).bind fun YT=>K21 YT
end Go.Proofs.YtningmnklfpfjaaGreat
namespace Go.Proofs.YtningmnklfpfjaaGreat
open Go.Fw Go.Fw.Z Go.RowKit
theorem wZ{x0:List (List Qr)}{r:Int}(h:kM x0=some r):Pure Tryz.prog 118 [slc 1 (List.map (eS 4 eQ) x0)] (.v (.int .i64 r)):=by
 refine ay Tryz.func118 rfl (Nat.le_of_ble_eq_true rfl) (fun cO M vs hvs=>?_)
 unfold kM at h
 refine sr<|ag rfl<|dn<|sr<|ag rfl<|dn<|qq<|sr<|ag rfl<|dn<|bE h fun e6 CI jd=>?_
 refine aT (fun(z8:Int)=>AS.bJ 19 [(3,.sv (.v (.int .i64 z8)))] [] []) (fun z8=>z8=e6) ?_ (fun z8 CJ=>?_)
 refine ak ?_
 refine aU CI (fun s6=>AS.bJ 19 [(0,.sv (slc 1 (List.map (eS 4 eQ) x0))),(3,.sv (.v (.int .i64 s6.1))),(4,.sv (.v (.int .i64 s6.2)))] [] []) (wR []) (fun s6 y6 G6 h CK yJ=>?_)
 obtain⟨qR,TO⟩:=s6
 try dsimp only
 refine qq<|sr<|mv rfl<|mv rfl<|lE h fun x7 h7 h=>ln rfl h7<|lE h fun x8 h8 h=>ls _ rfl rfl h8<|dn ?_
 cases x8
 refine cF<|bf<|ae.x<|ae.x<|aK.x<|ae.n ?_
 obtain rfl:=O (F h)
 exact⟨qR,yJ _ rfl,wR []⟩
 refine cT<|aH<|ae.n<|qq<|ak<|af<|mv rfl<|mv rfl<|mv rfl<|bE (V h) fun fg jv h=>ix rfl rfl jv<|lr rfl rfl<|lE h fun iY kX h=>ln rfl kX<|lE h fun gx lH h=>RT.max .none _ rfl rfl T (Im (p:=qR) (q:=iY) lH)<|ag rfl<|RT.done<|aK.n<|ae.n<|af<|mv rfl<|lE h fun ek gC h=>ad _ rfl rfl gC<|ag rfl<|RT.done ?_
 obtain rfl:=O h
 exact ae.n ⟨(gx,ek),CK _ rfl,wR []⟩
 subst CJ
 try dsimp only
 refine ae.n<|sr<|mv rfl<|ag rfl<|dn<|aj ?_
 obtain rfl:=O jd
 exact R1 rfl
theorem vu{x0:List (List Qr)}{x1:Int}{r:Bool}(h:jF x0 x1=some r):Pure Tryz.prog 72 [slc 1 (List.map (eS 4 eQ) x0),.v (.int .i64 x1)] (.v (.bool r)):=by
 refine ay Tryz.func72 rfl (Nat.le_of_ble_eq_true rfl) (fun cO M vs hvs=>?_)
 unfold jF at h
 refine sr<|ag rfl<|dn<|sr<|mv rfl<|bE h fun x6 h6 h=>cl (wZ h6) ⟨rfl,trivial⟩<|mv rfl<|lE h fun x8 h8 h=>RT.leq .none _ rfl rfl T h8<|ag rfl<|dn<|aj ?_
 obtain rfl:=O h
 exact R1 rfl
theorem tg{x0:Lr}{r:Bool}(h:lP x0=some r):Pure Tryz.prog 24 [.agg (Kh x0)] (.v (.bool r)):=by
 obtain⟨aC,aD,aM,aN⟩:=x0
 refine ay Tryz.func24 rfl (Nat.le_of_ble_eq_true rfl) (fun cO M vs hvs=>?_)
 unfold lP at h
 refine sr<|bx rfl<|ag rfl<|dn<|qq<|qq ?_
 refine aF h (fun Yb=>AS.bJ 50 [(1,.ptr 1 0),(37,.sv (.v (.bool Yb)))] [(1,⟨25,[.sv (.v (.int .i64 aC)),.sv (slc 1 (List.map (eS 4 eQ) aD)),.sv (slc 1 (List.map (eS 4 eQ) aM)),.sv (slc 4 (List.map eQ aN))]⟩)] []) (fun h=>?_) (fun Lq h=>?_)
 refine af<|fa rfl rfl<|lV rfl rfl rfl<|lE h fun x5 h5 h=>ls _ rfl rfl h5<|mv rfl<|bE h fun Q9 G9 h=>?_
 cases x5
 refine RT.fieldAddr (.some rfl rfl) rfl T rfl<|RT.sy (.some rfl rfl) rfl rfl rfl T<|lE (F G9) fun x9 h9 G9=>gg _ rfl rfl h9 ?_
 obtain rfl:=O G9
 refine pF rfl<|mv rfl<|bE h fun aho tY h=>?_
 cases x9
 refine RT.fieldAddr (.some rfl rfl) rfl T rfl<|RT.sy (.some rfl rfl) rfl rfl rfl T<|lE (F tY) fun fg jv tY=>gn rfl jv<|lE tY fun dR fT tY=>RT.lss (.some rfl rfl) _ rfl rfl T fT ?_
 obtain rfl:=O tY
 refine pF rfl<|mv rfl<|bE h fun ahp z5 h=>?_
 cases dR
 refine RT.fieldAddr (.some rfl rfl) rfl T rfl<|RT.sy (.some rfl rfl) rfl rfl rfl T<|lE (F z5) fun gO lW z5=>gn rfl lW<|lE z5 fun ik ni z5=>gg _ rfl rfl ni ?_
 obtain rfl:=O z5
 refine pF rfl<|mv rfl<|bE h fun ahq z6 h=>?_
 cases ik
 refine RT.fieldAddr (.some rfl rfl) rfl T rfl<|RT.sy (.some rfl rfl) rfl rfl rfl T<|lE (F z6) fun lG oQ z6=>gn rfl oQ<|lE z6 fun lq oU z6=>gg _ rfl rfl oU ?_
 obtain rfl:=O z6
 refine pF rfl<|mv rfl<|bE h fun ahr qf h=>?_
 cases lq
 refine RT.fieldAddr (.some rfl rfl) rfl T rfl<|RT.sy (.some rfl rfl) rfl rfl rfl T<|lE (F qf) fun iD kV qf=>gn rfl kV<|RT.fieldAddr (.some rfl rfl) rfl T rfl<|RT.sy (.some rfl rfl) rfl rfl rfl T<|lE qf fun ow xD qf=>gn rfl xD<|lE qf fun oP qe qf=>gq _ rfl rfl (F6 (p:=iD) (q:=ow) qe) ?_
 obtain rfl:=O qf
 exact pF rfl<|dn<|⟨oP,h,wR []⟩
 obtain rfl:=O (V qf)
 exact ww<|ww<|ww<|ww<|ww<|ww<|ww<|pT rfl<|dn<|⟨true,h,wR []⟩
 obtain rfl:=O (V z6)
 refine ww<|ww<|ww<|ww<|pT rfl<|mv rfl<|bE h fun ahs z7 h=>?_
 obtain rfl:=O (V z7)
 exact ww<|ww<|ww<|ww<|ww<|ww<|ww<|pT rfl<|dn<|⟨true,h,wR []⟩
 obtain rfl:=O (V z5)
 refine ww<|ww<|ww<|ww<|pT rfl<|mv rfl<|bE h fun aht Qu h=>?_
 obtain rfl:=O (V Qu)
 refine ww<|ww<|ww<|ww<|pT rfl<|mv rfl<|bE h fun ahu Yc h=>?_
 obtain rfl:=O (V Yc)
 exact ww<|ww<|ww<|ww<|ww<|ww<|ww<|pT rfl<|dn<|⟨true,h,wR []⟩
 obtain rfl:=O (V tY)
 refine ww<|ww<|ww<|ww<|pT rfl<|mv rfl<|bE h fun ahv Yd h=>?_
 obtain rfl:=O (V Yd)
 refine ww<|ww<|ww<|ww<|pT rfl<|mv rfl<|bE h fun ahw Ye h=>?_
 obtain rfl:=O (V Ye)
 refine ww<|ww<|ww<|ww<|pT rfl<|mv rfl<|bE h fun ahx Yf h=>?_
 obtain rfl:=O (V Yf)
 exact ww<|ww<|ww<|ww<|ww<|ww<|ww<|pT rfl<|dn<|⟨true,h,wR []⟩
 obtain rfl:=O (V G9)
 refine ww<|ww<|ww<|pT rfl<|mv rfl<|bE h fun ahy Yg h=>?_
 obtain rfl:=O (V Yg)
 refine ww<|ww<|ww<|ww<|pT rfl<|mv rfl<|bE h fun ahz Yh h=>?_
 obtain rfl:=O (V Yh)
 refine ww<|ww<|ww<|ww<|pT rfl<|mv rfl<|bE h fun ahA Yi h=>?_
 obtain rfl:=O (V Yi)
 refine ww<|ww<|ww<|ww<|pT rfl<|mv rfl<|bE h fun ahB Yj h=>?_
 obtain rfl:=O (V Yj)
 exact ww<|ww<|ww<|ww<|ww<|ww<|ww<|pT rfl<|dn<|⟨true,h,wR []⟩
 try dsimp only
 refine ae.n ?_
 cases Lq
 refine fs<|qq ?_
 refine aF (F h) (fun Vi=>AS.bJ 50 [(2,.sv (.v (.bool Vi)))] [] []) (fun h=>?_) (fun IP h=>?_)
 refine af<|fa rfl rfl<|lV rfl rfl rfl<|fa rfl rfl<|lV rfl rfl rfl<|bE h fun oZ xE h=>cl (vu xE) ⟨rfl,rfl,trivial⟩<|mv rfl<|bE h fun Q8 xW h=>?_
 cases oZ
 obtain rfl:=O (F xW)
 exact ww<|ww<|ww<|ww<|ww<|pF rfl<|ag rfl<|dn<|⟨false,h,wR []⟩
 refine RT.fieldAddr (.some rfl rfl) rfl T rfl<|RT.sy (.some rfl rfl) rfl rfl rfl T<|RT.fieldAddr (.some rfl rfl) rfl T rfl<|RT.sy (.some rfl rfl) rfl rfl rfl T<|bE (V xW) fun rI h48 xW=>gc (vu h48) ⟨rfl,rfl,trivial⟩ ?_
 obtain rfl:=O xW
 exact pT rfl<|ag rfl<|dn<|⟨rI,h,wR []⟩
 try dsimp only
 refine ae.n<|aj ?_
 obtain rfl:=O h
 exact R1 rfl
 refine cT<|sr<|ag rfl<|dn<|aj<|ae.r ?_
 obtain rfl:=O (V h)
 exact R1 rfl
end Go.Proofs.YtningmnklfpfjaaGreat
namespace Go.Proofs.YtningmnklfpfjaaGreat
open Go.Fw
noncomputable def mB(x0:List Zr):Option (Bool):=(bQ (fun(qR:Int)=>(show Option ((Int)⊕((Unit)⊕(Bool)))from(some (x0.length:Int)).bind fun x6=>(some (decide ((qR:Int)<x6))).bind fun x7=>(bif x7 then(cz x0 qR).bind fun⟨gE,gj⟩=>(some (gj.length:Int)).bind fun dR=>(some (decide ((12:Int)<dR))).bind fun iY=>(bif iY then some (.inr (.inr true))else(some (IntKind.i64.wrap (qR+1))).bind fun x9=>some (.inl x9))else some (.inr (.inl ()))))) 0).bind fun e6=>match e6 with|.inr v6=>some v6|.inl _=>some false
end Go.Proofs.YtningmnklfpfjaaGreat
namespace Go.Proofs.YtningmnklfpfjaaGreat
open Go.Fw Go.Fw.Z Go.RowKit
theorem Ez{x0:List Zr}{r:Bool}(h:mB x0=some r):Pure Tryz.prog 125 [slc 2 (List.map eZ x0)] (.v (.bool r)):=by
 refine ay Tryz.func125 rfl (Nat.le_of_ble_eq_true rfl) (fun cO M vs hvs=>?_)
 unfold mB at h
 refine sr<|ag rfl<|dn<|qq<|sr<|ag rfl<|dn<|bE h fun e6 CI jd=>?_
 refine aT (fun(Gm:Unit)=>AS.bJ 17 [] [] []) (fun Gm=>.inl Gm=e6) ?_ (fun Gm CJ=>?_)
 refine ak ?_
 refine aU CI (fun s6=>AS.bJ 17 [(0,.sv (slc 2 (List.map eZ x0))),(3,.sv (.v (.int .i64 s6)))] [] []) (wR []) (fun qR y6 G6 h CK yJ=>?_)
 try dsimp only
 refine qq<|sr<|mv rfl<|mv rfl<|lE h fun x6 h6 h=>ln rfl h6<|lE h fun x7 h7 h=>ls _ rfl rfl h7<|dn ?_
 cases x7
 refine cF<|bf<|ae.x<|ae.x<|aK.x<|ae.n ?_
 obtain rfl:=O (F h)
 exact⟨(),yJ _ rfl,wR []⟩
 refine cT<|aH<|ae.n<|qq<|ak<|sr<|mv rfl<|mv rfl ?_
 obtain⟨⟨gE,gj⟩,fj,h⟩:=bS (V h)
 refine ix rfl rfl fj<|RT.bh .none rfl T rfl<|lr rfl rfl<|lE h fun dR fT h=>ln rfl fT<|lE h fun iY kX h=>gt _ rfl rfl kX<|dn ?_
 cases iY
 refine cF<|aH<|aK.n<|ae.n<|af<|mv rfl<|lE (F h) fun x9 h9 h=>ad _ rfl rfl h9<|ag rfl<|RT.done ?_
 obtain rfl:=O h
 exact ae.n ⟨x9,CK _ rfl,wR []⟩
 refine cT<|sr<|ag rfl<|dn<|aj<|aK.r<|ae.r ?_
 obtain rfl:=O (V h)
 have PJ:=yJ _ rfl
 subst PJ
 refine ae.r<|aK.r<|ae.r<|ae.r ?_
 obtain rfl:=O jd
 exact R1 rfl
 subst CJ
 try dsimp only
 refine ae.n<|sr<|ag rfl<|dn<|aj ?_
 obtain rfl:=O jd
 exact R1 rfl
end Go.Proofs.YtningmnklfpfjaaGreat
namespace Go.Proofs.YtningmnklfpfjaaGreat
open Go.Fw
noncomputable def mD(x0:List Qr):Option (Bool):=(bQ (fun(wH:Int)=>(show Option ((Int)⊕((Unit)⊕(Bool)))from(some (x0.length:Int)).bind fun x6=>(some (decide ((wH:Int)<x6))).bind fun x7=>(bif x7 then b9 (fun(Ls:Bool)=>(bif Ls then some (.inr (.inr true))else(some (IntKind.i64.wrap (wH+1))).bind fun x9=>some (.inl x9))) fun K22=>(cz x0 wH).bind fun⟨⟨gE,gj⟩,⟨Ms,Mt⟩⟩=>(cz x0 wH).bind fun⟨⟨uK,uL⟩,⟨Fs,Ft⟩⟩=>(mB [⟨gE,gj⟩,⟨Fs,Ft⟩]).bind fun ik=>(bif ik then some true else(cz x0 wH).bind fun⟨⟨iL,iB⟩,⟨nU,nV⟩⟩=>(some (iB.length:Int)).bind fun iq=>(some (decide ((6:Int)<iq))).bind fun uB=>some uB).bind fun Ra=>(bif Ra then some true else(cz x0 wH).bind fun⟨⟨acz,acA⟩,⟨acB,VX⟩⟩=>(some (VX.length:Int)).bind fun tX=>(some (decide ((6:Int)<tX))).bind fun lO=>some lO).bind fun YU=>K22 YU else some (.inr (.inl ()))))) 0).bind fun Lo=>match Lo with|.inr v16=>some v16|.inl _=>some false
end Go.Proofs.YtningmnklfpfjaaGreat
namespace Go.Proofs.YtningmnklfpfjaaGreat
open Go.Fw Go.Fw.Z Go.RowKit
theorem EA{x0:List Qr}{r:Bool}(h:mD x0=some r):Pure Tryz.prog 82 [slc 4 (List.map eQ x0)] (.v (.bool r)):=by
 refine ay Tryz.func82 rfl (Nat.le_of_ble_eq_true rfl) (fun cO M vs hvs=>?_)
 unfold mD at h
 refine sr<|ag rfl<|dn<|qq<|sr<|ag rfl<|dn<|bE h fun Lo GZ mA=>?_
 refine aT (fun(DD:Unit)=>AS.bJ 42 [] [] []) (fun DD=>.inl DD=Lo) ?_ (fun DD G0=>?_)
 refine ak ?_
 refine aU GZ (fun Jo=>AS.bJ 42 [(0,.sv (slc 4 (List.map eQ x0))),(3,.sv (.v (.int .i64 Jo)))] [] []) (wR []) (fun wH y16 G16 h G3 Bo=>?_)
 try dsimp only
 refine qq<|sr<|mv rfl<|mv rfl<|lE h fun x6 h6 h=>ln rfl h6<|lE h fun x7 h7 h=>ls _ rfl rfl h7<|dn ?_
 cases x7
 refine cF<|bf<|ae.x<|ae.x<|aK.x<|ae.n ?_
 obtain rfl:=O (F h)
 exact⟨(),Bo _ rfl,wR []⟩
 refine cT<|aH<|ae.n<|qq<|ak<|qq ?_
 refine aF (V h) (fun j22=>AS.bJ 42 [(0,.sv (slc 4 (List.map eQ x0))),(3,.sv (.v (.int .i64 wH))),(41,.sv (.v (.bool j22)))] [] []) (fun h=>?_) (fun Ls h=>?_)
 refine ai mixed<|mv rfl<|mv rfl ?_
 obtain⟨⟨⟨gE,gj⟩,⟨Ms,Mt⟩⟩,fj,h⟩:=bS h
 refine ix rfl rfl fj<|RT.bh .none rfl T rfl<|RT.iW (cs:=[_,_]) .none rfl T rfl rfl<|mv rfl<|mv rfl ?_
 obtain⟨⟨⟨uK,uL⟩,⟨Fs,Ft⟩⟩,lH,h⟩:=bS h
 refine ix rfl rfl lH<|RT.bh .none rfl T rfl<|RT.iW (cs:=[_,_]) .none rfl T rfl rfl<|bl (l:=[⟨gE,gj⟩,⟨Fs,Ft⟩]) (e:=eZ) (.agg rfl (.agg rfl (.nil))) rfl rfl rfl rfl rfl rfl<|bE h fun ik ni h=>cl (Ez ni) ⟨rfl,trivial⟩<|mv rfl<|bE h fun Ra tf h=>?_
 cases ik
 refine gm rfl<|gm rfl ?_
 obtain⟨⟨⟨iL,iB⟩,⟨nU,nV⟩⟩,qc,tf⟩:=bS (F tf)
 refine RT.S8 (.some rfl rfl) rfl rfl T qc<|RT.bh (.some rfl rfl) rfl T rfl<|RT.bh (.some rfl rfl) rfl T rfl<|gr rfl rfl<|lE tf fun iq jw tf=>gn rfl jw<|lE tf fun uB uJ tf=>gg _ rfl rfl uJ ?_
 obtain rfl:=O tf
 refine pF rfl<|mv rfl<|bE h fun ahE ve h=>?_
 cases uB
 refine gm rfl<|gm rfl ?_
 obtain⟨⟨⟨acz,acA⟩,⟨acB,VX⟩⟩,xD,ve⟩:=bS (F ve)
 refine RT.S8 (.some rfl rfl) rfl rfl T xD<|RT.bh (.some rfl rfl) rfl T rfl<|RT.bh (.some rfl rfl) rfl T rfl<|gr rfl rfl<|lE ve fun tX CM ve=>gn rfl CM<|lE ve fun lO oc ve=>gg _ rfl rfl oc ?_
 obtain rfl:=O ve
 refine pF rfl ?_
 refine RT.done ⟨by kernel_rfl,?_⟩
 exact ae.n<|⟨lO,h,wR []⟩
 obtain rfl:=O (V ve)
 refine ww<|ww<|ww<|ww<|ww<|ww<|ww<|ww<|pT rfl ?_
 refine RT.done ⟨by kernel_rfl,?_⟩
 exact ae.n<|⟨true,h,wR []⟩
 obtain rfl:=O (V tf)
 refine ww<|ww<|ww<|ww<|ww<|ww<|ww<|ww<|pT rfl<|mv rfl<|bE h fun ahF xW h=>?_
 obtain rfl:=O (V xW)
 refine ww<|ww<|ww<|ww<|ww<|ww<|ww<|ww<|pT rfl ?_
 refine RT.done ⟨by kernel_rfl,?_⟩
 exact ae.n<|⟨true,h,wR []⟩
 try dsimp only
 refine ae.n ?_
 cases Ls
 refine cF<|aH<|aK.n<|ae.n<|af<|mv rfl<|lE (F h) fun x9 h9 h=>ad _ rfl rfl h9<|ag rfl<|RT.done ?_
 obtain rfl:=O h
 exact ae.n ⟨x9,G3 _ rfl,wR []⟩
 refine cT<|sr<|ag rfl<|dn<|aj<|aK.r<|ae.r ?_
 obtain rfl:=O (V h)
 have Q7:=Bo _ rfl
 subst Q7
 refine ae.r<|aK.r<|ae.r<|ae.r ?_
 obtain rfl:=O mA
 exact R1 rfl
 subst G0
 try dsimp only
 refine ae.n<|sr<|ag rfl<|dn<|aj ?_
 obtain rfl:=O mA
 exact R1 rfl
end Go.Proofs.YtningmnklfpfjaaGreat
namespace Go.Proofs.YtningmnklfpfjaaGreat
open Go.Fw
noncomputable def kN(x0:List (List Qr)):Option (Bool):=(bQ (fun(NL:Int)=>(show Option ((Int)⊕((Unit)⊕(Bool)))from(some (x0.length:Int)).bind fun x6=>(some (decide ((NL:Int)<x6))).bind fun x7=>(bif x7 then b9 (fun(Lt:Bool)=>(bif Lt then some (.inr (.inr true))else(some (IntKind.i64.wrap (NL+1))).bind fun x9=>some (.inl x9))) fun Oj=>(cz x0 NL).bind fun dW=>(some (dW.length:Int)).bind fun fg=>(some (decide ((20:Int)<fg))).bind fun dR=>(bif dR then some true else(cz x0 NL).bind fun kS=>(mD kS).bind fun ik=>some ik).bind fun Rb=>Oj Rb else some (.inr (.inl ()))))) 0).bind fun PI=>match PI with|.inr v10=>some v10|.inl _=>some false
noncomputable def kO(x0:List (List (List Qr))):Option (Bool):=(bQ (fun(wH:Int)=>(show Option ((Int)⊕((Unit)⊕(Bool)))from(some (x0.length:Int)).bind fun x6=>(some (decide ((wH:Int)<x6))).bind fun x7=>(bif x7 then b9 (fun(Lu:Bool)=>(bif Lu then some (.inr (.inr true))else(some (IntKind.i64.wrap (wH+1))).bind fun x9=>some (.inl x9))) fun K22=>(cz x0 wH).bind fun dW=>(some (dW.length:Int)).bind fun fg=>(some (decide ((8:Int)<fg))).bind fun dR=>(bif dR then some true else(cz x0 wH).bind fun kS=>(kM kS).bind fun ik=>(some (decide ((8:Int)<ik))).bind fun jB=>some jB).bind fun He=>(bif He then some true else(cz x0 wH).bind fun lq=>(kN lq).bind fun iq=>some iq).bind fun YV=>K22 YV else some (.inr (.inl ()))))) 0).bind fun Lo=>match Lo with|.inr v16=>some v16|.inl _=>some false
noncomputable def nF:Option (Lr):=(iO [[3,5]]).bind fun x3=>(iO [[1,0],[0,2],[3,2]]).bind fun x8=>(cG [4,12,18]).bind fun ek=>some ⟨2,x3,x8,ek⟩
noncomputable def mE(x0:List (List Qr)):Option (Bool):=(bQ (fun(qR:Int)=>(show Option ((Int)⊕((Unit)⊕(Bool)))from(some (x0.length:Int)).bind fun x6=>(some (decide ((qR:Int)<x6))).bind fun x7=>(bif x7 then(cz x0 qR).bind fun dW=>(some (dW.length:Int)).bind fun fg=>(some (decide ((0:Int)<fg))).bind fun dR=>(bif dR then some (.inr (.inr false))else(some (IntKind.i64.wrap (qR+1))).bind fun x9=>some (.inl x9))else some (.inr (.inl ()))))) 0).bind fun e6=>match e6 with|.inr v6=>some v6|.inl _=>some true
noncomputable def n8(x0:List Qr):Option (List Qr):=(some (x0.length:Int)).bind fun x5=>(some (min (x5:Int) 20)).bind fun x6=>(Ei x0 0 x6).bind fun x7=>some x7
noncomputable def mF(x0:Lr):Option (Bool):=match x0 with|⟨aC,aD,aM,aN⟩=>b9 (fun(VY:Bool)=>some VY) fun K59=>(some (aD.length:Int)).bind fun x5=>(some (decide ((6:Int)<x5))).bind fun x6=>(bif x6 then some true else(some (aM.length:Int)).bind fun ek=>(some (decide ((140:Int)<ek))).bind fun iI=>some iI).bind fun Rc=>(bif Rc then some true else(some (aN.length:Int)).bind fun iY=>(some (decide ((140:Int)<iY))).bind fun gx=>some gx).bind fun TP=>(bif TP then some true else(some (aM.length:Int)).bind fun jB=>(some (decide ((8:Int)<jB))).bind fun jJ=>(bif jJ then(mE aM).bind fun lq=>(some (!lq)).bind fun oM=>some oM else some false).bind fun TQ=>some TQ).bind fun TS=>(bif TS then some true else(some (aM.length:Int)).bind fun m8=>(some (decide ((m8:Int)≤8))).bind fun ow=>(bif ow then(kO [aM]).bind fun lO=>some lO else some false).bind fun TT=>some TT).bind fun TU=>(bif TU then some true else(kO [aD]).bind fun uC=>some uC).bind fun TV=>(bif TV then some true else(n8 aN).bind fun uc=>(kN [uc]).bind fun yI=>some yI).bind fun TW=>K59 TW
end Go.Proofs.YtningmnklfpfjaaGreat
namespace Go.Proofs.YtningmnklfpfjaaGreat
open Go.Fw Go.Fw.Z Go.RowKit
theorem k7{x0:List (List Qr)}{r:Bool}(h:kN x0=some r):Pure Tryz.prog 33 [slc 1 (List.map (eS 4 eQ) x0)] (.v (.bool r)):=by
 refine ay Tryz.func33 rfl (Nat.le_of_ble_eq_true rfl) (fun cO M vs hvs=>?_)
 unfold kN at h
 refine sr<|ag rfl<|dn<|qq<|sr<|ag rfl<|dn<|bE h fun PI Gj A7=>?_
 refine aT (fun(YW:Unit)=>AS.bJ 23 [] [] []) (fun YW=>.inl YW=PI) ?_ (fun YW Gk=>?_)
 refine ak ?_
 refine aU Gj (fun Gg=>AS.bJ 23 [(0,.sv (slc 1 (List.map (eS 4 eQ) x0))),(3,.sv (.v (.int .i64 Gg)))] [] []) (wR []) (fun NL y10 G10 h Gl CH=>?_)
 try dsimp only
 refine qq<|sr<|mv rfl<|mv rfl<|lE h fun x6 h6 h=>ln rfl h6<|lE h fun x7 h7 h=>ls _ rfl rfl h7<|dn ?_
 cases x7
 refine cF<|bf<|ae.x<|ae.x<|aK.x<|ae.n ?_
 obtain rfl:=O (F h)
 exact⟨(),CH _ rfl,wR []⟩
 refine cT<|aH<|ae.n<|qq<|ak<|qq ?_
 refine aF (V h) (fun Nz=>AS.bJ 23 [(0,.sv (slc 1 (List.map (eS 4 eQ) x0))),(3,.sv (.v (.int .i64 NL))),(22,.sv (.v (.bool Nz)))] [] []) (fun h=>?_) (fun Lt h=>?_)
 refine af<|mv rfl<|mv rfl<|bE h fun dW fj h=>ix rfl rfl fj<|lr rfl rfl<|lE h fun fg jv h=>ln rfl jv<|lE h fun dR fT h=>gt _ rfl rfl fT<|mv rfl<|bE h fun Rb dZ h=>?_
 cases dR
 refine gm rfl<|gm rfl<|bE (F dZ) fun kS kJ dZ=>RT.S8 (.some rfl rfl) rfl rfl T kJ<|gr rfl rfl<|bE dZ fun ik ni dZ=>gc (EA ni) ⟨rfl,trivial⟩ ?_
 obtain rfl:=O dZ
 exact pF rfl<|dn<|⟨ik,h,wR []⟩
 obtain rfl:=O (V dZ)
 exact ww<|ww<|ww<|ww<|ww<|pT rfl<|dn<|⟨true,h,wR []⟩
 try dsimp only
 refine ae.n ?_
 cases Lt
 refine cF<|aH<|aK.n<|ae.n<|af<|mv rfl<|lE (F h) fun x9 h9 h=>ad _ rfl rfl h9<|ag rfl<|RT.done ?_
 obtain rfl:=O h
 exact ae.n ⟨x9,Gl _ rfl,wR []⟩
 refine cT<|sr<|ag rfl<|dn<|aj<|aK.r<|ae.r ?_
 obtain rfl:=O (V h)
 have ahG:=CH _ rfl
 subst ahG
 refine ae.r<|aK.r<|ae.r<|ae.r ?_
 obtain rfl:=O A7
 exact R1 rfl
 subst Gk
 try dsimp only
 refine ae.n<|sr<|ag rfl<|dn<|aj ?_
 obtain rfl:=O A7
 exact R1 rfl
theorem jG{x0:List (List (List Qr))}{r:Bool}(h:kO x0=some r):Pure Tryz.prog 98 [slc 1 (List.map (eS 1 (eS 4 eQ)) x0)] (.v (.bool r)):=by
 refine ay Tryz.func98 rfl (Nat.le_of_ble_eq_true rfl) (fun cO M vs hvs=>?_)
 unfold kO at h
 refine sr<|ag rfl<|dn<|qq<|sr<|ag rfl<|dn<|bE h fun Lo GZ mA=>?_
 refine aT (fun(DD:Unit)=>AS.bJ 31 [] [] []) (fun DD=>.inl DD=Lo) ?_ (fun DD G0=>?_)
 refine ak ?_
 refine aU GZ (fun Jo=>AS.bJ 31 [(0,.sv (slc 1 (List.map (eS 1 (eS 4 eQ)) x0))),(3,.sv (.v (.int .i64 Jo)))] [] []) (wR []) (fun wH y16 G16 h G3 Bo=>?_)
 try dsimp only
 refine qq<|sr<|mv rfl<|mv rfl<|lE h fun x6 h6 h=>ln rfl h6<|lE h fun x7 h7 h=>ls _ rfl rfl h7<|dn ?_
 cases x7
 refine cF<|bf<|ae.x<|ae.x<|aK.x<|ae.n ?_
 obtain rfl:=O (F h)
 exact⟨(),Bo _ rfl,wR []⟩
 refine cT<|aH<|ae.n<|qq<|ak<|qq ?_
 refine aF (V h) (fun j22=>AS.bJ 31 [(0,.sv (slc 1 (List.map (eS 1 (eS 4 eQ)) x0))),(3,.sv (.v (.int .i64 wH))),(30,.sv (.v (.bool j22)))] [] []) (fun h=>?_) (fun Lu h=>?_)
 refine af<|mv rfl<|mv rfl<|bE h fun dW fj h=>ix rfl rfl fj<|lr rfl rfl<|lE h fun fg jv h=>ln rfl jv<|lE h fun dR fT h=>gt _ rfl rfl fT<|mv rfl<|bE h fun He tf h=>?_
 cases dR
 refine gm rfl<|gm rfl<|bE (F tf) fun kS kJ tf=>RT.S8 (.some rfl rfl) rfl rfl T kJ<|gr rfl rfl<|bE tf fun ik ni tf=>gc (wZ ni) ⟨rfl,trivial⟩<|lE tf fun jB nS tf=>gg _ rfl rfl nS ?_
 obtain rfl:=O tf
 refine pF rfl<|mv rfl<|bE h fun ahH ve h=>?_
 cases jB
 refine gm rfl<|gm rfl<|bE (F ve) fun lq oU ve=>RT.S8 (.some rfl rfl) rfl rfl T oU<|gr rfl rfl<|bE ve fun iq jw ve=>gc (k7 jw) ⟨rfl,trivial⟩ ?_
 obtain rfl:=O ve
 exact pF rfl<|dn<|⟨iq,h,wR []⟩
 obtain rfl:=O (V ve)
 exact ww<|ww<|ww<|ww<|ww<|pT rfl<|dn<|⟨true,h,wR []⟩
 obtain rfl:=O (V tf)
 refine ww<|ww<|ww<|ww<|ww<|ww<|pT rfl<|mv rfl<|bE h fun ahI xW h=>?_
 obtain rfl:=O (V xW)
 exact ww<|ww<|ww<|ww<|ww<|pT rfl<|dn<|⟨true,h,wR []⟩
 try dsimp only
 refine ae.n ?_
 cases Lu
 refine cF<|aH<|aK.n<|ae.n<|af<|mv rfl<|lE (F h) fun x9 h9 h=>ad _ rfl rfl h9<|ag rfl<|RT.done ?_
 obtain rfl:=O h
 exact ae.n ⟨x9,G3 _ rfl,wR []⟩
 refine cT<|sr<|ag rfl<|dn<|aj<|aK.r<|ae.r ?_
 obtain rfl:=O (V h)
 have Q7:=Bo _ rfl
 subst Q7
 refine ae.r<|aK.r<|ae.r<|ae.r ?_
 obtain rfl:=O mA
 exact R1 rfl
 subst G0
 try dsimp only
 refine ae.n<|sr<|ag rfl<|dn<|aj ?_
 obtain rfl:=O mA
 exact R1 rfl
theorem DE{r:Lr}(h:nF=some r):Pure Tryz.prog 53 [] (.agg (Kh r)):=by
 refine ay Tryz.func53 rfl (Nat.le_of_ble_eq_true rfl) (fun cO M vs hvs=>?_)
 unfold nF at h
 refine sr<|al (cs:=[.v (.int .i64 0),slc 1 (List.map (eS 4 eQ) []),slc 1 (List.map (eS 4 eQ) []),slc 4 (List.map eQ [])]) (by exact⟨SV.aa _,imp_nil,imp_nil,imp_nil,trivial⟩) rfl<|dn<|sr<|bl (l:=[3,5]) (e:=bj) (.one rfl (.one rfl (.nil))) rfl rfl rfl rfl rfl rfl<|bl (l:=[[3,5]]) (e:=(eS 1 bj)) (.one rfl (.nil)) rfl rfl rfl rfl rfl rfl<|bE h fun x3 h3 h=>cl (tL h3) ⟨rfl,trivial⟩<|bl (l:=[1,0]) (e:=bj) (.one rfl (.one rfl (.nil))) rfl rfl rfl rfl rfl rfl ?_
 refine bl (l:=[0,2]) (e:=bj) (.one rfl (.one rfl (.nil))) rfl rfl rfl rfl rfl rfl<|bl (l:=[3,2]) (e:=bj) (.one rfl (.one rfl (.nil))) rfl rfl rfl rfl rfl rfl<|bl (l:=[[1,0],[0,2],[3,2]]) (e:=(eS 1 bj)) (.one rfl (.one rfl (.one rfl (.nil)))) rfl rfl rfl rfl rfl rfl<|bE h fun x8 h8 h=>cl (tL h8) ⟨rfl,trivial⟩<|bl (l:=[4,12,18]) (e:=bj) (.one rfl (.one rfl (.one rfl (.nil)))) rfl rfl rfl rfl rfl rfl<|bE h fun ek gC h=>cl (dP gC) ⟨rfl,trivial⟩ ?_
 refine bI (cs:=[_,_,_,_]) (cs':=[.v (.int .i64 2),slc 1 (List.map (eS 4 eQ) x3),slc 1 (List.map (eS 4 eQ) x8),slc 4 (List.map eQ ek)]) (.one rfl (.one rfl (.one rfl (.one rfl (.nil))))) ⟨SV.aa _,SV.aa _,SV.aa _,SV.aa _,trivial⟩<|so rfl rfl rfl<|dn<|aj ?_
 obtain rfl:=O h
 exact RZ (.agg rfl rfl (.cons rfl (.cons rfl (.cons rfl (.cons rfl (.nil))))) rfl (.nil))
theorem EB{x0:List (List Qr)}{r:Bool}(h:mE x0=some r):Pure Tryz.prog 97 [slc 1 (List.map (eS 4 eQ) x0)] (.v (.bool r)):=by
 refine ay Tryz.func97 rfl (Nat.le_of_ble_eq_true rfl) (fun cO M vs hvs=>?_)
 unfold mE at h
 refine sr<|ag rfl<|dn<|qq<|sr<|ag rfl<|dn<|bE h fun e6 CI jd=>?_
 refine aT (fun(Gm:Unit)=>AS.bJ 16 [] [] []) (fun Gm=>.inl Gm=e6) ?_ (fun Gm CJ=>?_)
 refine ak ?_
 refine aU CI (fun s6=>AS.bJ 16 [(0,.sv (slc 1 (List.map (eS 4 eQ) x0))),(3,.sv (.v (.int .i64 s6)))] [] []) (wR []) (fun qR y6 G6 h CK yJ=>?_)
 try dsimp only
 refine qq<|sr<|mv rfl<|mv rfl<|lE h fun x6 h6 h=>ln rfl h6<|lE h fun x7 h7 h=>ls _ rfl rfl h7<|dn ?_
 cases x7
 refine cF<|bf<|ae.x<|ae.x<|aK.x<|ae.n ?_
 obtain rfl:=O (F h)
 exact⟨(),yJ _ rfl,wR []⟩
 refine cT<|aH<|ae.n<|qq<|ak<|sr<|mv rfl<|mv rfl<|bE (V h) fun dW fj h=>ix rfl rfl fj<|lr rfl rfl<|lE h fun fg jv h=>ln rfl jv<|lE h fun dR fT h=>gt _ rfl rfl fT<|dn ?_
 cases dR
 refine cF<|aH<|aK.n<|ae.n<|af<|mv rfl<|lE (F h) fun x9 h9 h=>ad _ rfl rfl h9<|ag rfl<|RT.done ?_
 obtain rfl:=O h
 exact ae.n ⟨x9,CK _ rfl,wR []⟩
 refine cT<|sr<|ag rfl<|dn<|aj<|aK.r<|ae.r ?_
 obtain rfl:=O (V h)
 have PJ:=yJ _ rfl
 subst PJ
 refine ae.r<|aK.r<|ae.r<|ae.r ?_
 obtain rfl:=O jd
 exact R1 rfl
 subst CJ
 try dsimp only
 refine ae.n<|sr<|ag rfl<|dn<|aj ?_
 obtain rfl:=O jd
 exact R1 rfl
theorem oS{x0:List Qr}{r:List Qr}(h:n8 x0=some r):Pure Tryz.prog 99 [slc 4 (List.map eQ x0)] (slc 4 (List.map eQ r)):=by
 refine ay Tryz.func99 rfl (Nat.le_of_ble_eq_true rfl) (fun cO M vs hvs=>?_)
 unfold n8 at h
 refine sr<|aI rfl (imp_nil (n:=4) (e:=eQ))<|dn<|sr<|mv rfl<|mv rfl<|lE h fun x5 h5 h=>ln rfl h5<|lE h fun x6 h6 h=>RT.min .none _ rfl rfl T (O2 (p:=x5) (q:=20) h6)<|bE h fun x7 h7 h=>RT.F8 .none 0 x6 rfl rfl ⟨_,rfl⟩ T h7<|ag rfl<|dn<|aj ?_
 obtain rfl:=O h
 exact R1 rfl
set_option maxHeartbeats 4000000 in
theorem EC{x0:Lr}{r:Bool}(h:mF x0=some r):Pure Tryz.prog 52 [.agg (Kh x0)] (.v (.bool r)):=by
 obtain⟨aC,aD,aM,aN⟩:=x0
 refine ay Tryz.func52 rfl (Nat.le_of_ble_eq_true rfl) (fun cO M vs hvs=>?_)
 unfold mF at h
 refine sr<|bx rfl<|ag rfl<|dn<|qq ?_
 refine aF h (fun j59=>AS.bJ 56 [(2,.sv (.v (.bool j59)))] [] []) (fun h=>?_) (fun VY h=>?_)
 refine af<|fa rfl rfl<|lV rfl rfl rfl<|lE h fun x5 h5 h=>ln rfl h5<|lE h fun x6 h6 h=>gt _ rfl rfl h6<|mv rfl<|bE h fun Rc Jt h=>?_
 cases x6
 refine RT.fieldAddr (.some rfl rfl) rfl T rfl<|RT.sy (.some rfl rfl) rfl rfl rfl T<|lE (F Jt) fun ek gC Jt=>gn rfl gC<|lE Jt fun iI nh Jt=>gg _ rfl rfl nh ?_
 obtain rfl:=O Jt
 refine pF rfl<|mv rfl<|bE h fun ahJ Ju h=>?_
 cases iI
 refine RT.fieldAddr (.some rfl rfl) rfl T rfl<|RT.sy (.some rfl rfl) rfl rfl rfl T<|lE (F Ju) fun iY kX Ju=>gn rfl kX<|lE Ju fun gx lH Ju=>gg _ rfl rfl lH ?_
 obtain rfl:=O Ju
 refine pF rfl<|mv rfl<|bE h fun ahK DF h=>?_
 cases gx
 refine RT.fieldAddr (.some rfl rfl) rfl T rfl<|RT.sy (.some rfl rfl) rfl rfl rfl T<|lE (F DF) fun jB nS DF=>gn rfl nS<|lE DF fun jJ qb DF=>gg _ rfl rfl qb<|gm rfl<|bE DF fun ahL Jv DF=>?_
 cases jJ
 obtain rfl:=O (F Jv)
 refine ww<|ww<|ww<|ww<|gF rfl ?_
 obtain rfl:=O DF
 refine pF rfl<|mv rfl<|bE h fun ahM ED h=>RT.fieldAddr (.some rfl rfl) rfl T rfl<|RT.sy (.some rfl rfl) rfl rfl rfl T<|lE (F ED) fun m8 o9 ED=>gn rfl o9<|lE ED fun ow xD ED=>RT.leq (.some rfl rfl) _ rfl rfl T xD<|gm rfl<|bE ED fun ahN NM ED=>?_
 cases ow
 obtain rfl:=O (F NM)
 refine ww<|ww<|ww<|ww<|gF rfl ?_
 obtain rfl:=O ED
 refine pF rfl<|mv rfl<|bE h fun ahO tZ h=>RT.fieldAddr (.some rfl rfl) rfl T rfl<|RT.sy (.some rfl rfl) rfl rfl rfl T<|RT.fX (l:=[aD]) (e:=(eS 1 (eS 4 eQ))) (.some rfl rfl) (.one rfl (.nil)) T rfl rfl rfl rfl rfl rfl<|bE (F tZ) fun uC xF tZ=>gc (jG xF) ⟨rfl,trivial⟩ ?_
 obtain rfl:=O tZ
 refine pF rfl<|mv rfl<|bE h fun ahP zj h=>?_
 cases uC
 refine RT.fieldAddr (.some rfl rfl) rfl T rfl<|RT.sy (.some rfl rfl) rfl rfl rfl T<|bE (F zj) fun uc yL zj=>gc (oS yL) ⟨rfl,trivial⟩<|RT.fX (l:=[uc]) (e:=(eS 4 eQ)) (.some rfl rfl) (.one rfl (.nil)) T rfl rfl rfl rfl rfl rfl<|bE zj fun yI Er zj=>gc (k7 Er) ⟨rfl,trivial⟩ ?_
 obtain rfl:=O zj
 exact pF rfl<|ag rfl<|dn<|⟨yI,h,wR []⟩
 obtain rfl:=O (V zj)
 exact ww<|ww<|ww<|ww<|ww<|pT rfl<|ag rfl<|dn<|⟨true,h,wR []⟩
 refine RT.fieldAddr (.some rfl rfl) rfl T rfl<|RT.sy (.some rfl rfl) rfl rfl rfl T<|RT.fX (l:=[aM]) (e:=(eS 1 (eS 4 eQ))) (.some rfl rfl) (.one rfl (.nil)) T rfl rfl rfl rfl rfl rfl<|bE (V NM) fun lO oc NM=>gc (jG oc) ⟨rfl,trivial⟩ ?_
 obtain rfl:=O NM
 refine gT rfl ?_
 obtain rfl:=O ED
 refine pF rfl<|mv rfl<|bE h fun ahQ xX h=>?_
 cases lO
 refine RT.fieldAddr (.some rfl rfl) rfl T rfl<|RT.sy (.some rfl rfl) rfl rfl rfl T<|RT.fX (l:=[aD]) (e:=(eS 1 (eS 4 eQ))) (.some rfl rfl) (.one rfl (.nil)) T rfl rfl rfl rfl rfl rfl<|bE (F xX) fun uC xF xX=>gc (jG xF) ⟨rfl,trivial⟩ ?_
 obtain rfl:=O xX
 refine pF rfl<|mv rfl<|bE h fun ahR DG h=>?_
 cases uC
 refine RT.fieldAddr (.some rfl rfl) rfl T rfl<|RT.sy (.some rfl rfl) rfl rfl rfl T<|bE (F DG) fun uc yL DG=>gc (oS yL) ⟨rfl,trivial⟩<|RT.fX (l:=[uc]) (e:=(eS 4 eQ)) (.some rfl rfl) (.one rfl (.nil)) T rfl rfl rfl rfl rfl rfl<|bE DG fun yI Er DG=>gc (k7 Er) ⟨rfl,trivial⟩ ?_
 obtain rfl:=O DG
 exact pF rfl<|ag rfl<|dn<|⟨yI,h,wR []⟩
 obtain rfl:=O (V DG)
 exact ww<|ww<|ww<|ww<|ww<|pT rfl<|ag rfl<|dn<|⟨true,h,wR []⟩
 obtain rfl:=O (V xX)
 refine ww<|ww<|ww<|ww<|pT rfl<|mv rfl<|bE h fun ahS YX h=>?_
 obtain rfl:=O (V YX)
 exact ww<|ww<|ww<|ww<|ww<|pT rfl<|ag rfl<|dn<|⟨true,h,wR []⟩
 refine RT.fieldAddr (.some rfl rfl) rfl T rfl<|RT.sy (.some rfl rfl) rfl rfl rfl T<|bE (V Jv) fun lq oU Jv=>gc (EB oU) ⟨rfl,trivial⟩<|lE Jv fun oM sS Jv=>Ki rfl _ sS ?_
 obtain rfl:=O Jv
 refine gT rfl ?_
 obtain rfl:=O DF
 refine pF rfl<|mv rfl<|bE h fun ahT DH h=>?_
 cases oM
 refine RT.fieldAddr (.some rfl rfl) rfl T rfl<|RT.sy (.some rfl rfl) rfl rfl rfl T<|lE (F DH) fun m8 o9 DH=>gn rfl o9<|lE DH fun ow xD DH=>RT.leq (.some rfl rfl) _ rfl rfl T xD<|gm rfl<|bE DH fun ahU NN DH=>?_
 cases ow
 obtain rfl:=O (F NN)
 refine ww<|ww<|ww<|ww<|gF rfl ?_
 obtain rfl:=O DH
 refine pF rfl<|mv rfl<|bE h fun ahV YY h=>RT.fieldAddr (.some rfl rfl) rfl T rfl<|RT.sy (.some rfl rfl) rfl rfl rfl T<|RT.fX (l:=[aD]) (e:=(eS 1 (eS 4 eQ))) (.some rfl rfl) (.one rfl (.nil)) T rfl rfl rfl rfl rfl rfl<|bE (F YY) fun uC xF YY=>gc (jG xF) ⟨rfl,trivial⟩ ?_
 obtain rfl:=O YY
 refine pF rfl<|mv rfl<|bE h fun ahW qV h=>?_
 cases uC
 refine RT.fieldAddr (.some rfl rfl) rfl T rfl<|RT.sy (.some rfl rfl) rfl rfl rfl T<|bE (F qV) fun uc yL qV=>gc (oS yL) ⟨rfl,trivial⟩<|RT.fX (l:=[uc]) (e:=(eS 4 eQ)) (.some rfl rfl) (.one rfl (.nil)) T rfl rfl rfl rfl rfl rfl<|bE qV fun yI Er qV=>gc (k7 Er) ⟨rfl,trivial⟩ ?_
 obtain rfl:=O qV
 exact pF rfl<|ag rfl<|dn<|⟨yI,h,wR []⟩
 obtain rfl:=O (V qV)
 exact ww<|ww<|ww<|ww<|ww<|pT rfl<|ag rfl<|dn<|⟨true,h,wR []⟩
 refine RT.fieldAddr (.some rfl rfl) rfl T rfl<|RT.sy (.some rfl rfl) rfl rfl rfl T<|RT.fX (l:=[aM]) (e:=(eS 1 (eS 4 eQ))) (.some rfl rfl) (.one rfl (.nil)) T rfl rfl rfl rfl rfl rfl<|bE (V NN) fun lO oc NN=>gc (jG oc) ⟨rfl,trivial⟩ ?_
 obtain rfl:=O NN
 refine gT rfl ?_
 obtain rfl:=O DH
 refine pF rfl<|mv rfl<|bE h fun ahX NO h=>?_
 cases lO
 refine RT.fieldAddr (.some rfl rfl) rfl T rfl<|RT.sy (.some rfl rfl) rfl rfl rfl T<|RT.fX (l:=[aD]) (e:=(eS 1 (eS 4 eQ))) (.some rfl rfl) (.one rfl (.nil)) T rfl rfl rfl rfl rfl rfl<|bE (F NO) fun uC xF NO=>gc (jG xF) ⟨rfl,trivial⟩ ?_
 obtain rfl:=O NO
 refine pF rfl<|mv rfl<|bE h fun ahY Jw h=>?_
 cases uC
 refine RT.fieldAddr (.some rfl rfl) rfl T rfl<|RT.sy (.some rfl rfl) rfl rfl rfl T<|bE (F Jw) fun uc yL Jw=>gc (oS yL) ⟨rfl,trivial⟩<|RT.fX (l:=[uc]) (e:=(eS 4 eQ)) (.some rfl rfl) (.one rfl (.nil)) T rfl rfl rfl rfl rfl rfl<|bE Jw fun yI Er Jw=>gc (k7 Er) ⟨rfl,trivial⟩ ?_
 obtain rfl:=O Jw
 exact pF rfl<|ag rfl<|dn<|⟨yI,h,wR []⟩
 obtain rfl:=O (V Jw)
 exact ww<|ww<|ww<|ww<|ww<|pT rfl<|ag rfl<|dn<|⟨true,h,wR []⟩
 obtain rfl:=O (V NO)
 refine ww<|ww<|ww<|ww<|pT rfl<|mv rfl<|bE h fun ahZ YZ h=>?_
 obtain rfl:=O (V YZ)
 exact ww<|ww<|ww<|ww<|ww<|pT rfl<|ag rfl<|dn<|⟨true,h,wR []⟩
 obtain rfl:=O (V DH)
 refine ww<|ww<|ww<|ww<|ww<|wu<|wu<|wu<|wu<|ww<|pT rfl<|mv rfl<|bE h fun ah0 Bs h=>?_
 obtain rfl:=O (V Bs)
 refine ww<|ww<|ww<|ww<|pT rfl<|mv rfl<|bE h fun ah1 NP h=>?_
 obtain rfl:=O (V NP)
 exact ww<|ww<|ww<|ww<|ww<|pT rfl<|ag rfl<|dn<|⟨true,h,wR []⟩
 obtain rfl:=O (V DF)
 refine ww<|ww<|ww<|ww<|ww<|wu<|wu<|wu<|wu<|ww<|pT rfl<|mv rfl<|bE h fun ah2 ah3 h=>?_
 obtain rfl:=O (V ah3)
 refine ww<|ww<|ww<|ww<|ww<|wu<|wu<|wu<|wu<|ww<|pT rfl<|mv rfl<|bE h fun ah4 ah5 h=>?_
 obtain rfl:=O (V ah5)
 refine ww<|ww<|ww<|ww<|pT rfl<|mv rfl<|bE h fun aeY acC h=>?_
 obtain rfl:=O (V acC)
 exact ww<|ww<|ww<|ww<|ww<|pT rfl<|ag rfl<|dn<|⟨true,h,wR []⟩
 obtain rfl:=O (V Ju)
 refine ww<|ww<|ww<|ww<|pT rfl<|mv rfl<|bE h fun aeZ acD h=>?_
 obtain rfl:=O (V acD)
 refine ww<|ww<|ww<|ww<|ww<|wu<|wu<|wu<|wu<|ww<|pT rfl<|mv rfl<|bE h fun ae0 acE h=>?_
 obtain rfl:=O (V acE)
 refine ww<|ww<|ww<|ww<|ww<|wu<|wu<|wu<|wu<|ww<|pT rfl<|mv rfl<|bE h fun ae1 acF h=>?_
 obtain rfl:=O (V acF)
 refine ww<|ww<|ww<|ww<|pT rfl<|mv rfl<|bE h fun ae2 acG h=>?_
 obtain rfl:=O (V acG)
 exact ww<|ww<|ww<|ww<|ww<|pT rfl<|ag rfl<|dn<|⟨true,h,wR []⟩
 obtain rfl:=O (V Jt)
 refine ww<|ww<|ww<|ww<|pT rfl<|mv rfl<|bE h fun ae3 acH h=>?_
 obtain rfl:=O (V acH)
 refine ww<|ww<|ww<|ww<|pT rfl<|mv rfl<|bE h fun ae4 acI h=>?_
 obtain rfl:=O (V acI)
 refine ww<|ww<|ww<|ww<|ww<|wu<|wu<|wu<|wu<|ww<|pT rfl<|mv rfl<|bE h fun ae5 acJ h=>?_
 obtain rfl:=O (V acJ)
 refine ww<|ww<|ww<|ww<|ww<|wu<|wu<|wu<|wu<|ww<|pT rfl<|mv rfl<|bE h fun ae6 acK h=>?_
 obtain rfl:=O (V acK)
 refine ww<|ww<|ww<|ww<|pT rfl<|mv rfl<|bE h fun ae7 acL h=>?_
 obtain rfl:=O (V acL)
 exact ww<|ww<|ww<|ww<|ww<|pT rfl<|ag rfl<|dn<|⟨true,h,wR []⟩
 try dsimp only
 refine ae.n<|aj ?_
 obtain rfl:=O h
 exact R1 rfl
end Go.Proofs.YtningmnklfpfjaaGreat
namespace Go.Proofs.YtningmnklfpfjaaGreat
open Go.Fw
noncomputable def hH(x0:List Int)(x1:List Int):Option (Bool):=(some (x0.length:Int)).bind fun x7=>(some (x1.length:Int)).bind fun x9=>(some (decide ((x7:Int)≠x9))).bind fun ek=>(bif ek then some false else(bQ (fun(rG:Int)=>(show Option ((Int)⊕((Unit)⊕(Bool)))from(some (x0.length:Int)).bind fun iA=>(some (decide ((rG:Int)<iA))).bind fun fg=>(bif fg then(cz x0 rG).bind fun kS=>(cz x1 rG).bind fun jJ=>(some (decide ((kS:Int)≠jJ))).bind fun vS=>(bif vS then some (.inr (.inr false))else(some (IntKind.i64.wrap (rG+1))).bind fun iY=>some (.inl iY))else some (.inr (.inl ()))))) 0).bind fun e6=>match e6 with|.inr v6=>some v6|.inl _=>some true)
noncomputable def dN:Option (Bool):=(nF).bind fun⟨acM,acN,acO,acP⟩=>(iw ⟨acM,acN,acO,acP⟩).bind fun⟨wI,wJ,NQ,NR,NS⟩=>b9 (fun(Rd:Bool)=>(bif Rd then some false else(aA wI wJ NQ NR NS 1 1).bind fun⟨lO,l14,SF,l16⟩=>b9 (fun(Lw:Bool)=>(bif Lw then some false else(aA wI wJ l14 SF l16 2 0).bind fun⟨VZ,l30,l31,l32⟩=>b9 (fun(V0:Bool)=>some V0) fun K53=>(some (decide ((VZ:Int)=0))).bind fun Kj=>(bif Kj then(e9 (⟨wI,wJ,l30,l31,l32⟩:Tb)).bind fun Md=>(cG [2,6,2]).bind fun Km=>(cK Md Km).bind fun KJ=>some KJ else some false).bind fun Re=>(bif Re then(fD (⟨wI,wJ,l30,l31,l32⟩:Tb)).bind fun x76=>(cG [2,6]).bind fun TX=>(cK x76 TX).bind fun Iy=>some Iy else some false).bind fun Y0=>(bif Y0 then(kC (⟨wI,wJ,l30,l31,l32⟩:Tb)).bind fun SG=>(cG [36,(-2),(-6)]).bind fun x85=>(cK SG x85).bind fun Pq=>some Pq else some false).bind fun Y1=>(bif Y1 then(iv (⟨wI,wJ,l30,l31,l32⟩:Tb)).bind fun SE=>some SE else some false).bind fun Y2=>(bif Y2 then(iT (⟨wI,wJ,l30,l31,l32⟩:Tb)).bind fun NT=>some NT else some false).bind fun Y3=>K53 Y3)) fun K26=>(some (decide ((lO:Int)≠0))).bind fun oZ=>(bif oZ then some true else(e9 (⟨wI,wJ,l14,SF,l16⟩:Tb)).bind fun xA=>(cG [4,6,6]).bind fun uC=>(cK xA uC).bind fun rI=>(some (!rI)).bind fun Iw=>some Iw).bind fun Rf=>(bif Rf then some true else(kC (⟨wI,wJ,l14,SF,l16⟩:Tb)).bind fun Mz=>(cG [30,0,(-6)]).bind fun wA=>(cK Mz wA).bind fun D5=>(some (!D5)).bind fun SC=>some SC).bind fun Y4=>(bif Y4 then some true else(iv (⟨wI,wJ,l14,SF,l16⟩:Tb)).bind fun D6=>some D6).bind fun Y5=>K26 Y5)) fun VJ=>(bif false then none else some false).bind fun Rg=>(bif Rg then some true else(ee (⟨wI,wJ,NQ,NR,NS⟩:Tb)).bind fun fF=>(hH fF [2,3,4]).bind fun gO=>(some (!gO)).bind fun ik=>some ik).bind fun Y6=>(bif Y6 then some true else(e9 (⟨wI,wJ,NQ,NR,NS⟩:Tb)).bind fun vS=>(cG [4,12,18]).bind fun lq=>(cK vS lq).bind fun oM=>(some (!oM)).bind fun iq=>some iq).bind fun Y7=>(bif Y7 then some true else(cH (⟨wI,wJ,NQ,NR,NS⟩:Tb) 0).bind fun sL=>(cG [(-3),1,0]).bind fun ow=>(cK sL ow).bind fun oP=>(some (!oP)).bind fun sK=>some sK).bind fun Y8=>VJ Y8
end Go.Proofs.YtningmnklfpfjaaGreat
namespace Go.Proofs.YtningmnklfpfjaaGreat
open Go.Fw Go.Fw.Z Go.RowKit
theorem nG{x0:List Int}{x1:List Int}{r:Bool}(h:hH x0 x1=some r):Pure Tryz.prog 45 [slc 1 (List.map bj x0),slc 1 (List.map bj x1)] (.v (.bool r)):=by
 refine ay Tryz.func45 rfl (Nat.le_of_ble_eq_true rfl) (fun cO M vs hvs=>?_)
 unfold hH at h
 refine sr<|ag rfl<|dn<|qq<|sr<|mv rfl<|lE h fun x7 h7 h=>ln rfl h7<|mv rfl<|lE h fun x9 h9 h=>ln rfl h9<|lE h fun ek gC h=>ne _ rfl rfl (F6 (p:=x7) (q:=x9) gC)<|dn ?_
 cases ek
 refine fs<|qq<|sr<|ag rfl<|dn<|bE (F h) fun e6 CI jd=>?_
 refine aT (fun(Gm:Unit)=>AS.bJ 26 [] [] []) (fun Gm=>.inl Gm=e6) ?_ (fun Gm CJ=>?_)
 refine ak ?_
 refine aU CI (fun s6=>AS.bJ 26 [(0,.sv (slc 1 (List.map bj x0))),(1,.sv (slc 1 (List.map bj x1))),(5,.sv (.v (.int .i64 s6)))] [] []) (wR []) (fun rG y6 G6 h CK yJ=>?_)
 try dsimp only
 refine qq<|sr<|mv rfl<|mv rfl<|lE h fun iA gW h=>ln rfl gW<|lE h fun fg jv h=>ls _ rfl rfl jv<|dn ?_
 cases fg
 refine cF<|bf<|ae.x<|ae.x<|aK.x<|ae.n ?_
 obtain rfl:=O (F h)
 exact⟨(),yJ _ rfl,wR []⟩
 refine cT<|aH<|ae.n<|qq<|ak<|qq<|ai mixed<|mv rfl<|mv rfl<|bE (V h) fun kS kJ h=>ix rfl rfl kJ<|lr rfl rfl<|mv rfl<|mv rfl<|bE h fun jJ qb h=>ix rfl rfl qb<|lr rfl rfl<|lE h fun vS qc h=>ne _ rfl rfl (F6 (p:=kS) (q:=jJ) qc) ?_
 refine RT.done ⟨by kernel_rfl,?_⟩
 refine ae.n ?_
 cases vS
 refine cF<|aH<|aK.n<|ae.n<|af<|mv rfl<|lE (F h) fun iY kX h=>ad _ rfl rfl kX<|ag rfl<|RT.done ?_
 obtain rfl:=O h
 exact ae.n ⟨iY,CK _ rfl,wR []⟩
 refine cT<|sr<|ag rfl<|dn<|aj<|aK.r<|ae.r ?_
 obtain rfl:=O (V h)
 have PJ:=yJ _ rfl
 subst PJ
 refine ae.r<|aK.r<|ae.r<|ae.r ?_
 obtain rfl:=O jd
 exact R1 rfl
 subst CJ
 try dsimp only
 refine ae.n<|sr<|ag rfl<|dn<|aj ?_
 obtain rfl:=O jd
 exact R1 rfl
 refine cT<|sr<|ag rfl<|dn<|aj<|ae.r ?_
 obtain rfl:=O (V h)
 exact R1 rfl
set_option maxHeartbeats 4000000 in
theorem kE{r:Bool}(h:dN=some r):Pure Tryz.prog 10 [] (.v (.bool r)):=by
 refine ay Tryz.func10 rfl (Nat.le_of_ble_eq_true rfl) (fun cO M vs hvs=>?_)
 unfold dN at h
 refine sr<|ag rfl<|dn<|sr ?_
 obtain⟨⟨acM,acN,acO,acP⟩,h6,h⟩:=bS h
 refine cl (DE h6) trivial ?_
 obtain⟨⟨wI,wJ,NQ,NR,NS⟩,h7,h⟩:=bS h
 refine RT.BG .none (vr h7) [304,305,306] (by decide) rfl ⟨⟨rfl,T⟩,⟨rfl,T⟩,⟨rfl,T⟩,trivial⟩ rfl ⟨rfl,trivial⟩ T rfl rfl<|mo (s:=.cmp _ _) rfl<|RT.nZ .none rfl rfl T<|RT.nZ .none rfl rfl T<|an (s:=.ptr _ _) rfl<|ag rfl<|dn<|qq<|qq ?_
 refine aF h (fun Yv=>AS.bJ 96 [(1,.ptr 7 0),(38,.sv (.v (.bool Yv)))] [(7,⟨79,[.sv (.v (.bool wI)),.sv (.v (.int .i64 wJ)),.row 304,.row 305,.row 306]⟩)] [(304,TR 23 1 (eS 4 eQ) NQ),(305,TR 3 1 bj NR),(306,TR 23 1 (eS 4 eQ) NS)]) (fun h=>?_) (fun Rd h=>?_)
 refine af<|mv rfl<|ne false rfl rfl (by decide)<|mv rfl<|bE h fun Rg tZ h=>RT.move (.some rfl rfl) (s:=.ptr _ _) rfl T<|RT.GM (.some rfl rfl) rfl rfl T ?_
 obtain rfl:=O (F tZ)
 refine pF rfl<|mv rfl<|bE h fun ah6 zj h=>RT.move (.some rfl rfl) (s:=.ptr _ _) rfl T<|bE (F zj) fun fF iM zj=>RT.cW (.some rfl rfl) (jq iM) 7 [304,305,306] rfl ⟨rfl,rfl,rfl,trivial⟩ (by decide) rfl rfl (.cons rfl (.nil)) T<|RT.fX (l:=[2,3,4]) (e:=bj) (.some rfl rfl) (.one rfl (.one rfl (.one rfl (.nil)))) T rfl rfl rfl rfl rfl rfl<|bE zj fun gO lW zj=>gc (nG lW) ⟨rfl,rfl,trivial⟩<|lE zj fun ik ni zj=>Ki rfl _ ni ?_
 obtain rfl:=O zj
 refine pF rfl<|mv rfl<|bE h fun ah7 EE h=>?_
 cases ik
 refine RT.move (.some rfl rfl) (s:=.ptr _ _) rfl T<|bE (F EE) fun vS qc EE=>RT.cW (.some rfl rfl) (pO qc) 7 [304,305,306] rfl ⟨rfl,rfl,rfl,trivial⟩ (by decide) rfl rfl (.cons rfl (.nil)) T<|RT.fX (l:=[4,12,18]) (e:=bj) (.some rfl rfl) (.one rfl (.one rfl (.one rfl (.nil)))) T rfl rfl rfl rfl rfl rfl<|bE EE fun lq oU EE=>gc (dP oU) ⟨rfl,trivial⟩<|bE EE fun oM sS EE=>gc (fk sS) ⟨rfl,rfl,trivial⟩<|lE EE fun iq jw EE=>Ki rfl _ jw ?_
 obtain rfl:=O EE
 refine pF rfl<|mv rfl<|bE h fun ah8 EF h=>?_
 cases iq
 refine RT.move (.some rfl rfl) (s:=.ptr _ _) rfl T<|bE (F EF) fun sL sV EF=>RT.cW (.some rfl rfl) (xV sV) 7 [304,305,306] rfl ⟨rfl,rfl,rfl,trivial⟩ (by decide) rfl rfl (.cons rfl (.cons rfl (.nil))) T<|RT.fX (l:=[(-3),1,0]) (e:=bj) (.some rfl rfl) (.one rfl (.one rfl (.one rfl (.nil)))) T rfl rfl rfl rfl rfl rfl<|bE EF fun ow xD EF=>gc (dP xD) ⟨rfl,trivial⟩<|bE EF fun oP qe EF=>gc (fk qe) ⟨rfl,rfl,trivial⟩<|lE EF fun sK yN EF=>?_
 refine Ki rfl _ yN ?_
 obtain rfl:=O EF
 exact pF rfl<|dn<|⟨sK,h,wR []⟩
 obtain rfl:=O (V EF)
 exact ww<|ww<|ww<|ww<|ww<|ww<|pT rfl<|dn<|⟨true,h,wR []⟩
 obtain rfl:=O (V EE)
 refine ww<|ww<|ww<|ww<|ww<|ww<|pT rfl<|mv rfl<|bE h fun ah9 aia h=>?_
 obtain rfl:=O (V aia)
 exact ww<|ww<|ww<|ww<|ww<|ww<|pT rfl<|dn<|⟨true,h,wR []⟩
 try dsimp only
 refine ae.n ?_
 cases Rd
 refine fs<|sr<|mo (s:=.ptr _ _) rfl ?_
 obtain⟨⟨lO,l14,SF,l16⟩,oc,h⟩:=bS (F h)
 refine RT.Di .none (dM oc) 7 [304,305,306] [310,311,312] rfl ⟨rfl,rfl,rfl,trivial⟩ (by decide) (by decide) rfl ⟨⟨rfl,T⟩,⟨rfl,T⟩,⟨rfl,T⟩,trivial⟩ rfl rfl (.cons rfl (.cons rfl (.cons rfl (.nil)))) T<|ag rfl<|dn<|qq<|qq ?_
 refine aF h (fun Vk=>AS.bJ 96 [(1,.ptr 7 0),(62,.sv (.v (.bool Vk)))] [(7,⟨79,[.sv (.v (.bool wI)),.sv (.v (.int .i64 wJ)),.row 310,.row 311,.row 312]⟩)] [(310,TR 23 1 (eS 4 eQ) l14),(311,TR 3 1 bj SF),(312,TR 23 1 (eS 4 eQ) l16)]) (fun h=>?_) (fun Lw h=>?_)
 refine af<|mv rfl<|lE h fun oZ xE h=>ne _ rfl rfl (F6 (p:=lO) (q:=0) xE)<|mv rfl<|bE h fun Rf EG h=>?_
 cases oZ
 refine RT.move (.some rfl rfl) (s:=.ptr _ _) rfl T<|bE (F EG) fun xA Gp EG=>RT.cW (.some rfl rfl) (pO Gp) 7 [310,311,312] rfl ⟨rfl,rfl,rfl,trivial⟩ (by decide) rfl rfl (.cons rfl (.nil)) T<|RT.fX (l:=[4,6,6]) (e:=bj) (.some rfl rfl) (.one rfl (.one rfl (.one rfl (.nil)))) T rfl rfl rfl rfl rfl rfl<|bE EG fun uC xF EG=>gc (dP xF) ⟨rfl,trivial⟩<|bE EG fun rI h48 EG=>gc (fk h48) ⟨rfl,rfl,trivial⟩<|lE EG fun Iw KS EG=>Ki rfl _ KS ?_
 obtain rfl:=O EG
 refine pF rfl<|mv rfl<|bE h fun aib Bs h=>?_
 cases Iw
 refine RT.move (.some rfl rfl) (s:=.ptr _ _) rfl T<|bE (F Bs) fun Mz NA Bs=>RT.cW (.some rfl rfl) (zg NA) 7 [310,311,312] rfl ⟨rfl,rfl,rfl,trivial⟩ (by decide) rfl rfl (.cons rfl (.nil)) T<|RT.fX (l:=[30,0,(-6)]) (e:=bj) (.some rfl rfl) (.one rfl (.one rfl (.one rfl (.nil)))) T rfl rfl rfl rfl rfl rfl<|bE Bs fun wA IJ Bs=>gc (dP IJ) ⟨rfl,trivial⟩<|bE Bs fun D5 Ep Bs=>gc (fk Ep) ⟨rfl,rfl,trivial⟩<|lE Bs fun SC Xr Bs=>Ki rfl _ Xr ?_
 obtain rfl:=O Bs
 refine pF rfl<|mv rfl<|bE h fun aic NP h=>?_
 cases SC
 refine RT.move (.some rfl rfl) (s:=.ptr _ _) rfl T<|bE (F NP) fun D6 KU NP=>RT.cW (.some rfl rfl) (vp KU) 7 [310,311,312] rfl ⟨rfl,rfl,rfl,trivial⟩ (by decide) rfl rfl (.cons rfl (.nil)) T ?_
 obtain rfl:=O NP
 exact pF rfl<|dn<|⟨D6,h,wR []⟩
 obtain rfl:=O (V NP)
 exact ww<|ww<|pT rfl<|dn<|⟨true,h,wR []⟩
 obtain rfl:=O (V Bs)
 refine ww<|ww<|ww<|ww<|ww<|ww<|pT rfl<|mv rfl<|bE h fun aid ED h=>?_
 obtain rfl:=O (V ED)
 exact ww<|ww<|pT rfl<|dn<|⟨true,h,wR []⟩
 obtain rfl:=O (V EG)
 refine ww<|ww<|ww<|ww<|ww<|ww<|pT rfl<|mv rfl<|bE h fun aie NM h=>?_
 obtain rfl:=O (V NM)
 refine ww<|ww<|ww<|ww<|ww<|ww<|pT rfl<|mv rfl<|bE h fun aif xX h=>?_
 obtain rfl:=O (V xX)
 exact ww<|ww<|pT rfl<|dn<|⟨true,h,wR []⟩
 try dsimp only
 refine ae.n ?_
 cases Lw
 refine fs<|sr<|mo (s:=.ptr _ _) rfl ?_
 obtain⟨⟨VZ,l30,l31,l32⟩,h64,h⟩:=bS (F h)
 refine RT.Di .none (dM h64) 7 [310,311,312] [316,317,318] rfl ⟨rfl,rfl,rfl,trivial⟩ (by decide) (by decide) rfl ⟨⟨rfl,T⟩,⟨rfl,T⟩,⟨rfl,T⟩,trivial⟩ rfl rfl (.cons rfl (.cons rfl (.cons rfl (.nil)))) T<|ag rfl<|dn<|qq ?_
 refine aF h (fun Nv=>AS.bJ 96 [(0,.sv (.v (.bool Nv)))] [] []) (fun h=>?_) (fun V0 h=>?_)
 refine af<|mv rfl<|lE h fun Kj Xs h=>eq _ rfl rfl (ua (p:=VZ) (q:=0) Xs)<|mv rfl<|bE h fun Re Jx h=>?_
 cases Kj
 obtain rfl:=O (F Jx)
 refine ww<|ww<|ww<|ww<|ww<|pF rfl<|mv rfl<|bE h fun aih NN h=>?_
 obtain rfl:=O (F NN)
 refine ww<|ww<|ww<|ww<|ww<|pF rfl<|mv rfl<|bE h fun aii NO h=>?_
 obtain rfl:=O (F NO)
 refine ww<|ww<|ww<|ww<|ww<|pF rfl<|mv rfl<|bE h fun aij Jw h=>?_
 obtain rfl:=O (F Jw)
 refine ww<|ww<|pF rfl<|mv rfl<|bE h fun aik YZ h=>?_
 obtain rfl:=O (F YZ)
 exact ww<|ww<|pF rfl<|ag rfl<|dn<|⟨false,h,wR []⟩
 refine RT.move (.some rfl rfl) (s:=.ptr _ _) rfl T<|bE (V Jx) fun Md Tm Jx=>RT.cW (.some rfl rfl) (pO Tm) 7 [316,317,318] rfl ⟨rfl,rfl,rfl,trivial⟩ (by decide) rfl rfl (.cons rfl (.nil)) T<|RT.fX (l:=[2,6,2]) (e:=bj) (.some rfl rfl) (.one rfl (.one rfl (.one rfl (.nil)))) T rfl rfl rfl rfl rfl rfl<|bE Jx fun Km YO Jx=>gc (dP YO) ⟨rfl,trivial⟩<|bE Jx fun KJ To Jx=>gc (fk To) ⟨rfl,rfl,trivial⟩ ?_
 obtain rfl:=O Jx
 refine pT rfl<|mv rfl<|bE h fun ail Jy h=>?_
 cases KJ
 obtain rfl:=O (F Jy)
 refine ww<|ww<|ww<|ww<|ww<|pF rfl<|mv rfl<|bE h fun aim DF h=>?_
 obtain rfl:=O (F DF)
 refine ww<|ww<|ww<|ww<|ww<|pF rfl<|mv rfl<|bE h fun ain Jv h=>?_
 obtain rfl:=O (F Jv)
 refine ww<|ww<|pF rfl<|mv rfl<|bE h fun aio DH h=>?_
 obtain rfl:=O (F DH)
 exact ww<|ww<|pF rfl<|ag rfl<|dn<|⟨false,h,wR []⟩
 refine RT.move (.some rfl rfl) (s:=.ptr _ _) rfl T<|bE (V Jy) fun x76 h76 Jy=>RT.cW (.some rfl rfl) (oC h76) 7 [316,317,318] rfl ⟨rfl,rfl,rfl,trivial⟩ (by decide) rfl rfl (.cons rfl (.nil)) T<|RT.fX (l:=[2,6]) (e:=bj) (.some rfl rfl) (.one rfl (.one rfl (.nil))) T rfl rfl rfl rfl rfl rfl<|bE Jy fun TX h78 Jy=>gc (dP h78) ⟨rfl,trivial⟩<|bE Jy fun Iy Tp Jy=>gc (fk Tp) ⟨rfl,rfl,trivial⟩ ?_
 obtain rfl:=O Jy
 refine pT rfl<|mv rfl<|bE h fun aip Jz h=>?_
 cases Iy
 obtain rfl:=O (F Jz)
 refine ww<|ww<|ww<|ww<|ww<|pF rfl<|mv rfl<|bE h fun aiq Jt h=>?_
 obtain rfl:=O (F Jt)
 refine ww<|ww<|pF rfl<|mv rfl<|bE h fun air Ju h=>?_
 obtain rfl:=O (F Ju)
 exact ww<|ww<|pF rfl<|ag rfl<|dn<|⟨false,h,wR []⟩
 refine RT.move (.some rfl rfl) (s:=.ptr _ _) rfl T<|bE (V Jz) fun SG h83 Jz=>RT.cW (.some rfl rfl) (zg h83) 7 [316,317,318] rfl ⟨rfl,rfl,rfl,trivial⟩ (by decide) rfl rfl (.cons rfl (.nil)) T<|RT.fX (l:=[36,(-2),(-6)]) (e:=bj) (.some rfl rfl) (.one rfl (.one rfl (.one rfl (.nil)))) T rfl rfl rfl rfl rfl rfl<|bE Jz fun x85 h85 Jz=>gc (dP h85) ⟨rfl,trivial⟩<|bE Jz fun Pq XF Jz=>gc (fk XF) ⟨rfl,rfl,trivial⟩ ?_
 obtain rfl:=O Jz
 refine pT rfl<|mv rfl<|bE h fun ait TY h=>?_
 cases Pq
 obtain rfl:=O (F TY)
 refine ww<|ww<|pF rfl<|mv rfl<|bE h fun aiu aiv h=>?_
 obtain rfl:=O (F aiv)
 exact ww<|ww<|pF rfl<|ag rfl<|dn<|⟨false,h,wR []⟩
 refine RT.move (.some rfl rfl) (s:=.ptr _ _) rfl T<|bE (V TY) fun SE XH TY=>RT.cW (.some rfl rfl) (vp XH) 7 [316,317,318] rfl ⟨rfl,rfl,rfl,trivial⟩ (by decide) rfl rfl (.cons rfl (.nil)) T ?_
 obtain rfl:=O TY
 refine pT rfl<|mv rfl<|bE h fun aiw TZ h=>?_
 cases SE
 obtain rfl:=O (F TZ)
 exact ww<|ww<|pF rfl<|ag rfl<|dn<|⟨false,h,wR []⟩
 refine RT.move (.some rfl rfl) (s:=.ptr _ _) rfl T<|bE (V TZ) fun NT h94 TZ=>RT.cW (.some rfl rfl) (Br h94) 7 [316,317,318] rfl ⟨rfl,rfl,rfl,trivial⟩ (by decide) rfl rfl (.cons rfl (.nil)) T ?_
 obtain rfl:=O TZ
 exact pT rfl<|ag rfl<|dn<|⟨NT,h,wR []⟩
 try dsimp only
 refine ae.n<|aj ?_
 obtain rfl:=O h
 exact R1 rfl
 refine cT<|sr<|ag rfl<|dn<|aj<|ae.r ?_
 obtain rfl:=O (V h)
 exact R1 rfl
 refine cT<|sr<|ag rfl<|dn<|aj<|ae.r ?_
 obtain rfl:=O (V h)
 exact R1 rfl
end Go.Proofs.YtningmnklfpfjaaGreat
namespace Go.Proofs.YtningmnklfpfjaaGreat
open Go.Fw
noncomputable def pP(x0:Lr):Option (Unit):=match x0 with|⟨aC,aD,aM,aN⟩=>(iu ⟨aC,aD,aM,aN⟩).bind fun x5=>(some (!x5)).bind fun x6=>(bif x6 then some ()else(dw ⟨aC,aD,aM,aN⟩).bind fun⟨wE,wF,Bf,Bg,TM⟩=>none)
noncomputable def kP(x0:Lr):Option (Bool):=match x0 with|⟨aC,aD,aM,aN⟩=>b9 (fun(V1:Bool)=>some V1) fun Oj=>(mF ⟨aC,aD,aM,aN⟩).bind fun x4=>(bif x4 then some true else(some (aM.length:Int)).bind fun x8=>(some (decide ((5:Int)<x8))).bind fun x9=>(bif x9 then(lP ⟨aC,aD,aM,aN⟩).bind fun dW=>some dW else some false).bind fun Rh=>some Rh).bind fun zQ=>(bif zQ then some true else(some (decide ((6:Int)<aC))).bind fun fF=>(bif fF then(lP ⟨aC,aD,aM,aN⟩).bind fun ik=>some ik else some false).bind fun Y9=>some Y9).bind fun He=>Oj He
end Go.Proofs.YtningmnklfpfjaaGreat
namespace Go.Proofs.YtningmnklfpfjaaGreat
open Go.Fw Go.Fw.Z Go.RowKit
theorem JA{x0:Lr}{r:Unit}(h:pP x0=some r):Pure Tryz.prog 12 [.agg (Kh x0)] (.wm [.v (.pointer none),.v (.int .i64 1)]):=by
 obtain⟨aC,aD,aM,aN⟩:=x0
 refine ay Tryz.func12 rfl (Nat.le_of_ble_eq_true rfl) (fun cO M vs hvs=>?_)
 unfold pP at h
 refine sr<|bx rfl<|ag rfl<|ag rfl<|dn<|qq<|sr<|ld rfl rfl (.cons rfl (.cons rfl (.cons rfl (.cons rfl (.nil)))))<|bE h fun x5 h5 h=>cl (qD h5) ⟨rfl,trivial⟩<|lE h fun x6 h6 h=>nt rfl _ h6<|dn ?_
 cases x6
 refine fs<|sr<|ld rfl rfl (.cons rfl (.cons rfl (.cons rfl (.cons rfl (.nil))))) ?_
 obtain⟨⟨wE,wF,Bf,Bg,TM⟩,h8,h⟩:=bS (F h)
 refine RT.Lf .none (jP h8) [304,305,306] (by decide) rfl ⟨⟨rfl,T⟩,⟨rfl,T⟩,⟨rfl,T⟩,trivial⟩ rfl ⟨rfl,trivial⟩ T rfl rfl<|an (s:=.ptr _ _) rfl<|ag rfl<|dn<|aj ?_
 cases h
 refine cT<|sr<|ag rfl<|ag rfl<|dn<|aj<|ae.r ?_
 obtain rfl:=O (V h)
 exact R2 rfl rfl
theorem w5{x0:Lr}{r:Bool}(h:kP x0=some r):Pure Tryz.prog 9 [.agg (Kh x0)] (.v (.bool r)):=by
 obtain⟨aC,aD,aM,aN⟩:=x0
 refine ay Tryz.func9 rfl (Nat.le_of_ble_eq_true rfl) (fun cO M vs hvs=>?_)
 unfold kP at h
 refine sr<|bx rfl<|ag rfl<|dn<|qq ?_
 refine aF h (fun Nz=>AS.bJ 24 [(2,.sv (.v (.bool Nz)))] [] []) (fun h=>?_) (fun V1 h=>?_)
 refine af<|ld rfl rfl (.cons rfl (.cons rfl (.cons rfl (.cons rfl (.nil)))))<|bE h fun x4 h4 h=>cl (EC h4) ⟨rfl,trivial⟩<|mv rfl<|bE h fun zQ dZ h=>?_
 cases x4
 refine RT.fieldAddr (.some rfl rfl) rfl T rfl<|RT.sy (.some rfl rfl) rfl rfl rfl T<|lE (F dZ) fun x8 h8 dZ=>gn rfl h8<|lE dZ fun x9 h9 dZ=>gg _ rfl rfl h9<|gm rfl<|bE dZ fun Rh DI dZ=>?_
 cases x9
 obtain rfl:=O (F DI)
 refine ww<|ww<|gF rfl ?_
 obtain rfl:=O dZ
 refine pF rfl<|mv rfl<|bE h fun aix oA h=>RT.fieldAddr (.some rfl rfl) rfl T rfl<|RT.sy (.some rfl rfl) rfl rfl rfl T<|lE (F oA) fun fF iM oA=>gg _ rfl rfl iM<|gm rfl<|bE oA fun aiy GO oA=>?_
 cases fF
 obtain rfl:=O (F GO)
 refine ww<|ww<|gF rfl ?_
 obtain rfl:=O oA
 exact pF rfl<|ag rfl<|dn<|⟨false,h,wR []⟩
 refine gl rfl rfl (.cons rfl (.cons rfl (.cons rfl (.cons rfl (.nil)))))<|bE (V GO) fun ik ni GO=>gc (tg ni) ⟨rfl,trivial⟩ ?_
 obtain rfl:=O GO
 refine gT rfl ?_
 obtain rfl:=O oA
 exact pF rfl<|ag rfl<|dn<|⟨ik,h,wR []⟩
 refine gl rfl rfl (.cons rfl (.cons rfl (.cons rfl (.cons rfl (.nil)))))<|bE (V DI) fun dW fj DI=>gc (tg fj) ⟨rfl,trivial⟩ ?_
 obtain rfl:=O DI
 refine gT rfl ?_
 obtain rfl:=O dZ
 refine pF rfl<|mv rfl<|bE h fun aiz Hf h=>?_
 cases dW
 refine RT.fieldAddr (.some rfl rfl) rfl T rfl<|RT.sy (.some rfl rfl) rfl rfl rfl T<|lE (F Hf) fun fF iM Hf=>gg _ rfl rfl iM<|gm rfl<|bE Hf fun aiA kU Hf=>?_
 cases fF
 obtain rfl:=O (F kU)
 refine ww<|ww<|gF rfl ?_
 obtain rfl:=O Hf
 exact pF rfl<|ag rfl<|dn<|⟨false,h,wR []⟩
 refine gl rfl rfl (.cons rfl (.cons rfl (.cons rfl (.cons rfl (.nil)))))<|bE (V kU) fun ik ni kU=>gc (tg ni) ⟨rfl,trivial⟩ ?_
 obtain rfl:=O kU
 refine gT rfl ?_
 obtain rfl:=O Hf
 exact pF rfl<|ag rfl<|dn<|⟨ik,h,wR []⟩
 obtain rfl:=O (V Hf)
 exact ww<|ww<|ww<|ww<|wu<|wu<|ww<|pT rfl<|ag rfl<|dn<|⟨true,h,wR []⟩
 obtain rfl:=O (V dZ)
 refine ww<|ww<|ww<|ww<|ww<|wu<|wu<|ww<|pT rfl<|mv rfl<|bE h fun Yw vc h=>?_
 obtain rfl:=O (V vc)
 exact ww<|ww<|ww<|ww<|wu<|wu<|ww<|pT rfl<|ag rfl<|dn<|⟨true,h,wR []⟩
 try dsimp only
 refine ae.n<|aj ?_
 obtain rfl:=O h
 exact R1 rfl
end Go.Proofs.YtningmnklfpfjaaGreat
namespace Go.Fw
open Go.RowKit
theorem JB{M:Mem}{α:Type}{e:α→List SV}[el:EL e 1]:∀(l:List α) (vs:List Value) (m:Nat),SV.dH M (l.flatMap e) vs→SV.dH M ((l.take m).flatMap e) (vs.take m)
 |l,vs,0,h=>by
  rw[List.take_zero,List.take_zero];exact trivial
 |[],vs,m+1,h=>by
  cases vs with
  |nil=>trivial
  |cons _ _=>exact h.elim
 |x::l,vs,m+1,h=>by
  have hl:=el.len x
  match he:e x,hl with
  |[s],_=>
   rw[List.flatMap_cons,he]at h
   match vs,h with
   |v::vs,h=>
    rw[List.take_succ_cons,List.take_succ_cons,List.flatMap_cons,he]
    exact⟨h.1,JB l vs m h.2⟩
theorem MA{M:Mem}{α:Type}{e:α→List SV}(ho:∀x,∃v,e x=[.v v]∧v.oneCell'=true):∀{l:List α} {vs:List Value},SV.dH M (l.flatMap e) vs→∀v∈vs,v.oneCell'=true
 |[],vs,h,v,hv=>by
  cases vs with
  |nil=>simp at hv
  |cons _ _=>exact h.elim
 |x::l,vs,h,v,hv=>by
  obtain⟨u,he,h1⟩:=ho x
  rw[List.flatMap_cons,he]at h
  match vs,h with
  |y::vs,h=>
   rcases List.mem_cons.1 hv with q|q
   ·have e1:y=u:=h.1
    rw[q,e1];exact h1
   ·exact MA ho h.2 v q
section steps
variable {P:Program}{C:Ctx}{ops:Array Oper}{S:AS}{nd:Bool}{K:List Ac→AS→Prop}{rest:List Oper}{acc:List Ac}{Q:Exit→AS→Prop}
variable {gd:Option (Nat×Bool)}{rg:List Nat}{d:Nat}{ty:TypeId}{pos:String}{aft:Array Edge}{x y z:Operand}{T U E0:TypeId}
theorem RT.Za(hg:Gd ops S gd rg)[tS:eK P T E0 1]{α:Type}{e:α→List SV}[el:EL e 1]{i j0:Nat}{E1 E2:TypeId}{l k:List α}{m:Int}(Mi:∀x,∃v,e x=[.v v]∧v.oneCell'=true)(hji:j0≠i)(hx:S.ev x=.row i)(hR:S.r i=.live (TR E1 1 e l))(hy:S.ev y=.row j0)(hR2:S.r j0=.live (TR E2 1 e k))(hd:d<S.n)(hm:((Min.min k.length l.length:Nat):Int)=m)
  (next:RunT P C ops nd K rest (⟨rg++(aq x++aq y),[],[i,j0],⟨some (d,.sv (.v (.int .i64 m))),[],[(i,.live (TR E1 1 e (vN l k)))]⟩⟩::acc) ((AS.bC [(i,.live (TR E1 1 e (vN l k)))] S).set d (.sv (.v (.int .i64 m))))):RunT P C ops nd K (⟨some d,.call ⟨.builtin .copy,#[x,y],#[T,U]⟩,ty,pos,aft,gd⟩::rest) acc S:=by
 subst hm
 refine .inl ⟨_,[],[i,j0],_,?_,next⟩
 rintro S' hn' ht _ LX ix a w L Q ho ⟨E,h⟩ hL
 refine bW (C:=C) ho (hg.wanted h (fun s hs=>ht s (List.mem_append_left _ hs)) rfl) ?_
 have mY:S'.r i=.live (TR E1 1 e l):=by rw[LX i (by simp)];exact hR
 have h1:a.eval x=E.ν i:=by
  have h1:=h.ev x
  rw[aJ (fun _ h=>List.mem_append_right _ (List.mem_append_left _ h)) ht,hx]at h1;exact h1
 have acS:S'.r j0=.live (TR E2 1 e k):=by rw[LX j0 (by simp)];exact hR2
 have h2:a.eval y=E.ν j0:=by
  have h2:=h.ev y
  rw[aJ (fun _ h=>List.mem_append_right _ (List.mem_append_right _ h)) ht,hy]at h2;exact h2
 obtain⟨⟨OL,Fp,ami⟩,_⟩:=h.rx j0 _ acS
 have hsrc:∃sa sc,a.eval y=.slice sa k.length sc:=by
  rw[h2]
  rcases Fp.2 with⟨q1,q2⟩|⟨g,cap,cur,q1,_⟩
  ·have q2:k.length=0:=q2
   exact⟨none,0,by rw[q2];exact q1⟩
  ·exact⟨_,cap,q1⟩
 obtain⟨⟨us,hown,AY⟩,_⟩:=h.rx i _ mY
 have YC:∃da dc,E.ν i=.slice da l.length dc:=by
  rcases hown.2 with⟨q1,q2⟩|⟨g,cap,cur,q1,_⟩
  ·have q2:l.length=0:=q2
   exact⟨none,0,by rw[q2];exact q1⟩
  ·exact⟨_,cap,q1⟩
 obtain⟨sa,sc,hs⟩:=hsrc
 by_cases h0:Nat.min k.length l.length=0
 ·obtain⟨da,dc,hdv⟩:=YC
  have hc:vN l k=l:=by
   rcases Nat.eq_zero_or_pos l.length with q|q
   ·have:=List.length_eq_zero_iff.1 q
    subst this;simp[vN]
   ·have:k.length=0:=by
     have h0:Min.min k.length l.length=0:=h0
     omega
    have:=List.length_eq_zero_iff.1 this
    subst this;simp[vN]
  have hr:(execOp a.eval ⟨some d,.call ⟨.builtin .copy,#[x,y],#[T,U]⟩,ty,pos,aft,gd⟩).run P w=.ok (.value (goInt 0)) w:=by
   have:=run_copy_none (P:=P) w T U ty E0 da sa l.length dc k.length sc tS.u tS.s h0
   simp[execOp,resolve,invoke,builtin,h1,hs,hdv,this]
  refine bR (C:=C) (by intro c h;cases h) hr (hL _ _ ⟨E,?_⟩)
  rw[hc]
  have e0:((Min.min k.length l.length:Nat):Int)=0:=by
   have h0:Min.min k.length l.length=0:=h0
   rw[h0];rfl
  rw[e0]
  have:AS.app S' ⟨some (d,.sv (.v (.int .i64 0))),[],[(i,.live (TR E1 1 e l))]⟩=S'.set d (.sv (.v (.int .i64 0))):=by
   show(AS.oV S' i _).set d _=_
   rw[AS.zK mY]
  rw[this]
  exact h.put (x:=.sv (.v (.int .i64 0))) (v:=.int .i64 0) rfl (by show d<S'.n;omega) eY
 ·have hpos:0<Min.min k.length l.length:=Nat.pos_of_ne_zero h0
  obtain⟨g,xn⟩:∃g,(E.ν i).ownBlock=some g:=by
   rcases hown.2 with⟨_,q2⟩|⟨g,cap,cur,q1,_⟩
   ·have q2:l.length=0:=q2
    omega
   ·exact⟨g,by rw[q1];rfl⟩
  obtain⟨cur,vs,q1,q2,q3,q4,cap,q5,q6,q7,q8⟩:=uo h mY xn
  replace q2:cur.take (l.length*1)=vs:=q2
  replace q3:vs.length=l.length*1:=q3
  replace q6:l.length≤cap:=q6
  replace q8:cur.length=cap*1:=q8
  obtain⟨g2,Oq⟩:∃g,(E.ν j0).ownBlock=some g:=by
   rcases Fp.2 with⟨_,q2⟩|⟨g,cap,cur,q1,_⟩
   ·have q2:k.length=0:=q2
    omega
   ·exact⟨g,by rw[q1];rfl⟩
  obtain⟨aiB,vs2,p1,p2,p3,p4,aiC,p5,p6,p7,p8⟩:=uo h acS Oq
  replace p2:aiB.take (k.length*1)=vs2:=p2
  replace p3:vs2.length=k.length*1:=p3
  replace p4:SV.dH E.M (k.flatMap e) vs2:=p4
  rw[h2,show E.ν j0=.slice (some ⟨g2,0,none⟩) k.length aiC from p5]at hs
  cases hs
  obtain⟨cs,hcs⟩:∃cs,cs=vs2.take (Min.min k.length l.length):=⟨_,rfl⟩
  have c1:cs.length=(k.take (Min.min k.length l.length)).length:=by rw[hcs,List.length_take,List.length_take,p3];omega
  have c2:SV.dH E.M ((k.take (Min.min k.length l.length)).flatMap e) cs:=by rw[hcs];exact JB k vs2 _ p4
  have c4:=MA Mi c2
  have c3:∀j v,cs[j]? =some v→w.cell? ⟨g2,j,none⟩=some v:=fun j v hj=>by
   rw[hcs,List.getElem?_take]at hj
   split at hj
   ·rw[←p2,List.getElem?_take]at hj
    split at hj
    ·simpa[World.cell?,p1]using hj
    ·cases hj
   ·cases hj
  have sq:cs.length=Nat.min k.length l.length:=by rw[c1,List.length_take];show Min.min (Min.min k.length l.length) k.length=Min.min k.length l.length;omega
  have Ll:cs.length=Min.min k.length l.length:=sq
  have hrun:=run_copy_row (P:=P) w T U ty E0 g 0 l.length cap ⟨g2,0,none⟩ k.length sc ⟨cur⟩ E1 cs tS.u tS.s q1 sq (fun j v hj=>by
   rw[fO,Nat.zero_add];exact c3 j v hj) (by simp;omega) c4
  have hr:(execOp a.eval ⟨some d,.call ⟨.builtin .copy,#[x,y],#[T,U]⟩,ty,pos,aft,gd⟩).run P w=.ok (.value (goInt cs.length)) (w.setRow g (cs++cur.drop cs.length).toArray):=by
   have hrun:(Builtin.copy_ #[T,U] ty #[.slice (some ⟨g,0,none⟩) l.length cap,.slice (some ⟨g2,0,none⟩) k.length sc]).run P w=.ok (goInt cs.length) (w.setRow g (cs++cur.drop cs.length).toArray):=by simpa using hrun
   have q5:E.ν i=.slice (some ⟨g,0,none⟩) l.length cap:=q5
   have p5:E.ν j0=.slice (some ⟨g2,0,none⟩) k.length sc:=p5
   simp[execOp,resolve,invoke,builtin,h1,h2,p5,q5,hrun]
  have YD:vN l k=k.take (Min.min k.length l.length)++l.drop (Min.min k.length l.length):=by
   unfold vN
   have e1:k.take l.length=k.take (Min.min k.length l.length):=by rw[List.take_eq_take_iff];omega
   have e2:l.drop k.length=l.drop (Min.min k.length l.length):=by rw[List.drop_eq_drop_iff];omega
   rw[e1,e2]
  have hall:SV.dH E.M ((vN l k).flatMap e) (cs++vs.drop cs.length):=by
   rw[YD,List.flatMap_append,←Ll]
   rw[←Ll]at c2
   exact SV.dH.append c2 (Dp l vs cs.length q4)
  have hh:=setRow_heap w g ⟨cur⟩ (cs++cur.drop cs.length).toArray E1 (0,0) q1
  have Fp:(w.setRow g (cs++cur.drop cs.length).toArray).ownsRow 0 E1 1 (E.ν i) l.length (cs++vs.drop cs.length):=by
   refine⟨by simp;omega,.inr ⟨g,cap,_,q5,Nat.zero_le _,hh,q6,q7,by simp;omega,?_⟩⟩
   rw[←q2]
   simp only[List.take_append,List.length_take,List.drop_take]
   congr 1
   ·rw[List.take_of_length_le (by omega)]
  have hp:=h.F1 mY xn (w':=w.setRow g (cs++cur.drop cs.length).toArray) ⟨_,_,q1⟩ rfl rfl rfl (by simp[World.setRow]) (fun k' hk'=>setRow_other w g k' _ hk') Fp hall
  refine bR (C:=C) (by intro c h;cases h) hr (hL _ _ ⟨E,?_⟩)
  have hrow:(⟨(TR E1 1 e l).E,(TR E1 1 e l).sz,(TR E1 1 e l).n,(vN l k).flatMap e⟩:Row)=TR E1 1 e (vN l k):=by
   show Row.mk _ _ l.length _=Row.mk _ _ (vN l k).length _
   rw[Mq]
  rw[hrow]at hp
  rw[←Ll]
  exact hp.put (x:=.sv (.v (.int .i64 cs.length))) (v:=.int .i64 cs.length) rfl (by show d<S'.n;omega) eY
end steps
end Go.Fw
