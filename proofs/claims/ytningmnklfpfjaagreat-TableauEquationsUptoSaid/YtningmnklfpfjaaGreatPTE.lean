/- The law TableauEquations answers true for every input, up to the size that the statement names. -/
import Derived.Test.YtningmnklfpfjaaGreatPTE4
set_option linter.unusedVariables false
set_option linter.unusedSimpArgs false
namespace Go.Proofs.YtningmnklfpfjaaGreat
open Go.Fw Go.Fw.Z Go.RowKit
theorem HV{x0:Lr}{r:Unit}(h:o7 x0=some r):Pure Tryz.prog 12 [.agg (Gm x0)] (.vW [.v (.pointer none),.v (.int .i64 1)]):=by
 obtain⟨aB,aC,aJ,aL⟩:=x0
 refine ay Tryz.func12 rfl (Nat.le_of_ble_eq_true rfl) (fun cG M vs hvs=>?_)
 unfold o7 at h
 refine sr<|bx rfl<|ag rfl<|ag rfl<|dn<|qq<|sr<|ld rfl rfl (.cons rfl (.cons rfl (.cons rfl (.cons rfl (.nil)))))<|bE h fun x5 h5 h=>cl (uE h5) ⟨rfl,trivial⟩<|lE h fun x6 h6 h=>nt rfl _ h6<|dn ?_
 cases x6
 refine fs<|sr<|ld rfl rfl (.cons rfl (.cons rfl (.cons rfl (.cons rfl (.nil))))) ?_
 obtain⟨⟨vN,vO,Au,Av,Ri⟩,h8,h⟩:=bS (F h)
 refine RT.On .none (mG h8) [304,305,306] (by decide) rfl ⟨⟨rfl,T⟩,⟨rfl,T⟩,⟨rfl,T⟩,trivial⟩ rfl ⟨rfl,trivial⟩ T rfl rfl<|an (s:=.ptr _ _) rfl<|ag rfl<|dn<|aj ?_
 cases h
 refine cT<|sr<|ag rfl<|ag rfl<|dn<|aj<|ae.r ?_
 obtain rfl:=O (V h)
 exact R2 rfl rfl
theorem wE{x0:Lr}{r:Bool}(h:kj x0=some r):Pure Tryz.prog 9 [.agg (Gm x0)] (.v (.bool r)):=by
 obtain⟨aB,aC,aJ,aL⟩:=x0
 refine ay Tryz.func9 rfl (Nat.le_of_ble_eq_true rfl) (fun cG M vs hvs=>?_)
 unfold kj at h
 refine sr<|bx rfl<|ag rfl<|dn<|qq ?_
 refine aF h (fun Lh=>AS.bG 24 [(2,.sv (.v (.bool Lh)))] [] []) (fun h=>?_) (fun TC h=>?_)
 refine af<|ld rfl rfl (.cons rfl (.cons rfl (.cons rfl (.cons rfl (.nil)))))<|bE h fun x4 h4 h=>cl (DR h4) ⟨rfl,trivial⟩<|mv rfl<|bE h fun yU eC h=>?_
 cases x4
 refine RT.fieldAddr (.some rfl rfl) rfl T rfl<|RT.tH (.some rfl rfl) rfl rfl rfl T<|lE (F eC) fun x8 h8 eC=>gn rfl h8<|lE eC fun x9 h9 eC=>gg _ rfl rfl h9<|gm rfl<|bE eC fun O8 Rw eC=>?_
 cases x9
 obtain rfl:=O (F Rw)
 refine ww<|ww<|gF rfl ?_
 obtain rfl:=O eC
 refine pF rfl<|mv rfl<|bE h fun afD kF h=>RT.fieldAddr (.some rfl rfl) rfl T rfl<|RT.tH (.some rfl rfl) rfl rfl rfl T<|lE (F kF) fun ek gV kF=>gg _ rfl rfl gV<|gm rfl<|bE kF fun afE vP kF=>?_
 cases ek
 obtain rfl:=O (F vP)
 refine ww<|ww<|gF rfl ?_
 obtain rfl:=O kF
 exact pF rfl<|ag rfl<|dn<|⟨false,h,wR []⟩
 refine gl rfl rfl (.cons rfl (.cons rfl (.cons rfl (.cons rfl (.nil)))))<|bE (V vP) fun iv nS vP=>gc (sE nS) ⟨rfl,trivial⟩ ?_
 obtain rfl:=O vP
 refine gT rfl ?_
 obtain rfl:=O kF
 exact pF rfl<|ag rfl<|dn<|⟨iv,h,wR []⟩
 refine gl rfl rfl (.cons rfl (.cons rfl (.cons rfl (.cons rfl (.nil)))))<|bE (V Rw) fun dB eI Rw=>gc (sE eI) ⟨rfl,trivial⟩ ?_
 obtain rfl:=O Rw
 refine gT rfl ?_
 obtain rfl:=O eC
 refine pF rfl<|mv rfl<|bE h fun afF Js h=>?_
 cases dB
 refine RT.fieldAddr (.some rfl rfl) rfl T rfl<|RT.tH (.some rfl rfl) rfl rfl rfl T<|lE (F Js) fun ek gV Js=>gg _ rfl rfl gV<|gm rfl<|bE Js fun afG ju Js=>?_
 cases ek
 obtain rfl:=O (F ju)
 refine ww<|ww<|gF rfl ?_
 obtain rfl:=O Js
 exact pF rfl<|ag rfl<|dn<|⟨false,h,wR []⟩
 refine gl rfl rfl (.cons rfl (.cons rfl (.cons rfl (.cons rfl (.nil)))))<|bE (V ju) fun iv nS ju=>gc (sE nS) ⟨rfl,trivial⟩ ?_
 obtain rfl:=O ju
 refine gT rfl ?_
 obtain rfl:=O Js
 exact pF rfl<|ag rfl<|dn<|⟨iv,h,wR []⟩
 obtain rfl:=O (V Js)
 exact ww<|ww<|ww<|ww<|wu<|wu<|ww<|pT rfl<|ag rfl<|dn<|⟨true,h,wR []⟩
 obtain rfl:=O (V eC)
 refine ww<|ww<|ww<|ww<|ww<|wu<|wu<|ww<|pT rfl<|mv rfl<|bE h fun Wq uF h=>?_
 obtain rfl:=O (V uF)
 exact ww<|ww<|ww<|ww<|wu<|wu<|ww<|pT rfl<|ag rfl<|dn<|⟨true,h,wR []⟩
 try dsimp only
 refine ae.n<|aj ?_
 obtain rfl:=O h
 exact R1 rfl
end Go.Proofs.YtningmnklfpfjaaGreat
namespace Go.Proofs.YtningmnklfpfjaaGreat
open Go.Fw
noncomputable def eG(x0:Lr)(x1:List Pv)(x2:List Qr):Option (Bool):=match x0 with|⟨aB,aC,aJ,aL⟩=>cm (fun(CZ:Bool)=>(bif CZ then(dW).bind fun fR=>some fR else(gX ⟨aB,aC,aJ,aL⟩).bind fun⟨sP,qK,O9,Pa,Pb⟩=>cm (fun(Pc:Bool)=>(bif Pc then cm (fun(TD:Bool)=>some TD) fun K18=>(bif false then none else some false).bind fun Pd=>(bif Pd then(dW).bind fun vJ=>some vJ else some false).bind fun W0=>K18 W0 else(bU (fun(Qj:Int×(List (List Qr))×(List Int)×(List (List Qr)))=>match Qj with|⟨wF,sF,sG,sH⟩=>(show Option ((Int×(List (List Qr))×(List Int)×(List (List Qr)))⊕((List (List Qr))×(List Int)×(List (List Qr))))from(some (x1.length:Int)).bind fun sO=>(some (decide ((wF:Int)<sO))).bind fun MT=>(bif MT then(cy x1 wF).bind fun⟨TE,aaq⟩=>(cy x1 wF).bind fun⟨aar,TF⟩=>(aM sP qK sF sG sH TE TF).bind fun⟨UD,l37,IA,l39⟩=>(some (IntKind.i64.wrap (wF+1))).bind fun BF=>some (.inl (BF,l37,IA,l39))else some (.inr (sF,sG,sH))))) (0,O9,Pa,Pb)).bind fun e33=>match e33 with|⟨yp,yq,yt⟩=>(fJ x2 aB).bind fun Gn=>(m9 Gn aB).bind fun Tn=>(oY ⟨aB,aC,aJ,aL⟩ Gn).bind fun UF=>(xy 64 Tn UF).bind fun x75=>(mW (⟨sP,qK,yp,yq,yt⟩:Tb)).bind fun x77=>(j0 x77 x75).bind fun Lf=>(fo (⟨sP,qK,yp,yq,yt⟩:Tb)).bind fun x81=>(cU Lf x81).bind fun x82=>(some (!x82)).bind fun Yj=>(bif Yj then some false else(lS ⟨aB,aC,aJ,aL⟩ Gn).bind fun Qf=>(cA (-1)).bind fun⟨⟨TG,TH⟩,⟨TI,TJ⟩⟩=>(k8 ⟨⟨TG,TH⟩,⟨TI,TJ⟩⟩ Gn).bind fun QS=>(xy 64 Qf QS).bind fun Qg=>cm (fun(TK:Bool)=>some TK) fun K42=>(iB (⟨sP,qK,yp,yq,yt⟩:Tb)).bind fun SE=>(eK (⟨sP,qK,yp,yq,yt⟩:Tb)).bind fun x96=>(j1 x75 x96).bind fun X2=>(k7 SE X2).bind fun WA=>(cU Qg WA).bind fun x99=>(bif x99 then(dW).bind fun W2=>some W2 else some false).bind fun Km=>K42 Km))) fun K9=>(bif false then none else some false).bind fun Pe=>K9 Pe)) fun K6=>(kj ⟨aB,aC,aJ,aL⟩).bind fun fB=>(bif fB then some true else(some (x1.length:Int)).bind fun gu=>(some (decide ((12:Int)<gu))).bind fun eT=>some eT).bind fun Pf=>(bif Pf then some true else(gN [x2]).bind fun iP=>some iP).bind fun W4=>K6 W4
noncomputable def eH(x0:Lr)(x1:List Pv)(x2:List Qr):Option (Bool):=match x0 with|⟨aB,aC,aJ,aL⟩=>cm (fun(CZ:Bool)=>(bif CZ then(dW).bind fun fR=>some fR else(o7 ⟨aB,aC,aJ,aL⟩).bind fun _=>cm (fun(TL:Bool)=>some TL) fun WC=>(iL ⟨aB,aC,aJ,aL⟩).bind fun lu=>(some (!lu)).bind fun rP=>(bif rP then(dW).bind fun vJ=>some vJ else some false).bind fun Pg=>WC Pg)) fun K6=>(kj ⟨aB,aC,aJ,aL⟩).bind fun fB=>(bif fB then some true else(some (x1.length:Int)).bind fun gu=>(some (decide ((12:Int)<gu))).bind fun eT=>some eT).bind fun Ph=>(bif Ph then some true else(gN [x2]).bind fun iP=>some iP).bind fun Ox=>K6 Ox
noncomputable def eP(x0:Lr)(x1:List Pv)(x2:List Qr):Option (Bool):=if iL x0=some true then eG x0 x1 x2 else eH x0 x1 x2
end Go.Proofs.YtningmnklfpfjaaGreat
namespace Go.Proofs.YtningmnklfpfjaaGreat
open Go.Fw Go.Fw.Z Go.RowKit
set_option maxHeartbeats 4000000 in
theorem o8{x0:Lr}{x1:List Pv}{x2:List Qr}{r:Bool}(h:eG x0 x1 x2=some r):Pure Tryz.prog 8 [.agg (Gm x0),slc 2 (List.map Qa x1),slc 4 (List.map eQ x2)] (.v (.bool r)):=by
 obtain⟨aB,aC,aJ,aL⟩:=x0
 refine ay Tryz.func8 rfl (Nat.le_of_ble_eq_true rfl) (fun cG M vs hvs=>?_)
 unfold eG at h
 refine sr<|bx rfl<|ag rfl<|dn<|qq<|qq ?_
 refine aF h (fun j6=>AS.bG 103 [(1,.sv (slc 2 (List.map Qa x1))),(2,.sv (slc 4 (List.map eQ x2))),(3,.ptr 3 0),(23,.sv (.v (.bool j6)))] [(3,⟨25,[.sv (.v (.int .i64 aB)),.sv (slc 1 (List.map (eS 4 eQ) aC)),.sv (slc 1 (List.map (eS 4 eQ) aJ)),.sv (slc 4 (List.map eQ aL))]⟩)] []) (fun h=>?_) (fun CZ h=>?_)
 refine af<|ld rfl rfl (.cons rfl (.cons rfl (.cons rfl (.cons rfl (.nil)))))<|bE h fun fB fT h=>cl (wE fT) ⟨rfl,trivial⟩<|mv rfl<|bE h fun Pf LJ h=>?_
 cases fB
 refine gm rfl<|lE (F LJ) fun gu iQ LJ=>gn rfl iQ<|lE LJ fun eT jD LJ=>gg _ rfl rfl jD ?_
 obtain rfl:=O LJ
 refine pF rfl<|mv rfl<|bE h fun afK Rx h=>?_
 cases eT
 refine gm rfl<|RT.eO (l:=[x2]) (e:=(eS 4 eQ)) (.some rfl rfl) (.one rfl (.nil)) T rfl rfl rfl rfl rfl rfl<|bE (F Rx) fun iP mD Rx=>gc (gZ mD) ⟨rfl,trivial⟩ ?_
 obtain rfl:=O Rx
 exact pF rfl<|dn<|⟨iP,h,wR []⟩
 obtain rfl:=O (V Rx)
 exact ww<|ww<|ww<|pT rfl<|dn<|⟨true,h,wR []⟩
 obtain rfl:=O (V LJ)
 refine ww<|ww<|ww<|pT rfl<|mv rfl<|bE h fun afL afM h=>?_
 obtain rfl:=O (V afM)
 exact ww<|ww<|ww<|pT rfl<|dn<|⟨true,h,wR []⟩
 try dsimp only
 refine ae.n ?_
 cases CZ
 refine fs<|sr<|ld rfl rfl (.cons rfl (.cons rfl (.cons rfl (.cons rfl (.nil))))) ?_
 obtain⟨⟨sP,qK,O9,Pa,Pb⟩,m7,h⟩:=bS (F h)
 refine RT.J5 .none (uQ m7) [304,305,306] (by decide) rfl ⟨⟨rfl,T⟩,⟨rfl,T⟩,⟨rfl,T⟩,trivial⟩ rfl ⟨rfl,trivial⟩ T rfl rfl<|mo (s:=.cmp _ _) rfl<|RT.yd .none rfl rfl T<|RT.yd .none rfl rfl T<|an (s:=.ptr _ _) rfl<|ag rfl<|dn<|qq<|qq ?_
 refine aF h (fun j9=>AS.bG 103 [(1,.sv (slc 2 (List.map Qa x1))),(2,.sv (slc 4 (List.map eQ x2))),(3,.ptr 3 0),(7,.ptr 27 0),(8,.sv (.v (.int .i64 0))),(35,.sv (.v (.bool j9)))] [(27,⟨79,[.sv (.v (.bool sP)),.sv (.v (.int .i64 qK)),.row 304,.row 305,.row 306]⟩),(3,⟨25,[.sv (.v (.int .i64 aB)),.sv (slc 1 (List.map (eS 4 eQ) aC)),.sv (slc 1 (List.map (eS 4 eQ) aJ)),.sv (slc 4 (List.map eQ aL))]⟩)] [(304,TR 23 1 (eS 4 eQ) O9),(305,TR 3 1 bT Pa),(306,TR 23 1 (eS 4 eQ) Pb)]) (fun h=>?_) (fun Pc h=>?_)
 refine af<|mv rfl<|ne false rfl rfl (by decide)<|mv rfl<|bE h fun Pe afN h=>RT.move (.some rfl rfl) (s:=.ptr _ _) rfl T<|RT.Om (.some rfl rfl) rfl rfl T ?_
 obtain rfl:=O (F afN)
 exact pF rfl<|dn<|⟨false,h,wR []⟩
 try dsimp only
 refine ae.n ?_
 cases Pc
 refine fs<|qq<|sr<|ag rfl<|dn<|bE (F h) fun e33 afO gy=>?_
 refine aV (fun(Jt:(List (List Qr))×(List Int)×(List (List Qr)))=>AS.bG 103 [(2,.sv (slc 4 (List.map eQ x2))),(3,.ptr 3 0),(7,.ptr 27 0)] [(27,⟨79,[.sv (.v (.bool sP)),.sv (.v (.int .i64 qK)),.row 313,.row 314,.row 315]⟩),(3,⟨25,[.sv (.v (.int .i64 aB)),.sv (slc 1 (List.map (eS 4 eQ) aC)),.sv (slc 1 (List.map (eS 4 eQ) aJ)),.sv (slc 4 (List.map eQ aL))]⟩)] [(313,TR 23 1 (eS 4 eQ) Jt.1),(314,TR 3 1 bT Jt.2.1),(315,TR 23 1 (eS 4 eQ) Jt.2.2)]) (fun Jt=>Jt=e33) ?_ (fun Jt afP=>?_)
 refine ak ?_
 refine aW afO (fun Qj=>AS.bG 103 [(1,.sv (slc 2 (List.map Qa x1))),(2,.sv (slc 4 (List.map eQ x2))),(3,.ptr 3 0),(7,.ptr 27 0),(9,.sv (.v (.int .i64 Qj.1)))] [(27,⟨79,[.sv (.v (.bool sP)),.sv (.v (.int .i64 qK)),.row 313,.row 314,.row 315]⟩),(3,⟨25,[.sv (.v (.int .i64 aB)),.sv (slc 1 (List.map (eS 4 eQ) aC)),.sv (slc 1 (List.map (eS 4 eQ) aJ)),.sv (slc 4 (List.map eQ aL))]⟩)] [(313,TR 23 1 (eS 4 eQ) Qj.2.1),(314,TR 3 1 bT Qj.2.2.1),(315,TR 23 1 (eS 4 eQ) Qj.2.2.2)]) (cH (fun i=>bif Nat.beq i 313 then 304 else bif Nat.beq i 314 then 305 else bif Nat.beq i 315 then 306 else i) rfl rfl rfl rfl rfl ⟨.sv (SV.aa _),.sv (SV.aa _),.ptr,.ptr,.sv (SV.aa _),trivial⟩ ⟨⟨_,rfl,⟨.sv (SV.aa _),.sv (SV.aa _),.row rfl,.row rfl,.row rfl,trivial⟩⟩,⟨_,rfl,⟨.sv (SV.aa _),.sv (SV.aa _),.sv (SV.aa _),.sv (SV.aa _),trivial⟩⟩,trivial⟩ ⟨⟨_,rfl,bQ.refl _⟩,⟨_,rfl,bQ.refl _⟩,⟨_,rfl,bQ.refl _⟩,trivial⟩ (fun i hi=>by rw[bH (show i≠313 by omega)];rw[bH (show i≠314 by omega)];rw[bH (show i≠315 by omega)];rfl)) (fun Qj y33 G33 h afQ afR=>?_)
 obtain⟨wF,sF,sG,sH⟩:=Qj
 try dsimp only
 refine qq<|sr<|mv rfl<|mv rfl<|lE h fun sO h48 h=>ln rfl h48<|lE h fun MT Ny h=>ls _ rfl rfl Ny<|dn ?_
 cases MT
 refine cF<|aZ<|ae.x<|ae.x<|aG.x<|ae.n ?_
 obtain rfl:=O (F h)
 exact⟨(sF,sG,sH),afR _ rfl,wR []⟩
 refine cT<|aE<|ae.n<|qq<|ak<|ai mixed<|mo (s:=.ptr _ _) rfl<|mv rfl<|mv rfl ?_
 obtain⟨⟨TE,aaq⟩,GW,h⟩:=bS (V h)
 refine ix rfl rfl GW<|RT.aT .none rfl T rfl<|lr rfl rfl<|mv rfl<|mv rfl ?_
 obtain⟨⟨aar,TF⟩,I3,h⟩:=bS h
 refine ix rfl rfl I3<|RT.aT .none rfl T rfl<|lr rfl rfl ?_
 obtain⟨⟨UD,l37,IA,l39⟩,h63,h⟩:=bS h
 refine RT.J2 .none (gY h63) 27 [313,314,315] [325,326,327] rfl ⟨rfl,rfl,rfl,trivial⟩ (by decide) (by decide) rfl ⟨⟨rfl,T⟩,⟨rfl,T⟩,⟨rfl,T⟩,trivial⟩ rfl rfl (.cons rfl (.cons rfl (.cons rfl (.nil)))) T ?_
 refine RT.done ⟨by kernel_rfl,?_⟩
 refine aG.n<|ae.n<|af<|mv rfl<|lE h fun BF DE h=>ad _ rfl rfl DE<|ag rfl<|RT.done ?_
 obtain rfl:=O h
 exact ae.n ⟨(BF,l37,IA,l39),afQ _ rfl,cH (fun i=>bif Nat.beq i 313 then 325 else bif Nat.beq i 314 then 326 else bif Nat.beq i 315 then 327 else i) rfl rfl rfl rfl rfl ⟨.sv (SV.aa _),.sv (SV.aa _),.ptr,.ptr,.sv (SV.aa _),trivial⟩ ⟨⟨_,rfl,⟨.sv (SV.aa _),.sv (SV.aa _),.row rfl,.row rfl,.row rfl,trivial⟩⟩,⟨_,rfl,⟨.sv (SV.aa _),.sv (SV.aa _),.sv (SV.aa _),.sv (SV.aa _),trivial⟩⟩,trivial⟩ ⟨⟨_,rfl,bQ.refl _⟩,⟨_,rfl,bQ.refl _⟩,⟨_,rfl,bQ.refl _⟩,trivial⟩ (fun i hi=>by rw[bH (show i≠313 by omega)];rw[bH (show i≠314 by omega)];rw[bH (show i≠315 by omega)];rfl)⟩
 subst afP
 obtain⟨yp,yq,yt⟩:=Jt
 try dsimp only
 refine ae.n<|sr<|mv rfl<|fa rfl rfl<|lV rfl rfl rfl<|bE gy fun Gn QZ gy=>cl (wv QZ) ⟨rfl,rfl,trivial⟩<|ag rfl<|dn<|qq<|ai mixed<|mv rfl<|fa rfl rfl<|lV rfl rfl rfl<|bE gy fun Tn Z5 gy=>cN (Cy Z5) ⟨rfl,rfl,trivial⟩<|ld rfl rfl (.cons rfl (.cons rfl (.cons rfl (.cons rfl (.nil)))))<|mv rfl<|bE gy fun UF Zn gy=>?_
 refine cl (Hu Zn) ⟨rfl,rfl,trivial⟩<|bE gy fun x75 h75 gy=>RT.MJ (k:=UF) (e:=eQ) .none rfl rfl rfl T rfl T h75<|ag rfl ?_
 refine RT.done ⟨by kernel_rfl,?_⟩
 refine ae.n<|qq<|sr<|mo (s:=.ptr _ _) rfl<|bE gy fun x77 h77 gy=>RT.jQ .none (HN h77) 27 [313,314,315] rfl ⟨rfl,rfl,rfl,trivial⟩ (by decide) rfl rfl (.cons rfl (.nil)) T<|mv rfl<|bE gy fun Lf Q0 gy=>cl (DJ Q0) ⟨rfl,rfl,trivial⟩<|mo (s:=.ptr _ _) rfl<|bE gy fun x81 h81 gy=>RT.jQ .none (sB h81) 27 [313,314,315] rfl ⟨rfl,rfl,rfl,trivial⟩ (by decide) rfl rfl (.cons rfl (.nil)) T<|bE gy fun x82 h82 gy=>cl (fK h82) ⟨rfl,rfl,trivial⟩ ?_
 refine lE gy fun Yj h83 gy=>nt rfl _ h83<|dn ?_
 cases Yj
 refine fs<|sr<|ld rfl rfl (.cons rfl (.cons rfl (.cons rfl (.cons rfl (.nil)))))<|mv rfl<|bE (F gy) fun Qf Vo gy=>cN (Aw Vo) ⟨rfl,rfl,trivial⟩ ?_
 obtain⟨⟨⟨TG,TH⟩,⟨TI,TJ⟩⟩,Vp,gy⟩:=bS gy
 refine cl (gJ Vp) ⟨rfl,trivial⟩<|mv rfl<|bE gy fun QS Zp gy=>cl (xY Zp) ⟨rfl,rfl,trivial⟩<|bE gy fun Qg Vq gy=>RT.MJ (k:=QS) (e:=eQ) .none rfl rfl rfl T rfl T Vq<|ag rfl<|dn<|qq ?_
 refine aF gy (fun j42=>AS.bG 103 [(6,.sv (.v (.bool j42)))] [] []) (fun gy=>?_) (fun TK gy=>?_)
 refine af<|mv rfl<|mo (s:=.ptr _ _) rfl<|bE gy fun SE Zq gy=>RT.jQ .none (sD Zq) 27 [313,314,315] rfl ⟨rfl,rfl,rfl,trivial⟩ (by decide) rfl rfl (.cons rfl (.nil)) T<|mv rfl<|mo (s:=.ptr _ _) rfl<|bE gy fun x96 h96 gy=>RT.jQ .none (vR h96) 27 [313,314,315] rfl ⟨rfl,rfl,rfl,trivial⟩ (by decide) rfl rfl (.cons rfl (.nil)) T<|bE gy fun X2 Zs gy=>cl (DK Zs) ⟨rfl,rfl,trivial⟩<|bE gy fun WA h98 gy=>cl (Cx h98) ⟨rfl,rfl,trivial⟩ ?_
 refine bE gy fun x99 h99 gy=>cl (fK h99) ⟨rfl,rfl,trivial⟩<|mv rfl<|bE gy fun Km Ry gy=>?_
 cases x99
 obtain rfl:=O (F Ry)
 exact ww<|pF rfl<|ag rfl<|dn<|⟨false,gy,wR []⟩
 refine bE (V Ry) fun W2 afS Ry=>gc (me afS) trivial ?_
 obtain rfl:=O Ry
 exact pT rfl<|ag rfl<|dn<|⟨W2,gy,wR []⟩
 try dsimp only
 refine ae.n<|aj ?_
 obtain rfl:=O gy
 exact R1 rfl
 refine cT<|sr<|ag rfl<|dn<|aj<|ae.r ?_
 obtain rfl:=O (V gy)
 exact R1 rfl
 refine cT<|qq ?_
 refine aF (V h) (fun j18=>AS.bG 103 [(6,.sv (.v (.bool j18)))] [] []) (fun h=>?_) (fun TD h=>?_)
 refine af<|mv rfl<|eq false rfl rfl (by decide)<|mv rfl<|bE h fun Pd vP h=>?_
 obtain rfl:=O (F vP)
 refine ww<|ww<|ww<|pF rfl<|mv rfl<|bE h fun afT Ls h=>?_
 obtain rfl:=O (F Ls)
 exact ww<|pF rfl<|ag rfl<|dn<|⟨false,h,wR []⟩
 try dsimp only
 refine ae.n<|aj<|ae.r ?_
 obtain rfl:=O h
 exact R1 rfl
 refine cT<|sr<|bE (V h) fun fR kD h=>cl (me kD) trivial<|ag rfl<|dn<|aj<|ae.r ?_
 obtain rfl:=O h
 exact R1 rfl
end Go.Proofs.YtningmnklfpfjaaGreat
namespace Go.Proofs.YtningmnklfpfjaaGreat
open Go.Fw Go.Fw.Z Go.RowKit
theorem o9{x0:Lr}{x1:List Pv}{x2:List Qr}{r:Bool}(h:eH x0 x1 x2=some r):Pure Tryz.prog 8 [.agg (Gm x0),slc 2 (List.map Qa x1),slc 4 (List.map eQ x2)] (.v (.bool r)):=by
 obtain⟨aB,aC,aJ,aL⟩:=x0
 refine ay Tryz.func8 rfl (Nat.le_of_ble_eq_true rfl) (fun cG M vs hvs=>?_)
 unfold eH at h
 refine sr<|bx rfl<|ag rfl<|dn<|qq<|qq ?_
 refine aF h (fun j6=>AS.bG 103 [(1,.sv (slc 2 (List.map Qa x1))),(2,.sv (slc 4 (List.map eQ x2))),(3,.ptr 3 0),(23,.sv (.v (.bool j6)))] [(3,⟨25,[.sv (.v (.int .i64 aB)),.sv (slc 1 (List.map (eS 4 eQ) aC)),.sv (slc 1 (List.map (eS 4 eQ) aJ)),.sv (slc 4 (List.map eQ aL))]⟩)] []) (fun h=>?_) (fun CZ h=>?_)
 refine af<|ld rfl rfl (.cons rfl (.cons rfl (.cons rfl (.cons rfl (.nil)))))<|bE h fun fB fT h=>cl (wE fT) ⟨rfl,trivial⟩<|mv rfl<|bE h fun Ph kF h=>?_
 cases fB
 refine gm rfl<|lE (F kF) fun gu iQ kF=>gn rfl iQ<|lE kF fun eT jD kF=>gg _ rfl rfl jD ?_
 obtain rfl:=O kF
 refine pF rfl<|mv rfl<|bE h fun afU vP h=>?_
 cases eT
 refine gm rfl<|RT.eO (l:=[x2]) (e:=(eS 4 eQ)) (.some rfl rfl) (.one rfl (.nil)) T rfl rfl rfl rfl rfl rfl<|bE (F vP) fun iP mD vP=>gc (gZ mD) ⟨rfl,trivial⟩ ?_
 obtain rfl:=O vP
 exact pF rfl<|dn<|⟨iP,h,wR []⟩
 obtain rfl:=O (V vP)
 exact ww<|ww<|ww<|pT rfl<|dn<|⟨true,h,wR []⟩
 obtain rfl:=O (V kF)
 exact ww<|ww<|ww<|pT rfl<|mv rfl<|ww<|ww<|ww<|pT rfl<|dn<|⟨true,h,wR []⟩
 try dsimp only
 refine ae.n ?_
 cases CZ
 refine fs<|sr<|ld rfl rfl (.cons rfl (.cons rfl (.cons rfl (.cons rfl (.nil)))))<|bE (F h) fun _ m7 h=>cl (HV m7) ⟨rfl,trivial⟩<|mv rfl<|ex rfl rfl<|ex rfl rfl<|ag rfl<|ag rfl<|dn<|qq<|sr<|mv rfl<|ne true rfl rfl (by decide)<|mv rfl<|ww<|ww<|pT rfl<|dn<|cT ?_
 refine qq ?_
 refine aF h (fun j15=>AS.bG 103 [(6,.sv (.v (.bool j15)))] [] []) (fun h=>?_) (fun TL h=>?_)
 refine af<|mv rfl<|eq true rfl rfl (by decide)<|mv rfl<|gl rfl rfl (.cons rfl (.cons rfl (.cons rfl (.cons rfl (.nil)))))<|bE h fun lu nO h=>gc (uE nO) ⟨rfl,trivial⟩<|lE h fun rP zb h=>QM rfl _ zb<|pT rfl<|mv rfl<|bE h fun Pg ju h=>?_
 cases rP
 obtain rfl:=O (F ju)
 exact ww<|pF rfl<|ag rfl<|dn<|⟨false,h,wR []⟩
 refine bE (V ju) fun vJ zh ju=>gc (me zh) trivial ?_
 obtain rfl:=O ju
 exact pT rfl<|ag rfl<|dn<|⟨vJ,h,wR []⟩
 try dsimp only
 refine ae.n<|aj<|ae.r ?_
 obtain rfl:=O h
 exact R1 rfl
 refine cT<|sr<|bE (V h) fun fR kD h=>cl (me kD) trivial<|ag rfl<|dn<|aj<|ae.r ?_
 obtain rfl:=O h
 exact R1 rfl
end Go.Proofs.YtningmnklfpfjaaGreat
namespace Go.Proofs.YtningmnklfpfjaaGreat
open Go.Fw Go.Fw.Z Go.RowKit
theorem pM{x0:Lr}{x1:List Pv}{x2:List Qr}{r:Bool}(h:eP x0 x1 x2=some r):Pure Tryz.prog 8 [.agg (Gm x0),slc 2 (List.map Qa x1),slc 4 (List.map eQ x2)] (.v (.bool r)):=by
 unfold eP at h
 split at h
 ·exact o8 h
 ·exact o9 h
end Go.Proofs.YtningmnklfpfjaaGreat
namespace Go.Fw
theorem vw{n:Nat}(h:n≤9223372036854775807):IntKind.i64.wrap (n:Int)=n:=lG (by omega)
theorem cq{x:Int}(h: -9223372036854775808≤x)(h':x≤9223372036854775807):IntKind.i64.wrap x=x:=lG ⟨h,h'⟩
theorem bt{n:Nat}(h:n<9223372036854775807):IntKind.i64.wrap ((n:Int)+1)=((n+1:Nat):Int):=by rw[lG (by omega)];simp
theorem vz{n m:Nat}(h:n+m≤9223372036854775807):IntKind.i64.wrap ((n:Int)+(m:Int))=((n+m:Nat):Int):=by rw[lG (by omega)];simp
theorem HW{n:Nat}(h:n≤9223372036854775807):IntKind.i64.wrap (((n+1:Nat):Int)-1)=(n:Int):=by rw[lG (by omega)];omega
theorem aQ{α:Type}{l:List α}{i:Nat}{a:α}(h:l[i]? =some a):cy l (i:Int)=some a:=by simp[cy,h]
theorem zI{α:Type}{l:List α}{a:α}(h:l[0]? =some a):cy l 0=some a:=by simp[cy,h]
theorem Pj{α:Type}{l:List α}{a:α}(h:l[1]? =some a):cy l 1=some a:=by simp[cy,h]
theorem cg{α:Type}{l:List α}{i:Nat}(h:i<l.length):pI l (i:Int)=some i:=by simp[pI,h]
theorem fL{α:Type}{l:List α}{i:Nat}{y:α}(h:i<l.length):stM l i y=some (l.set i y):=by simp[stM,h]
theorem Pk{α:Type}{b:Nat}{l k:List α}(h:(l.length+k.length)*b≤140737488355328)(h':l.length+k.length≤140737488355328):xy b l k=some (l++k):=by simp[xy,h,h']
theorem AI{α:Type}{b:Nat}{l:List α}{x:α}(hb:b≤100)(h:l.length≤1000000000000):xy b l [x]=some (l++[x]):=by
 apply Pk
 ·have:(l.length+[x].length)*b≤1000000000001*100:=Nat.mul_le_mul (by simp;omega) hb
  omega
 ·simp;omega
theorem W5{α:Type}{b:Nat}{l k:List α}(hb:b≤100)(h:l.length+k.length≤1000000000000):xy b l k=some (l++k):=by
 apply Pk
 ·have:(l.length+k.length)*b≤1000000000000*100:=Nat.mul_le_mul h hb
  omega
 ·omega
theorem C0{α:Type}{b:Nat}{n:Nat}(hb:b≤100)(h:n≤1000000000000):ME (α:=α) b (n:Int)=some []:=by
 have:b*n≤100*1000000000000:=Nat.mul_le_mul hb h
 have h2:(b:Int)*(n:Int)=((b*n:Nat):Int):=by simp
 unfold ME
 rw[h2,if_pos ⟨by omega,by omega,by omega⟩]
theorem sI{α:Type}{b:Nat}{n:Nat}{z:α}(hb:b≤100)(h:n≤1000000000000):AT b (n:Int) z=some (List.replicate n z):=by
 have:b*n≤100*1000000000000:=Nat.mul_le_mul hb h
 have h2:(b:Int)*(n:Int)=((b*n:Nat):Int):=by simp
 unfold AT
 rw[h2,if_pos ⟨by omega,by omega,by omega⟩,Int.toNat_natCast]
theorem Pm{α:Type}{l:List α}{i j:Nat}(h:i≤j)(h':j≤l.length):xK l (i:Int) (j:Int)=some (cut l i j):=by
 unfold xK;rw[if_pos ⟨by omega,by omega,by omega⟩];simp
theorem oD{α:Type}{l:List α}{j:Nat}(h':j≤l.length):xK l 0 (j:Int)=some (l.take j):=by
 have:=Pm (l:=l) (i:=0) (j:=j) (by omega) h'
 simpa[cut]using this
theorem sJ{M a b:Nat}(h:b≤a)(h':a<M):pJ M a b=a-b:=by
 unfold pJ;rw[show(a:Int)-(b:Int)=((a-b:Nat):Int) by omega,←Int.natCast_emod,Int.toNat_natCast,Nat.mod_eq_of_lt (by omega)]
theorem A5{M a b:Nat}(h:a<b)(h':b≤M):pJ M a b=M+a-b:=by
 unfold pJ
 have:((a:Int)-(b:Int))%(M:Int)=((M+a-b:Nat):Int):=by
  rw[←Int.add_emod_right (a:=(a:Int)-b),show(a:Int)-(b:Int)+(M:Int)=((M+a-b:Nat):Int) by omega,←Int.natCast_emod,Nat.mod_eq_of_lt (by omega)]
 rw[this,Int.toNat_natCast]
theorem A6{o n i:Nat}(h:i<n):Qc o n (i:Int)=some (o+i):=by simp[Qc,h]
theorem qV{α:Type}{l l':List α}(h:l'.length=l.length):we l l'=some ():=by simp[we,h]
theorem FZ{M a b:Nat}(h:b≠0)(h':a<M):E6 M a b=some (a/b):=by
 unfold E6;rw[if_neg h,Nat.mod_eq_of_lt (Nat.lt_of_le_of_lt (Nat.div_le_self _ _) h')]
theorem A7{a b:Nat}(h:b≠0):Dt a b=some (a%b):=by unfold Dt;rw[if_neg h]
theorem bO{α β:Type}{a:α}{f:α→Option β}:Option.bind (some a) f=f a:=by
 have h:∀o,o=some a→Option.bind o f=f a:=by intro o ho;rw[ho];rfl
 exact h _ rfl
theorem jn{α:Type}{x y:α}:(bif true then x else y)=x:=by
 have h:∀b,b=true→(bif b then x else y)=x:=by intro b hb;rw[hb];rfl
 exact h _ rfl
theorem jT{α:Type}{x y:α}:(bif false then x else y)=y:=by
 have h:∀b,b=false→(bif b then x else y)=y:=by intro b hb;rw[hb];rfl
 exact h _ rfl
theorem oE{S E R:Type}{body:S→Option (S⊕E)}{s:S}{f:E→Option R}{r:R}(I:S→Prop)(Post:E→Prop)(μ:S→Nat)
  (step:∀s,I s→(∃s',body s=some (.inl s')∧I s'∧μ s'<μ s)∨(∃e,body s=some (.inr e)∧Post e)) (h:I s) (hf:∀e,Post e→f e=some r):(bU body s).bind f=some r:=by
 obtain⟨e,h1,h2⟩:=yQ I Post μ step h
 rw[h1];exact hf e h2
theorem oz{S E R:Type}{body:S→Option (S⊕E)}{s:S}{f:E→Option R}{Q:R→Prop}(I:S→Prop)(Post:E→Prop)(μ:S→Nat)
  (step:∀s,I s→(∃s',body s=some (.inl s')∧I s'∧μ s'<μ s)∨(∃e,body s=some (.inr e)∧Post e)) (h:I s) (hf:∀e,Post e→∃r,f e=some r∧Q r):∃r,(bU body s).bind f=some r∧Q r:=by
 obtain⟨e,h1,h2⟩:=yQ I Post μ step h
 rw[h1];exact hf e h2
theorem aU{S E R:Type}{body:S→Option (S⊕E)}{s:S}{f:E→Option R}{r:R}(st:Nat→S)(n:Nat)(e:E)(h0:s=st 0)(hs:∀k,k<n→body (st k)=some (.inl (st (k+1))))(he:body (st n)=some (.inr e))(hf:f e=some r):(bU body s).bind f=some r:=by
 rw[h0,MI st n hs he];exact hf
theorem mX{S R:Type}{body:Nat→S→Option S}{s:S}{f:S→Option R}{r:R}(st:Nat→S){n:Nat}(h0:s=st 0)(hs:∀k,k<n→body k (st k)=some (st (k+1)))(hf:f (st n)=some r):(lH body n s).bind f=some r:=by
 rw[h0,yR st n hs];exact hf
theorem bind_eq{α β:Type}{x:Option α}{a:α}{f:α→Option β}{r:Option β}(h:x=some a)(hf:f a=r):x.bind f=r:=by rw[h];exact hf
theorem bj{α:Type}{b:Bool}{x y r:α}(hb:b=true)(h:x=r):(bif b then x else y)=r:=by rw[hb];exact h
theorem aP{α:Type}{b:Bool}{x y r:α}(hb:b=false)(h:y=r):(bif b then x else y)=r:=by rw[hb];exact h
end Go.Fw
namespace Go.Fw
def val(B:Nat):List Nat→Nat
 |[]=>0
 |x::l=>x+B*val B l
def fM(B:Nat):Nat→Nat→List Nat
 |0,_=>[]
 |n+1,v=>v%B::fM B n (v/B)
def mg(ws:List Nat):List Nat:=(ws.reverse.dropWhile (· ==0)).reverse
def can(B v:Nat):List Nat:=mg (fM B v v)
theorem bp(B:Nat):∀n v,(fM B n v).length=n
 |0,_=>rfl
 |n+1,v=>by simp[fM,bp B n]
theorem mh(B:Nat):∀n v,val B (fM B n v)=v%B^n
 |0,v=>by simp[fM,val,Nat.mod_one]
 |n+1,v=>by
  rw[fM,val,mh B n,Nat.pow_succ,Nat.mul_comm (B^n) B,Nat.mod_mul]
theorem nV{B:Nat}(hB:0<B):∀(n v x:Nat),x∈fM B n v→x<B
 |n+1,v,x,h=>by
  rcases List.mem_cons.1 h with rfl|h
  ·exact Nat.mod_lt _ hB
  ·exact nV hB n _ x h
theorem jo{B:Nat}:∀(l:List Nat),(∀x∈l,x<B)→val B l<B^l.length
 |[],_=>by simp[val]
 |x::l,h=>by
  have h1:=jo l (fun y hy=>h y (List.mem_cons_of_mem _ hy))
  have h2:=h x (by simp)
  rw[val,List.length_cons,Nat.pow_succ]
  calc x+B*val B l<B+B*val B l:=by omega
   _=B*(val B l+1):=by rw[Nat.mul_add];omega
   _≤B*B^l.length:=Nat.mul_le_mul_left _ h1
   _=B^l.length*B:=Nat.mul_comm _ _
theorem A8{B:Nat}:∀(l:List Nat),(∀x∈l,x<B)→fM B l.length (val B l)=l
 |[],_=>rfl
 |x::l,h=>by
  have h2:=h x (by simp)
  have hB:0<B:=by omega
  rw[List.length_cons,fM,val,Nat.add_mul_mod_self_left,Nat.mod_eq_of_lt h2,Nat.add_mul_div_left _ _ hB,Nat.div_eq_of_lt h2,Nat.zero_add,A8 l (fun y hy=>h y (List.mem_cons_of_mem _ hy))]
theorem yu{B:Nat}:∀(n v j:Nat),j<n→(fM B n v)[j]? =some (v/B^j%B)
 |n+1,v,0,_=>by simp[fM]
 |n+1,v,j+1,h=>by
  rw[fM,List.getElem?_cons_succ,yu n _ j (by omega),Nat.div_div_eq_div_mul,Nat.pow_succ,Nat.mul_comm B]
theorem F1{B:Nat}:∀(a b:List Nat),val B (a++b)=val B a+B^a.length*val B b
 |[],b=>by simp[val]
 |x::a,b=>by
  rw[List.cons_append,val,val,F1 a b,List.length_cons,Nat.pow_succ,Nat.mul_add,Nat.add_assoc,Nat.mul_comm (B^a.length) B,Nat.mul_assoc]
theorem pg{B:Nat}:∀(n v:Nat),fM B (n+1) v=fM B n v++[v/B^n%B]
 |0,v=>by simp[fM]
 |n+1,v=>by
  rw[fM,pg n,fM,List.cons_append,Nat.div_div_eq_div_mul,Nat.pow_succ,Nat.mul_comm B]
theorem uS(B:Nat):∀k,fM B k 0=List.replicate k 0
 |0=>rfl
 |k+1=>by rw[fM,Nat.zero_mod,Nat.zero_div,uS B k];rfl
theorem C1{B:Nat}(hB:0<B):∀(n k v:Nat),v<B^n→fM B (n+k) v=fM B n v++List.replicate k 0
 |0,k,v,h=>by
  have:v=0:=by simpa using h
  subst this;rw[Nat.zero_add,uS];rfl
 |n+1,k,v,h=>by
  rw[show n+1+k=n+k+1 by omega,fM,fM,List.cons_append,C1 hB n k (v/B) (by rw[Nat.div_lt_iff_lt_mul hB];rwa[Nat.pow_succ]at h)]
theorem sK{B:Nat}(hB:2≤B):∀v,v<B^v
 |0=>by simp
 |v+1=>by
  have:=sK hB v
  rw[Nat.pow_succ]
  have h2:B^v*2≤B^v*B:=Nat.mul_le_mul_left _ hB
  omega
theorem sL(l:List Nat):mg (l++[0])=mg l:=by simp[mg]
theorem uT(l:List Nat):∀k,mg (l++List.replicate k 0)=mg l
 |0=>by simp
 |k+1=>by rw[List.replicate_succ',←List.append_assoc,sL,uT l k]
theorem xn(l:List Nat){x:Nat}(h:x≠0):mg (l++[x])=l++[x]:=by simp[mg,h]
theorem xo(xs:List Nat):xs=[]∨(∃ys,xs=ys++[0])∨(∃ys y,y≠0∧xs=ys++[y]):=by
 rcases List.eq_nil_or_concat xs with rfl|⟨ys,y,rfl⟩
 ·exact .inl rfl
 ·by_cases hy:y=0
  ·subst hy;exact .inr (.inl ⟨ys,by simp⟩)
  ·exact .inr (.inr ⟨ys,y,hy,by simp⟩)
theorem zJ:∀(n:Nat) (l:List Nat),l.length=n→∃k,l=mg l++List.replicate k 0:=by
 intro n
 induction n with
 |zero=>intro l h;obtain rfl:=List.length_eq_zero_iff.1 h;exact⟨0,rfl⟩
 |succ n ih=>
  intro l h
  rcases xo l with rfl|⟨ys,rfl⟩|⟨ys,y,hy,rfl⟩
  ·simp at h
  ·obtain⟨k,hk⟩:=ih ys (by simpa using h)
   refine⟨k+1,?_⟩
   rw[sL,List.replicate_succ',←List.append_assoc,←hk]
  ·exact⟨0,by rw[xn _ hy];simp⟩
theorem LK{l:List Nat}{x:Nat}(h:x∈mg l):x∈l:=by
 obtain⟨k,hk⟩:=zJ _ l rfl
 rw[hk];exact List.mem_append_left _ h
theorem EA(l:List Nat):(mg l).length≤l.length:=by
 obtain⟨k,hk⟩:=zJ _ l rfl
 have:=congrArg List.length hk
 rw[List.length_append]at this;omega
theorem EB(B:Nat):∀k,val B (List.replicate k 0)=0
 |0=>rfl
 |k+1=>by rw[List.replicate_succ,val,EB B k];simp
theorem Pn(B:Nat)(l:List Nat):val B (mg l)=val B l:=by
 obtain⟨k,hk⟩:=zJ _ l rfl
 conv=>rhs;rw[hk,F1,EB]
 simp
theorem HX{B:Nat}(hB:2≤B){n v:Nat}(h:v<B^n):mg (fM B n v)=can B v:=by
 have hv:=sK hB v
 rcases Nat.le_total n v with hn|hn
 ·obtain⟨k,rfl⟩:=Nat.exists_eq_add_of_le hn
  rw[can,C1 (by omega) n k _ h,uT]
 ·obtain⟨k,rfl⟩:=Nat.exists_eq_add_of_le hn
  rw[can,C1 (by omega) v k _ hv,uT]
theorem qW{B:Nat}(hB:2≤B){l:List Nat}(h:∀x∈l,x<B):mg l=can B (val B l):=by
 conv=>lhs;rw[←A8 l h]
 exact HX hB (jo l h)
theorem sM{B:Nat}(hB:2≤B)(v:Nat):val B (can B v)=v:=by
 rw[can,Pn,mh,Nat.mod_eq_of_lt (sK hB v)]
theorem mm{B:Nat}(hB:2≤B){v x:Nat}(h:x∈can B v):x<B:=nV (by omega) v v x (LK h)
theorem uU(B:Nat):can B 0=[]:=rfl
theorem F2{B:Nat}(hB:2≤B){v:Nat}(h:can B v=[]):v=0:=by have:=sM hB v;rw[h]at this;exact this.symm
theorem Rz{B:Nat}(hB:2≤B){v n:Nat}(h:v<B^n):(can B v).length≤n:=by
 rw[←HX hB h]
 have:=EA (fM B n v)
 rwa[bp]at this
theorem RA{B:Nat}(hB:2≤B)(v:Nat):mg (can B v)=can B v:=by
 rw[qW hB (fun x hx=>mm hB hx),sM hB]
theorem RB{B:Nat}(hB:2≤B)(v:Nat):can B v=fM B (can B v).length v:=by
 have:=A8 (can B v) (fun x hx=>mm hB hx)
 rw[sM hB]at this;exact this.symm
theorem dL{B:Nat}(hB:2≤B)(v:Nat):v<B^(can B v).length:=by
 have:=jo (can B v) (fun x hx=>mm hB hx)
 rwa[sM hB]at this
theorem F3{B:Nat}(hB:2≤B){v j:Nat}(h:j<(can B v).length):(can B v)[j]? =some (v/B^j%B):=by
 rw[RB hB v]at h⊢
 rw[bp]at h
 exact yu _ _ _ h
theorem C2{B:Nat}(hB:2≤B){v j:Nat}(h:(can B v).length≤j):v/B^j=0:=by
 refine Nat.div_eq_of_lt (Nat.lt_of_lt_of_le (dL hB v) ?_)
 exact Nat.pow_le_pow_right (by omega) h
theorem HY{B:Nat}(hB:2≤B){v:Nat}(h:v≠0):∃l x,x≠0∧can B v=l++[x]:=by
 rcases xo (can B v)with e|⟨ys,e⟩|⟨ys,y,hy,e⟩
 ·exact absurd (F2 hB e) h
 ·exfalso
  have h1:=RA hB v
  rw[e,sL]at h1
  have h2:=EA ys
  rw[h1]at h2;simp at h2;omega
 ·exact⟨ys,y,hy,e⟩
theorem wG{B:Nat}(hB:2≤B){v n:Nat}(h:n<(can B v).length):B^n≤v:=by
 by_cases h0:v=0
 ·subst h0;simp[uU]at h
 obtain⟨l,x,hx,e⟩:=HY hB h0
 have h1:=sM hB v
 rw[e,F1]at h1
 have hl:n≤l.length:=by rw[e]at h;simp at h;omega
 have h2:B^n≤B^l.length:=Nat.pow_le_pow_right (by omega) hl
 have h3:B^l.length≤B^l.length*val B [x]:=Nat.le_mul_of_pos_right _ (by simp[val];omega)
 omega
theorem fe{B:Nat}(hB:2≤B){v n:Nat}:(can B v).length≤n↔v<B^n:=by
 refine⟨fun h=>?_,Rz hB⟩
 exact Nat.lt_of_lt_of_le (dL hB v) (Nat.pow_le_pow_right (by omega) h)
theorem Po{B:Nat}(hB:2≤B){l:List Nat}{x:Nat}(hx:x≠0)(h:∀y∈l++[x],y<B):l++[x]=can B (val B (l++[x])):=by
 rw[←qW hB h,xn _ hx]
theorem qX{B:Nat}:∀(l:List Nat),(∀x∈l,x<B)→∀k,l.getD k 0=val B l/B^k%B
 |[],_,k=>by simp[val]
 |x::l,h,0=>by
  have h2:=h x (by simp)
  simp[val,Nat.add_mul_mod_self_left,Nat.mod_eq_of_lt h2]
 |x::l,h,k+1=>by
  have h2:=h x (by simp)
  have hB:0<B:=by omega
  rw[List.getD_cons_succ,qX l (fun y hy=>h y (List.mem_cons_of_mem _ hy)) k,val,Nat.pow_succ,Nat.mul_comm (B^k) B,←Nat.div_div_eq_div_mul,Nat.add_mul_div_left _ _ hB,Nat.div_eq_of_lt h2,Nat.zero_add]
theorem gO(B V k:Nat):V%B^(k+1)=V%B^k+B^k*(V/B^k%B):=by
 rw[Nat.pow_succ,Nat.mod_mul]
def Gp(B V W k:Nat):Nat:=(V%B^k+W%B^k)/B^k
theorem Ju{B:Nat}(hB:0<B)(V W k:Nat):Gp B V W k≤1:=by
 have hP:0<B^k:=Nat.pow_pos hB
 have h1:=Nat.mod_lt V hP
 have h2:=Nat.mod_lt W hP
 have:Gp B V W k<2:=by rw[Gp,Nat.div_lt_iff_lt_mul hP];omega
 omega
theorem HZ{B:Nat}(hB:0<B)(V W k:Nat):(V/B^k%B+W/B^k%B+Gp B V W k)/B=Gp B V W (k+1):=by
 have hP:0<B^k:=Nat.pow_pos hB
 rw[Gp,Gp,gO,gO,Nat.pow_succ,←Nat.div_div_eq_div_mul]
 congr 1
 rw[show V%B^k+B^k*(V/B^k%B)+(W%B^k+B^k*(W/B^k%B))=(V%B^k+W%B^k)+B^k*(V/B^k%B+W/B^k%B) by rw[Nat.mul_add];omega,Nat.add_mul_div_left _ _ hP]
 omega
theorem F4{B:Nat}(hB:0<B)(V W k:Nat):(V/B^k%B+W/B^k%B+Gp B V W k)%B=(V+W)/B^k%B:=by
 have hP:0<B^k:=Nat.pow_pos hB
 have h:(V+W)/B^k=V/B^k+W/B^k+Gp B V W k:=by
  have e1:=Nat.div_add_mod V (B^k)
  have e2:=Nat.div_add_mod W (B^k)
  rw[Gp]
  conv=>lhs;rw[←e1,←e2]
  rw[show B^k*(V/B^k)+V%B^k+(B^k*(W/B^k)+W%B^k)=(V%B^k+W%B^k)+B^k*(V/B^k+W/B^k) by rw[Nat.mul_add];omega,Nat.add_mul_div_left _ _ hP]
  omega
 rw[h]
 simp[Nat.add_mod]
theorem RC{B:Nat}{V W k:Nat}(hV:V<B^k)(hW:W<B^k):Gp B V W k=(V+W)/B^k:=by
 rw[Gp,Nat.mod_eq_of_lt hV,Nat.mod_eq_of_lt hW]
theorem H6(B V W:Nat):Gp B V W 0=0:=by simp[Gp,Nat.mod_one]
def AJ(B V W k:Nat):Nat:=(V%B^k+B^k-W%B^k)/B^k
theorem H7(B V W:Nat):AJ B V W 0=1:=by simp[AJ,Nat.mod_one]
theorem Pp{B:Nat}(hB:0<B)(V W k:Nat):AJ B V W k≤1:=by
 have hP:0<B^k:=Nat.pow_pos hB
 have h1:=Nat.mod_lt V hP
 have:AJ B V W k<2:=by
  rw[AJ,Nat.div_lt_iff_lt_mul hP]
  generalize W%B^k=y at*
  generalize V%B^k=x at*
  omega
 omega
theorem Kn{B:Nat}(hB:0<B)(V W k:Nat):V%B^(k+1)+B^(k+1)-W%B^(k+1)=(V%B^k+B^k-W%B^k)+B^k*(V/B^k%B+(B-1-W/B^k%B)):=by
 have hP:0<B^k:=Nat.pow_pos hB
 have h1:=Nat.mod_lt V hP
 have h2:=Nat.mod_lt W hP
 have h3:=Nat.mod_lt (W/B^k) hB
 rw[gO,gO,Nat.pow_succ]
 generalize B^k=p at*
 generalize V/p%B=x at*
 generalize W/p%B=y at*
 obtain⟨z,rfl⟩:∃z,B=y+1+z:=⟨B-y-1,by omega⟩
 have e1:y+1+z-1-y=z:=by omega
 rw[e1,Nat.mul_add p x z,Nat.mul_add p (y+1) z,Nat.mul_add p y 1]
 omega
theorem H8{B:Nat}(hB:0<B)(V W k:Nat):(V/B^k%B+(B-1-W/B^k%B)+AJ B V W k)/B=AJ B V W (k+1):=by
 have hP:0<B^k:=Nat.pow_pos hB
 rw[AJ,AJ,Kn hB,Nat.pow_succ,←Nat.div_div_eq_div_mul,Nat.add_mul_div_left _ _ hP]
 congr 1
 omega
theorem Jv{Q V W:Nat}(hQ:0<Q)(h:W≤V):(V%Q+Q-W%Q)%Q=(V-W)%Q:=by
 have e1:=Nat.div_add_mod V Q
 have e2:=Nat.div_add_mod W Q
 have h1:=Nat.mod_lt V hQ
 have h2:=Nat.mod_lt W hQ
 have hq:W/Q≤V/Q:=Nat.div_le_div_right h
 generalize V%Q=r at*
 generalize W%Q=s at*
 generalize V/Q=a at*
 generalize W/Q=b at*
 obtain⟨c,rfl⟩:=Nat.exists_eq_add_of_le hq
 rw[Nat.mul_add]at e1
 rcases Nat.lt_or_ge r s with X6|X6
 ·cases c with
  |zero=>simp at e1;omega
  |succ c=>
   rw[Nat.mul_add,Nat.mul_one]at e1
   rw[show V-W=Q*c+(r+Q-s) by omega,Nat.mul_add_mod]
 ·rw[show V-W=Q*c+(r-s) by omega,Nat.mul_add_mod,show r+Q-s=r-s+Q by omega,Nat.add_mod_right]
theorem Ko{B:Nat}(hB:0<B){V W:Nat}(h:W≤V)(k:Nat):(V/B^k%B+(B-1-W/B^k%B)+AJ B V W k)%B=(V-W)/B^k%B:=by
 have hP:0<B^k:=Nat.pow_pos hB
 have hQ:0<B^(k+1):=Nat.pow_pos hB
 have e:=Jv hQ h
 have e2:V/B^k%B+(B-1-W/B^k%B)+AJ B V W k=(V%B^(k+1)+B^(k+1)-W%B^(k+1))/B^k:=by
  rw[Kn hB,Nat.add_mul_div_left _ _ hP,AJ];omega
 rw[e2,←Nat.mod_mul_right_div_self,←Nat.mod_mul_right_div_self,←Nat.pow_succ,e]
end Go.Fw
namespace Go.Fw
theorem Kp{B:Nat}(hB:0<B):∀(j N lo p d hi:Nat),lo<B^j→p<B→d<B→j<N→(fM B N (lo+B^j*(p+B*hi))).set j d=fM B N (lo+B^j*(d+B*hi))
 |0,N+1,lo,p,d,hi,hlo,hp,hd,_=>by
  have:lo=0:=by simpa using hlo
  subst this
  simp only[Nat.pow_zero,Nat.zero_add,Nat.one_mul,fM,List.set_cons_zero,Nat.add_mul_mod_self_left,Nat.mod_eq_of_lt hd]
  rw[Nat.add_mul_div_left _ _ hB,Nat.add_mul_div_left _ _ hB,Nat.div_eq_of_lt hp,Nat.div_eq_of_lt hd]
 |j+1,N+1,lo,p,d,hi,hlo,hp,hd,hN=>by
  have e:∀q,(lo+B^(j+1)*(q+B*hi))%B=lo%B:=fun q=>by
   rw[Nat.pow_succ,Nat.mul_comm (B^j) B,Nat.mul_assoc,Nat.add_mul_mod_self_left]
  have e2:∀q,(lo+B^(j+1)*(q+B*hi))/B=lo/B+B^j*(q+B*hi):=fun q=>by
   rw[Nat.pow_succ,Nat.mul_comm (B^j) B,Nat.mul_assoc,Nat.add_mul_div_left _ _ hB]
  have afV:lo/B<B^j:=by rw[Nat.div_lt_iff_lt_mul hB];rwa[Nat.pow_succ]at hlo
  rw[fM,fM,List.set_cons_succ,e,e,e2,e2,Kp hB j N (lo/B) p d hi afV hp hd (by omega)]
theorem vA{B:Nat}(hB:0<B){N j u u' d:Nat}(hj:j<N)(hd:d<B)(hlo:u'%B^j=u%B^j)(W6:u'/B^j%B=d)(hhi:u'/B^(j+1)=u/B^(j+1)):(fM B N u).set j d=fM B N u':=by
 have hP:0<B^j:=Nat.pow_pos hB
 have f:∀u,u=u%B^j+B^j*(u/B^j%B+B*(u/B^(j+1))):=fun u=>by
  have e1:=Nat.mod_add_div u (B^j)
  have e2:=LL B u j
  rw[Nat.add_comm]at e2
  rw[←e2,e1]
 rw[f u,Kp hB j N _ _ d _ (Nat.mod_lt _ hP) (Nat.mod_lt _ hB) hd hj]
 conv=>rhs;rw[f u',hlo,W6,hhi]
where
 LL (B v m:Nat):v/B^m=B*(v/B^(m+1))+v/B^m%B:=by
  rw[Nat.pow_succ,←Nat.div_div_eq_div_mul,Nat.div_add_mod]
def mT(B V W i k:Nat):Nat:=((V%B^i)*W)%B^(i+k)+B^i*(V/B^i%B)*(W%B^k)
def mC(B V W i k:Nat):Nat:=mT B V W i k/B^(i+k)
def mV(B V W i k:Nat):Nat:=mT B V W i k%B^(i+k)+B^(i+k)*(((V%B^i)*W)/B^(i+k))
theorem TM{B:Nat}(hB:0<B)(V W i k:Nat):mT B V W i k<B^(i+k)*B:=by
 have h1:((V%B^i)*W)%B^(i+k)<B^(i+k):=Nat.mod_lt _ (Nat.pow_pos hB)
 have h2:V/B^i%B<B:=Nat.mod_lt _ hB
 have h3:W%B^k<B^k:=Nat.mod_lt _ (Nat.pow_pos hB)
 have h4:B^i*(V/B^i%B)*(W%B^k)≤B^i*(B-1)*B^k:=Nat.mul_le_mul (Nat.mul_le_mul_left _ (by omega)) (Nat.le_of_lt h3)
 have h5:B^i*(B-1)*B^k=B^(i+k)*(B-1):=by rw[Nat.pow_add,Nat.mul_assoc,Nat.mul_assoc,Nat.mul_comm (B-1)]
 have h6:B^(i+k)*B=B^(i+k)*(B-1)+B^(i+k):=by
  obtain⟨b,rfl⟩:∃b,B=b+1:=⟨B-1,by omega⟩
  rw[Nat.add_sub_cancel,Nat.mul_add,Nat.mul_one]
 unfold mT
 omega
theorem TN{B:Nat}(hB:0<B)(V W i k:Nat):mC B V W i k<B:=by
 rw[mC,Nat.div_lt_iff_lt_mul (Nat.pow_pos hB),Nat.mul_comm];exact TM hB V W i k
theorem F5{B:Nat}(V W i k:Nat):mT B V W i (k+1)=mT B V W i k+B^(i+k)*(((V%B^i)*W)/B^(i+k)%B+(V/B^i%B)*(W/B^k%B)):=by
 have e1:((V%B^i)*W)%B^(i+(k+1))=((V%B^i)*W)%B^(i+k)+B^(i+k)*(((V%B^i)*W)/B^(i+k)%B):=by rw[←Nat.add_assoc,gO]
 have e2:W%B^(k+1)=W%B^k+B^k*(W/B^k%B):=gO B W k
 unfold mT
 rw[e1,e2,Nat.mul_add,Nat.mul_add (B^(i+k))]
 have e3:B^i*(V/B^i%B)*(B^k*(W/B^k%B))=B^(i+k)*((V/B^i%B)*(W/B^k%B)):=by
  rw[Nat.pow_add,Nat.mul_assoc,Nat.mul_assoc,Nat.mul_left_comm (V/B^i%B)]
 omega
theorem RE{B:Nat}(hB:0<B)(V W i k:Nat):(((V%B^i)*W)/B^(i+k)%B+(V/B^i%B)*(W/B^k%B)+mC B V W i k)/B=mC B V W i (k+1):=by
 have hP:0<B^(i+k):=Nat.pow_pos hB
 rw[mC,mC,F5,←Nat.add_assoc,Nat.pow_succ,←Nat.div_div_eq_div_mul,Nat.add_mul_div_left _ _ hP]
 congr 1;omega
theorem TO{B:Nat}(V W i k:Nat):mV B V W i k%B^(i+k)=mT B V W i k%B^(i+k):=by
 rw[mV,Nat.add_mul_mod_self_left,Nat.mod_mod]
theorem Kq{B:Nat}(hB:0<B)(V W i k:Nat):mV B V W i k/B^(i+k)=((V%B^i)*W)/B^(i+k):=by
 have hP:0<B^(i+k):=Nat.pow_pos hB
 rw[mV,Nat.add_mul_div_left _ _ hP,Nat.div_eq_of_lt (Nat.mod_lt _ hP),Nat.zero_add]
theorem W7{B:Nat}(hB:0<B){V W i k N:Nat}(h:i+k<N):(fM B N (mV B V W i k))[i+k]? =some (((V%B^i)*W)/B^(i+k)%B):=by
 rw[yu _ _ _ h,Kq hB]
theorem RF{B:Nat}(hB:0<B){V W i k N:Nat}(h:i+k<N):
  (fM B N (mV B V W i k)).set (i+k) ((((V%B^i)*W)/B^(i+k)%B+(V/B^i%B)*(W/B^k%B)+mC B V W i k)%B)=fM B N (mV B V W i (k+1)):=by
 have hP:0<B^(i+k):=Nat.pow_pos hB
 have hPB:B^(i+(k+1))=B^(i+k)*B:=by rw[←Nat.add_assoc,Nat.pow_succ]
 have hs:mT B V W i (k+1)/B^(i+k)=((V%B^i)*W)/B^(i+k)%B+(V/B^i%B)*(W/B^k%B)+mC B V W i k:=by
  rw[F5,Nat.add_mul_div_left _ _ hP,mC];omega
 have ht:mT B V W i (k+1)%B^(i+k)=mT B V W i k%B^(i+k):=by rw[F5,Nat.add_mul_mod_self_left]
 refine vA hB h (Nat.mod_lt _ hB) ?_ ?_ ?_
 ·rw[TO,←ht,mV,hPB,Nat.mul_assoc,Nat.add_mul_mod_self_left,Nat.mod_mul_right_mod]
 ·rw[mV,hPB,Nat.mul_assoc,Nat.add_mul_div_left _ _ hP,Nat.add_mul_mod_self_left,Nat.mod_mul_right_div_self,Nat.mod_mod,hs]
 ·rw[show i+k+1=i+(k+1) by omega,Kq hB,show i+(k+1)=i+k+1 by omega,Nat.pow_succ,←Nat.div_div_eq_div_mul,←Nat.div_div_eq_div_mul,Kq hB]
theorem RG{B:Nat}(V W i:Nat):mV B V W i 0=(V%B^i)*W:=by
 rw[mV,mT,Nat.pow_zero,Nat.mod_one,Nat.mul_zero,Nat.add_zero,Nat.add_zero,Nat.mod_mod,Nat.mod_add_div]
theorem RH{B:Nat}(hB:0<B)(V W i:Nat):mC B V W i 0=0:=by
 rw[mC,mT,Nat.pow_zero,Nat.mod_one,Nat.mul_zero,Nat.add_zero,Nat.add_zero]
 exact Nat.div_eq_of_lt (Nat.mod_lt _ (Nat.pow_pos hB))
theorem W8{B:Nat}(hB:0<B){V W i n N:Nat}(hW:W<B^n)(h:i+n<N):(fM B N (mV B V W i n)).set (i+n) ((0+mC B V W i n)%B)=fM B N ((V%B^(i+1))*W):=by
 have hP:0<B^(i+n):=Nat.pow_pos hB
 have hp:(V%B^i)*W<B^(i+n):=by
  have h1:V%B^i<B^i:=Nat.mod_lt _ (Nat.pow_pos hB)
  rw[Nat.pow_add]
  by_cases h0:W=0
  ·subst h0;rw[Nat.mul_zero];exact Nat.mul_pos (Nat.pow_pos hB) (Nat.pow_pos hB)
  ·calc (V%B^i)*W<B^i*W:=Nat.mul_lt_mul_of_pos_right h1 (by omega)
    _≤B^i*B^n:=Nat.mul_le_mul_left _ (Nat.le_of_lt hW)
 have hT:mT B V W i n=(V%B^(i+1))*W:=by
  rw[mT,Nat.mod_eq_of_lt hp,Nat.mod_eq_of_lt hW,gO,Nat.add_mul]
 have hlt:=TM hB V W i n
 rw[hT]at hlt
 refine vA hB h (Nat.mod_lt _ hB) ?_ ?_ ?_
 ·rw[TO,hT]
 ·rw[Nat.zero_add,mC,hT]
 ·rw[Nat.pow_succ B (i+n),Nat.div_eq_of_lt hlt,←Nat.div_div_eq_div_mul,Kq hB,Nat.div_eq_of_lt hp,Nat.zero_div]
def sT(B V f e i:Nat):Nat:=V%B^i*f+e
def sC(B V f e i:Nat):Nat:=sT B V f e i/B^i
theorem Kr(B V f e:Nat):sC B V f e 0=e:=by simp[sC,sT,Nat.mod_one]
theorem Ks(B V f e i:Nat):sT B V f e (i+1)=sT B V f e i+B^i*(V/B^i%B*f):=by
 unfold sT
 rw[gO,Nat.add_mul,Nat.mul_assoc];omega
theorem Kt{B:Nat}(hB:0<B)(V f e i:Nat):(V/B^i%B*f+sC B V f e i)/B=sC B V f e (i+1):=by
 have hP:0<B^i:=Nat.pow_pos hB
 rw[sC,sC,Ks,Nat.pow_succ,←Nat.div_div_eq_div_mul,Nat.add_mul_div_left _ _ hP]
 congr 1;omega
theorem Pq{B:Nat}(hB:0<B)(V f e i:Nat):(V/B^i%B*f+sC B V f e i)%B=(V*f+e)/B^i%B:=by
 have hP:0<B^i:=Nat.pow_pos hB
 have h1:V*f+e=sT B V f e (i+1)+B^i*(B*(V/B^(i+1)*f)):=by
  have e1:=Nat.mod_add_div V (B^(i+1))
  unfold sT
  conv=>lhs;rw[←e1,Nat.add_mul]
  rw[Nat.pow_succ,Nat.mul_assoc,Nat.mul_assoc];omega
 rw[h1,Nat.add_mul_div_left _ _ hP,Nat.add_mul_mod_self_left,Ks,Nat.add_mul_div_left _ _ hP,sC,Nat.add_comm]
theorem TP{B:Nat}(hB:0<B){V f e:Nat}(hf:f<B)(he:e<B)(i:Nat):sC B V f e i<B:=by
 have hP:0<B^i:=Nat.pow_pos hB
 rw[sC,Nat.div_lt_iff_lt_mul hP]
 have h1:V%B^i≤B^i-1:=by have:=Nat.mod_lt V hP;omega
 have h2:V%B^i*f≤(B^i-1)*(B-1):=Nat.mul_le_mul h1 (by omega)
 obtain⟨p,hp⟩:∃p,B^i=p+1:=⟨B^i-1,by omega⟩
 obtain⟨b,rfl⟩:∃b,B=b+1:=⟨B-1,by omega⟩
 unfold sT
 rw[hp]at h2⊢
 rw[Nat.add_sub_cancel,Nat.add_sub_cancel]at h2
 have h3:(b+1)*(p+1)=p*b+b+p+1:=by rw[Nat.add_mul,Nat.mul_add,Nat.mul_comm b p];omega
 omega
theorem W9{B V f e i:Nat}(h:V<B^i):sC B V f e i=(V*f+e)/B^i:=by rw[sC,sT,Nat.mod_eq_of_lt h]
def sU(B V f e i:Nat):Nat:=sT B V f e i%B^i+B^i*(V/B^i)
def qU(B V d n:Nat):Nat:=V%B^n+B^n*(V/B^n/d)
theorem RI(B V d:Nat):qU B V d 0=V/d:=by simp[qU,Nat.mod_one]
theorem Xa{B V d n:Nat}(h:V<B^n):qU B V d n=V:=by simp[qU,Nat.mod_eq_of_lt h,Nat.div_eq_of_lt h]
theorem RJ(B V m:Nat):V/B^m=B*(V/B^(m+1))+V/B^m%B:=by rw[Nat.pow_succ,←Nat.div_div_eq_div_mul,Nat.div_add_mod]
theorem TQ{B d:Nat}(V m:Nat):V/B^m=(V/B^(m+1)%d*B+V/B^m%B)+d*(B*(V/B^(m+1)/d)):=by
 have h1:=RJ B V m
 have h2:=Nat.mod_add_div (V/B^(m+1)) d
 generalize V/B^(m+1)=q at*
 generalize V/B^m%B=y at*
 rw[h1]
 conv=>lhs;rw[←h2]
 rw[Nat.mul_add,Nat.mul_left_comm B d,Nat.mul_comm B (q%d)];omega
theorem aau{B d:Nat}(hd:0<d)(V m:Nat):V/B^m/d=B*(V/B^(m+1)/d)+(V/B^(m+1)%d*B+V/B^m%B)/d:=by
 conv=>lhs;rw[TQ (B:=B) (d:=d) V m]
 rw[Nat.add_mul_div_left _ _ hd,Nat.add_comm]
theorem aav{B d:Nat}(V m:Nat):V/B^m%d=(V/B^(m+1)%d*B+V/B^m%B)%d:=by
 conv=>lhs;rw[TQ (B:=B) (d:=d) V m]
 rw[Nat.add_mul_mod_self_left]
theorem aaw{B d:Nat}(hB:0<B)(hd:0<d)(V m:Nat):V/B^(m+1)%d*B+V/B^m%B<d*B:=by
 have h1:=Nat.mod_lt (V/B^(m+1)) hd
 have h2:=Nat.mod_lt (V/B^m) hB
 have h3:(V/B^(m+1)%d+1)*B≤d*B:=Nat.mul_le_mul_right _ h1
 rw[Nat.add_mul]at h3;omega
theorem Pr{B:Nat}(hB:0<B)(V d n:Nat):qU B V d n/B^n=V/B^n/d:=by
 have hP:0<B^n:=Nat.pow_pos hB
 rw[qU,Nat.add_mul_div_left _ _ hP,Nat.div_eq_of_lt (Nat.mod_lt _ hP),Nat.zero_add]
theorem aax(B V d n:Nat):qU B V d n%B^n=V%B^n:=by rw[qU,Nat.add_mul_mod_self_left,Nat.mod_mod]
theorem RK{B:Nat}(V d m:Nat):qU B V d (m+1)%B^m=V%B^m:=by
 rw[qU,Nat.pow_succ,Nat.mul_assoc,Nat.add_mul_mod_self_left,Nat.mod_mul_right_mod]
theorem Xb{B:Nat}(hB:0<B){V d m N:Nat}(h:m<N):(fM B N (qU B V d (m+1)))[m]? =some (V/B^m%B):=by
 have hP:0<B^m:=Nat.pow_pos hB
 rw[yu _ _ _ h,qU,Nat.pow_succ,Nat.mul_assoc,Nat.add_mul_div_left _ _ hP,Nat.add_mul_mod_self_left,Nat.mod_mul_right_div_self,Nat.mod_mod]
theorem RL{B:Nat}(hB:0<B){V d m N:Nat}(hd:0<d)(h:m<N):(fM B N (qU B V d (m+1))).set m ((V/B^(m+1)%d*B+V/B^m%B)/d)=fM B N (qU B V d m):=by
 have hx:(V/B^(m+1)%d*B+V/B^m%B)/d<B:=by rw[Nat.div_lt_iff_lt_mul hd,Nat.mul_comm B d];exact aaw hB hd V m
 have hq:=aau (B:=B) hd V m
 refine vA hB h hx ?_ ?_ ?_
 ·rw[aax,RK]
 ·rw[Pr hB,hq,Nat.mul_add_mod,Nat.mod_eq_of_lt hx]
 ·rw[Pr hB,Nat.pow_succ,←Nat.div_div_eq_div_mul,Pr hB,hq,Nat.mul_add_div hB,Nat.div_eq_of_lt hx,←Nat.pow_succ];rfl
end Go.Fw
namespace Go.Fw
theorem RM{B v:Nat}(hB:2≤B)(h0:v≠0)(h:v<B):can B v=[v]:=by
 have:=Po hB (l:=[]) h0 (by simpa using h)
 simpa[val]using this.symm
theorem RN{B v:Nat}(hB:2≤B)(h0:v/B≠0)(h:v<B*B):can B v=[v%B,v/B]:=by
 have h1:v/B<B:=by rw[Nat.div_lt_iff_lt_mul (by omega)];exact h
 have h2:v%B<B:=Nat.mod_lt _ (by omega)
 have:=Po hB (l:=[v%B]) h0 (by simp;exact⟨h2,h1⟩)
 simp only[List.cons_append,List.nil_append,val,Nat.mul_zero,Nat.add_zero]at this
 rw[Nat.mod_add_div]at this
 exact this.symm
theorem qc{B:Nat}{l:List Nat}(h:∀x∈l,x<B){i:Nat}(hi:i<l.length):l[i]? =some (val B l/B^i%B):=by
 rw[←qX l h i];simp[List.getD,hi]
def DX(v w:Nat):Int:=if v<w then-1 else if v=w then 0 else 1
theorem yw{v w:Nat}(h:v<w):DX v w=-1:=by simp[DX,h]
theorem F6(v:Nat):DX v v=0:=by simp[DX]
theorem A9{v w:Nat}(h:w<v):DX v w=1:=by
 have h1:¬v<w:=by omega
 have h2:¬v=w:=by omega
 simp[DX,h1,h2]
theorem C3{B v w:Nat}(hB:2≤B)(h:(can B v).length<(can B w).length):v<w:=
 Nat.lt_of_lt_of_le (dL hB v) (wG hB h)
theorem H9(B v m:Nat):v/B^m=B*(v/B^(m+1))+v/B^m%B:=by
 rw[Nat.pow_succ,←Nat.div_div_eq_div_mul,Nat.div_add_mod]
theorem EC{B v w m:Nat}(h:v/B^m<w/B^m):v<w:=by
 rcases Nat.lt_or_ge v w with h1|h1
 ·exact h1
 ·have:=Nat.div_le_div_right (c:=B^m) h1;omega
theorem LM{B v w m:Nat}(h:v/B^(m+1)=w/B^(m+1)):(v/B^m%B=w/B^m%B∧v/B^m=w/B^m)∨(v/B^m%B<w/B^m%B∧v<w)∨(w/B^m%B<v/B^m%B∧w<v):=by
 have h1:=H9 B v m
 have h2:=H9 B w m
 rw[←h]at h2
 rcases Nat.lt_trichotomy (v/B^m%B) (w/B^m%B)with h3|h3|h3
 ·exact .inr (.inl ⟨h3,EC (B:=B) (m:=m) (by omega)⟩)
 ·exact .inl ⟨h3,by omega⟩
 ·exact .inr (.inr ⟨h3,EC (B:=B) (m:=m) (by omega)⟩)
end Go.Fw
namespace Go.Proofs.YtningmnklfpfjaaGreat
open Go.Fw
theorem Ba(l:List Nat)(hl:l.length≤1000000000000):aD l=some (mg l):=by
 unfold aD
 refine oE (fun y=>y.length≤1000000000000∧mg y=mg l) (fun e=>e=mg l) (fun y=>y.length) ?_ ⟨hl,rfl⟩ (fun e he=>by rw[he])
 rintro y ⟨hy,ht⟩
 rcases xo y with rfl|⟨ys,rfl⟩|⟨ys,x,hx,rfl⟩
 ·right;exact⟨[],by simp[cm],ht⟩
 ·left
  have h1:((ys++[0]).length:Int)=((ys.length+1:Nat):Int):=by simp
  have h2:ys.length≤9223372036854775807:=by simp at hy;omega
  refine⟨ys,?_,⟨by simp at hy⊢;omega,by rw[←ht,sL]⟩,by simp⟩
  simp only[cm,Option.bind_some,h1,HW h2]
  rw[aQ (a:=0) (by simp),oD (by simp)]
  simp
 ·right
  have h1:((ys++[x]).length:Int)=((ys.length+1:Nat):Int):=by simp
  have h2:ys.length≤9223372036854775807:=by simp at hy;omega
  refine⟨ys++[x],?_,by rw[←ht,xn _ hx]⟩
  simp only[cm,Option.bind_some,h1,HW h2]
  rw[aQ (a:=x) (by simp)]
  simp[hx]
def zc(n:Bool)(v:Nat):Zr:=⟨n&&v != 0,can 4294967296 v⟩
theorem Ku(n:Bool):zc n 0=⟨false,[]⟩:=by simp[zc,uU]
theorem Ps(n:Bool){v:Nat}(h:v≠0):zc n v=⟨n,can 4294967296 v⟩:=by simp[zc,h]
def Gq(l:List Nat):Prop:=(∀x∈l,x<4294967296)∧l.length≤100000000000
abbrev vl(l:List Nat):Nat:=val 4294967296 l
theorem kH(n:Bool)(l:List Nat)(h:Gq l):bJ n l=some (zc n (vl l)):=by
 unfold bJ
 rw[Ba l (by have:=h.2;omega),qW (by decide) h.1]
 show _=some (zc n (val 4294967296 l))
 by_cases hz:val 4294967296 l=0
 ·rw[hz,Ku];simp[uU]
 ·have:can 4294967296 (val 4294967296 l)≠[]:=fun e=>hz (F2 (by decide) e)
  rw[Ps _ hz];simp[this]
theorem qY(n:Bool)(v:Nat)(h:v<18446744073709551616):dw n v=some (zc n v):=by
 unfold dw
 by_cases hz:v=0
 ·subst hz;simp[Ku]
 ·rw[Ps _ hz]
  by_cases h1:v/2^32=0
  ·rw[RM (by decide) hz (by omega)]
   simp only[Option.bind_some,hz,h1,decide_false,decide_true,cond_false,cond_true]
   rw[Nat.mod_eq_of_lt (by omega)]
  ·rw[RN (by decide) (by omega) (by omega)]
   simp only[Option.bind_some,hz,h1,decide_false,cond_false]
   rw[Nat.mod_eq_of_lt (a:=v/2^32) (by omega)]
theorem Pt{a b s:Nat}(h:a<2^s):a ||| b*2^s=a+b*2^s:=by
 rw[Nat.or_comm,Nat.mul_comm b,←Nat.two_pow_add_eq_or_of_lt h,Nat.add_comm]
theorem low_eq(l:List Nat)(h:∀x∈l,x<4294967296)(hl:l.length≤2):dj l=some (vl l):=by
 rcases l with _|⟨x,_|⟨y,_|⟨z,l⟩⟩⟩
 ·simp[dj,vl,val]
 ·have hx:=h x (by simp)
  simp only[dj,zI (l:=[x]) (a:=x) rfl]
  simp[vl,val];omega
 ·have hx:=h x (by simp)
  have hy:=h y (by simp)
  simp only[dj,zI (l:=[x,y]) (a:=x) rfl,Pj (l:=[x,y]) (a:=y) rfl,Option.bind_some]
  rw[Nat.mod_eq_of_lt (a:=x) (by omega),Nat.mod_eq_of_lt (a:=y) (by omega),Nat.mod_eq_of_lt (a:=y*2^32) (by omega),Pt (by omega),Nat.mod_eq_of_lt (by omega)]
  simp[vl,val];omega
 ·simp at hl
theorem g9(x c:Nat)(h:x+c<18446744073709551616):bn x c=some ((x+c)%4294967296,(x+c)/4294967296):=by
 simp[bn,Nat.mod_eq_of_lt h]
theorem kL(v w:Nat)(hv:(can 4294967296 v).length≤100000000000)(hw:(can 4294967296 w).length≤100000000000):cI (can 4294967296 v) (can 4294967296 w)=some (DX v w):=by
 unfold cI
 rcases Nat.lt_trichotomy (can 4294967296 v).length (can 4294967296 w).length with hl|hl|hl
 ·rw[yw (C3 (by decide) hl)]
  simp only[Option.bind_some]
  rw[show decide (((can 4294967296 v).length:Int)≠((can 4294967296 w).length:Int))=true by simp;omega,show decide (((can 4294967296 v).length:Int)<((can 4294967296 w).length:Int))=true by simp;omega];rfl
 ·simp only[Option.bind_some]
  rw[show decide (((can 4294967296 v).length:Int)≠((can 4294967296 w).length:Int))=false by simp;omega,cond_false]
  refine oE (fun y=>∃n:Nat,y=(n:Int)-1∧n≤(can 4294967296 v).length∧v/4294967296^n=w/4294967296^n) (fun e=>e=(if v=w then .inl ()else .inr (DX v w))) (fun y=>(y+1).toNat) ?_ ⟨(can 4294967296 v).length,?_,Nat.le_refl _,?_⟩ ?_
  ·rintro y ⟨n,rfl,hn,he⟩
   cases n with
   |zero=>
    right
    have:v=w:=by simpa using he
    subst this
    exact⟨_,by simp,rfl⟩
   |succ m=>
    have Gj:=F3 (B:=4294967296) (by decide) (v:=v) (j:=m) (by omega)
    have hgw:=F3 (B:=4294967296) (by decide) (v:=w) (j:=m) (by omega)
    have e0:((m+1:Nat):Int)-1=(m:Int):=by omega
    rw[e0]
    rcases LM he with⟨h1,h2⟩|⟨h1,h2⟩|⟨h1,h2⟩
    ·left
     refine⟨(m:Int)-1,?_,⟨m,rfl,by omega,h2⟩,by omega⟩
     simp only[Option.bind_some,aQ Gj,aQ hgw,h1]
     rw[cq (by omega) (by omega)]
     simp
    ·right
     refine⟨.inr (-1),?_,by rw[if_neg (by omega),yw h2]⟩
     simp only[Option.bind_some,aQ Gj,aQ hgw]
     simp[h1,Nat.ne_of_lt h1]
    ·right
     refine⟨.inr 1,?_,by rw[if_neg (by omega),A9 h2]⟩
     simp only[Option.bind_some,aQ Gj,aQ hgw]
     simp[Nat.not_lt_of_lt h1,Nat.ne_of_gt h1]
  ·rw[cq (by omega) (by omega)]
  ·rw[C2 (by decide) (Nat.le_refl _),C2 (by decide) (by omega)]
  ·rintro e rfl
   by_cases h:v=w
   ·subst h;simp[F6]
   ·simp[h]
 ·rw[A9 (C3 (by decide) hl)]
  simp only[Option.bind_some]
  rw[show decide (((can 4294967296 v).length:Int)≠((can 4294967296 w).length:Int))=true by simp;omega,show decide (((can 4294967296 v).length:Int)<((can 4294967296 w).length:Int))=false by simp;omega];rfl
theorem Bb{l:List Nat}(h:∀x∈l,x<4294967296)(i:Nat):l.getD i 0<4294967296:=by
 rcases Nat.lt_or_ge i l.length with hi|hi
 ·exact h _ (List.mem_of_getElem? (tN hi))
 ·rw[wQ hi];decide
theorem z9(a b:List Nat)(ha:Gq a)(hb:Gq b):c9 a b=some (fM 4294967296 (max a.length b.length+1) (vl a+vl b)):=by
 obtain⟨hA,hla⟩:=ha
 obtain⟨hB,hlb⟩:=hb
 have hV:val 4294967296 a<4294967296^(max a.length b.length):=Nat.lt_of_lt_of_le (jo a hA) (Nat.pow_le_pow_right (by decide) (by omega))
 have hW:val 4294967296 b<4294967296^(max a.length b.length):=Nat.lt_of_lt_of_le (jo b hB) (Nat.pow_le_pow_right (by decide) (by omega))
 unfold c9
 simp only[Option.bind_some]
 rw[show max (a.length:Int) (b.length:Int)=((max a.length b.length:Nat):Int) by omega,bt (by omega),C0 (by decide) (by omega),Option.bind_some]
 refine mX (fun k=>(Gp 4294967296 (vl a) (vl b) k,fM 4294967296 k (vl a+vl b))) (by simp[H6,fM]) (fun k hk=>?_) ?_
 ·have hx:=Bb hA k
  have hy:=Bb hB k
  have hc:=Ju (B:=4294967296) (by decide) (vl a) (vl b) k
  have hxe:=qX a hA k
  have hye:=qX b hB k
  simp only[Option.bind_some]
  rw[Nat.mod_eq_of_lt (a:=a.getD k 0) (by omega),Nat.mod_eq_of_lt (a:=b.getD k 0) (by omega),Nat.mod_eq_of_lt (a:=a.getD k 0+b.getD k 0) (by omega),g9 _ _ (by omega)]
  simp only[Option.bind_some]
  rw[AI (by decide) (by rw[bp];omega),Option.bind_some,hxe,hye,HZ (by decide),F4 (by decide),←pg]
 ·have hc:=Ju (B:=4294967296) (by decide) (vl a) (vl b) (max a.length b.length)
  simp only
  rw[g9 _ _ (by omega)]
  simp only[Option.bind_some]
  rw[AI (by decide) (by rw[bp];omega),Option.bind_some,Nat.zero_add,RC hV hW,←pg]
theorem Aa(a b:List Nat)(ha:Gq a)(hb:Gq b)(hl:b.length≤a.length)(hle:vl b≤vl a):bZ a b=some (fM 4294967296 a.length (vl a-vl b)):=by
 obtain⟨hA,hla⟩:=ha
 obtain⟨hB,hlb⟩:=hb
 have hmx:max a.length b.length=a.length:=by omega
 unfold bZ
 simp only[Option.bind_some]
 rw[C0 (by decide) (by omega),Option.bind_some,hmx]
 refine mX (fun k=>(AJ 4294967296 (vl a) (vl b) k,fM 4294967296 k (vl a-vl b))) (by simp[H7,fM]) (fun k hk=>?_) rfl
 have hx:=Bb hA k
 have hy:=Bb hB k
 have hc:=Pp (B:=4294967296) (by decide) (vl a) (vl b) k
 have hxe:=qX a hA k
 have hye:=qX b hB k
 simp only[Option.bind_some]
 rw[Nat.mod_eq_of_lt (a:=a.getD k 0) (by omega),Nat.mod_eq_of_lt (a:=b.getD k 0) (by omega),sJ (by omega) (by omega),Nat.mod_eq_of_lt (a:=a.getD k 0+(4294967295-b.getD k 0)) (by omega),g9 _ _ (by omega)]
 simp only[Option.bind_some]
 rw[AI (by decide) (by rw[bp];omega),Option.bind_some,hxe,hye,H8 (B:=4294967296) (by decide),Ko (B:=4294967296) (by decide) hle,←pg]
theorem Ia(a b:List Nat)(ha:Gq a)(hb:Gq b):dO a b=some (fM 4294967296 (a.length+b.length) (vl a*vl b)):=by
 obtain⟨hA,hla⟩:=ha
 obtain⟨hB,hlb⟩:=hb
 unfold dO
 simp only[Option.bind_some]
 rw[vz (by omega),sI (by decide) (by omega),Option.bind_some]
 refine aU (fun i=>((i:Int),fM 4294967296 (a.length+b.length) (vl a%4294967296^i*vl b))) a.length (fM 4294967296 (a.length+b.length) (vl a%4294967296^a.length*vl b)) (by simp[Nat.mod_one,uS]) (fun i hi=>?_) (by simp) (by rw[Nat.mod_eq_of_lt (jo a hA)])
 have hgx:=qc hA hi
 have hx:val 4294967296 a/4294967296^i%4294967296<4294967296:=Nat.mod_lt _ (by decide)
 simp only[Option.bind_some,show decide ((i:Int)<(a.length:Int))=true by simp;omega,cond_true]
 rw[aQ hgx,Option.bind_some]
 refine aU (fun k=>((k:Int),mC 4294967296 (vl a) (vl b) i k,fM 4294967296 (a.length+b.length) (mV 4294967296 (vl a) (vl b) i k))) b.length (mC 4294967296 (vl a) (vl b) i b.length,fM 4294967296 (a.length+b.length) (mV 4294967296 (vl a) (vl b) i b.length)) (by simp[RH,RG]) (fun k hk=>?_) (by simp) ?_
 ·have hgy:=qc hB hk
  have hgp:=W7 (B:=4294967296) (by decide) (V:=vl a) (W:=vl b) (i:=i) (k:=k) (N:=a.length+b.length) (by omega)
  have hy:val 4294967296 b/4294967296^k%4294967296<4294967296:=Nat.mod_lt _ (by decide)
  have hp:vl a%4294967296^i*vl b/4294967296^(i+k)%4294967296<4294967296:=Nat.mod_lt _ (by decide)
  have hc:=TN (B:=4294967296) (by decide) (vl a) (vl b) i k
  have hxy:val 4294967296 a/4294967296^i%4294967296*(val 4294967296 b/4294967296^k%4294967296)≤4294967295*4294967295:=Nat.mul_le_mul (by omega) (by omega)
  simp only[Option.bind_some,show decide ((k:Int)<(b.length:Int))=true by simp;omega,cond_true]
  rw[aQ hgy,Option.bind_some,vz (by omega),cg (by rw[bp];omega),Option.bind_some,hgp,Option.bind_some]
  rw[Nat.mod_eq_of_lt (a:=vl a%4294967296^i*vl b/4294967296^(i+k)%4294967296) (by omega),Nat.mod_eq_of_lt (a:=val 4294967296 a/4294967296^i%4294967296) (b:=18446744073709551616) (by omega),Nat.mod_eq_of_lt (a:=val 4294967296 b/4294967296^k%4294967296) (b:=18446744073709551616) (by omega),Nat.mod_eq_of_lt (a:=val 4294967296 a/4294967296^i%4294967296*(val 4294967296 b/4294967296^k%4294967296)) (by omega),Nat.mod_eq_of_lt (a:=vl a%4294967296^i*vl b/4294967296^(i+k)%4294967296+_) (by omega),g9 _ _ (by omega)]
  simp only[Option.bind_some]
  rw[fL (by rw[bp];omega),Option.bind_some,RE (B:=4294967296) (by decide),RF (B:=4294967296) (by decide) (by omega),bt (by omega)]
 ·have hc:=TN (B:=4294967296) (by decide) (vl a) (vl b) i b.length
  simp only[Option.bind_some]
  rw[vz (by omega),g9 _ _ (by omega)]
  simp only[Option.bind_some]
  rw[cg (by rw[bp];omega),Option.bind_some,fL (by rw[bp];omega),Option.bind_some,W8 (B:=4294967296) (by decide) (jo b hB) (by omega),bt (by omega)]
end Go.Proofs.YtningmnklfpfjaaGreat
namespace Go.Proofs.YtningmnklfpfjaaGreat
open Go.Fw
theorem RO{a b s:Nat}(h:a<2^s):b*2^s ||| a=b*2^s+a:=by rw[Nat.or_comm,Pt h,Nat.add_comm]
theorem Kv{a b:Nat}(h:a<4294967296):b*4294967296 ||| a=b*4294967296+a:=RO (s:=32) h
theorem Ib(a:List Nat)(d:Nat)(ha:Gq a)(hd:0<d)(hd2:d≤4294967296):ig a d=some (vl a%d,fM 4294967296 a.length (vl a/d)):=by
 obtain⟨hA,hla⟩:=ha
 unfold ig
 simp only[Option.bind_some]
 rw[cq (by omega) (by omega)]
 refine aU (fun i=>(vl a/4294967296^(a.length-i)%d,((a.length-i:Nat):Int)-1,fM 4294967296 a.length (qU 4294967296 (vl a) d (a.length-i)))) a.length (vl a%d,fM 4294967296 a.length (vl a/d)) ?_ (fun i hi=>?_) (by simp[RI]) ?_
 ·simp only[Nat.sub_zero]
  rw[Xa (jo a hA),A8 a hA,Nat.div_eq_of_lt (jo a hA),Nat.zero_mod]
 ·obtain⟨m,hm⟩:∃m,a.length-i=m+1:=⟨a.length-i-1,by omega⟩
  have hm':a.length-(i+1)=m:=by omega
  have hml:m<a.length:=by omega
  rw[hm,hm']
  have hy:vl a/4294967296^m%4294967296<4294967296:=Nat.mod_lt _ (by decide)
  have hr:vl a/4294967296^(m+1)%d<d:=Nat.mod_lt _ hd
  have hq:=aaw (B:=4294967296) (by decide) hd (vl a) m
  have hqd:(vl a/4294967296^(m+1)%d*4294967296+vl a/4294967296^m%4294967296)/d<4294967296:=by rw[Nat.div_lt_iff_lt_mul hd,Nat.mul_comm 4294967296 d];exact hq
  have hg:=Xb (B:=4294967296) (by decide) (V:=vl a) (d:=d) (m:=m) (N:=a.length) hml
  have hlt:vl a/4294967296^(m+1)%d*4294967296+vl a/4294967296^m%4294967296<18446744073709551616:=by omega
  have XV:vl a/4294967296^(m+1)%d*4294967296<18446744073709551616:=Nat.lt_of_le_of_lt (Nat.le_add_right _ _) hlt
  have Dq:vl a/4294967296^m%4294967296<18446744073709551616:=Nat.lt_of_le_of_lt (Nat.le_add_left _ _) hlt
  have hi1:((m+1:Nat):Int)-1=(m:Int):=by omega
  simp only[hi1,show decide ((0:Int)≤(m:Int))=true by simp,cond_true,Option.bind_some]
  rw[cg (by rw[bp];omega),Option.bind_some,hg]
  simp only[Option.bind_some]
  rw[show(2:Nat)^32=4294967296 from rfl]
  rw[Nat.mod_eq_of_lt (a:=vl a/4294967296^(m+1)%d*4294967296) XV,Nat.mod_eq_of_lt (a:=vl a/4294967296^m%4294967296) (b:=18446744073709551616) Dq,Kv hy,Nat.mod_eq_of_lt (a:=vl a/4294967296^(m+1)%d*4294967296+vl a/4294967296^m%4294967296) hlt,FZ (by omega) hlt,A7 (by omega)]
  simp only[Option.bind_some]
  rw[Nat.mod_eq_of_lt (b:=4294967296) (a:=(vl a/4294967296^(m+1)%d*4294967296+vl a/4294967296^m%4294967296)/d) hqd,fL (by rw[bp];omega),Option.bind_some,cq (by omega) (by omega)]
  rw[RL (B:=4294967296) (by decide) hd hml,←aav (B:=4294967296) (d:=d) (vl a) m]
 ·simp only
  rw[qV (by rw[bp]),Option.bind_some]
theorem shiftLeft_eq(a:List Nat)(s:Nat)(ha:Gq a)(hs:s<32):fk a s=some (fM 4294967296 (a.length+1) (vl a*2^s)):=by
 obtain⟨hA,hla⟩:=ha
 have hf:2^s<4294967296:=by
  have:2^s<2^32:=Nat.pow_lt_pow_right (by decide) hs
  omega
 unfold fk
 simp only[Option.bind_some]
 rw[bt (by omega),C0 (by decide) (by omega),Option.bind_some]
 refine aU (fun i=>((i:Int),sC 4294967296 (vl a) (2^s) 0 i,fM 4294967296 i (vl a*2^s+0))) a.length (sC 4294967296 (vl a) (2^s) 0 a.length,fM 4294967296 a.length (vl a*2^s+0)) (by simp[Kr,fM]) (fun i hi=>?_) (by simp) ?_
 ·have hx:vl a/4294967296^i%4294967296<4294967296:=Nat.mod_lt _ (by decide)
  have hc:=TP (B:=4294967296) (by decide) (V:=vl a) hf (show(0:Nat)<4294967296 by decide) i
  have hxf:vl a/4294967296^i%4294967296*2^s≤4294967295*4294967295:=Nat.mul_le_mul (by omega) (by omega)
  have hg:a[i]? =some (vl a/4294967296^i%4294967296):=qc hA hi
  simp only[show decide ((i:Int)<(a.length:Int))=true by simp;omega,cond_true]
  rw[aQ hg]
  simp only[Option.bind_some]
  rw[show min s 64=s by omega,Nat.mod_eq_of_lt (a:=vl a/4294967296^i%4294967296) (b:=18446744073709551616) (by omega),Nat.mod_eq_of_lt (b:=18446744073709551616) (by omega),g9 _ _ (by omega)]
  simp only[Option.bind_some]
  rw[AI (by decide) (by rw[bp];omega),Option.bind_some,Kt (B:=4294967296) (by decide),Pq (B:=4294967296) (by decide),bt (by omega),←pg]
 ·have hc:=TP (B:=4294967296) (by decide) (V:=vl a) hf (show(0:Nat)<4294967296 by decide) a.length
  simp only
  rw[g9 _ _ (by omega)]
  simp only[Option.bind_some]
  rw[AI (by decide) (by rw[bp];omega),Option.bind_some,Nat.zero_add,W9 (jo a hA),←pg]
  simp
theorem DY(a:List Nat)(s:Nat):iE a s=fk a s:=rfl
def xp:Qb:=[0,1,2,2,3,3,3,3,4,4,4,4,4,4,4,4,5,5,5,5,5,5,5,5,5,5,5,5,5,5,5,5]++List.replicate 32 6++List.replicate 64 7++List.replicate 128 8
theorem Xc:∀y:Nat,y<256→wc xp (y:Int)=some ((wc xp (y:Int)).getD 0)∧(wc xp (y:Int)).getD 0≤8∧y<2^(wc xp (y:Int)).getD 0∧(y=0∨2^(wc xp (y:Int)).getD 0≤2*y):=by decide+kernel
set_option maxRecDepth 20000 in
theorem Pu(x:Nat)(h:x<4294967296):∃n:Nat,gI x=some (n:Int)∧n≤32∧x<2^n∧(x=0∨2^n≤2*x):=by
 have key:∀(y k:Nat),y<256→y=x/2^k→k≤24→(x≠0→y≠0)→∃n:Nat,(((wc xp ((y%256:Nat):Int)).bind fun gu=>(some (IntKind.i64.wrap (gu:Int))).bind fun eT=>(some (IntKind.i64.wrap ((k:Int)+eT))).bind fun ek=>some ek)=some (n:Int))∧n≤32∧x<2^n∧(x=0∨2^n≤2*x):=by
  intro y k hy hyx hk hnz
  obtain⟨h1,h2,h3,h4⟩:=Xc y hy
  rw[Nat.mod_eq_of_lt hy,h1]
  generalize (wc xp (y:Int)).getD 0=t at*
  have hp:0<2^k:=Nat.two_pow_pos _
  have e1:2^(k+t)=2^k*2^t:=Nat.pow_add ..
  have e2:=Nat.div_add_mod x (2^k)
  have e3:=Nat.mod_lt x hp
  rw[←hyx]at e2
  refine⟨k+t,?_,by omega,?_,?_⟩
  ·simp only[Option.bind_some]
   rw[vw (by omega),vz (by omega)]
  ·rw[e1]
   have:2^k*(y+1)≤2^k*2^t:=Nat.mul_le_mul_left _ h3
   rw[Nat.mul_add]at this
   omega
  ·rcases h4 with h4|h4
   ·left
    cases Nat.eq_zero_or_pos x with
    |inl h=>exact h
    |inr h=>exact absurd h4 (hnz (by omega))
   ·right
    rw[e1]
    have:2^k*2^t≤2^k*(2*y):=Nat.mul_le_mul_left _ h4
    rw[show 2^k*(2*y)=2*(2^k*y) by rw[Nat.mul_left_comm]]at this
    omega
 unfold gI
 simp only[cm,Option.bind_some]
 by_cases c1:65536≤x
 ·rw[show decide (65536≤x)=true by simpa using c1]
  simp only[cond_true]
  by_cases c2:256≤x/2^16
  ·rw[show decide (256≤x/2^16)=true by simpa using c2]
   simp only[cond_true]
   rw[show IntKind.i64.wrap (16+8)=((24:Nat):Int) by decide]
   exact key (x/2^16/2^8) 24 (by omega) (by omega) (by omega) (by omega)
  ·rw[show decide (256≤x/2^16)=false by simpa using c2]
   simp only[cond_false]
   exact key (x/2^16) 16 (by omega) rfl (by omega) (by omega)
 ·rw[show decide (65536≤x)=false by simpa using c1]
  simp only[cond_false]
  by_cases c2:256≤x
  ·rw[show decide (256≤x)=true by simpa using c2]
   simp only[cond_true]
   rw[show IntKind.i64.wrap (0+8)=((8:Nat):Int) by decide]
   exact key (x/2^8) 8 (by omega) rfl (by omega) (by omega)
  ·rw[show decide (256≤x)=false by simpa using c2]
   simp only[cond_false]
   exact key x 0 (by omega) (by simp) (by omega) (fun h=>h)
theorem aay(x:Nat)(h:x<4294967296)(h0:x≠0):∃s:Nat,cZ x=some (s:Int)∧s<32∧2147483648≤x*2^s∧x*2^s<4294967296:=by
 obtain⟨n,h1,h2,h3,h4⟩:=Pu x h
 have h4:2^n≤2*x:=h4.resolve_left h0
 have hn:n≠0:=by rintro rfl;simp at h3;omega
 refine⟨32-n,?_,by omega,?_,?_⟩
 ·unfold cZ
  rw[h1]
  simp only[Option.bind_some]
  rw[cq (by omega) (by omega)]
  congr 1;omega
 ·have:2^n*2^(32-n)≤2*x*2^(32-n):=Nat.mul_le_mul_right _ h4
  rw[←Nat.pow_add,show n+(32-n)=32 by omega,Nat.mul_assoc]at this
  omega
 ·have:x*2^(32-n)<2^n*2^(32-n):=Nat.mul_lt_mul_of_pos_right h3 (Nat.two_pow_pos _)
  rw[←Nat.pow_add,show n+(32-n)=32 by omega]at this
  omega
end Go.Proofs.YtningmnklfpfjaaGreat
namespace Go.Fw
section aaz
variable {B V U W:Nat}
theorem Xd{P F T:Nat}(hP:0<P)(hF:0<F)(hV:F*P≤V)(hU:U<(T+1)*P):U/V≤T/F:=by
 have Xe:0<V:=Nat.lt_of_lt_of_le (Nat.mul_pos hF hP) hV
 rw[Nat.le_div_iff_mul_le hF]
 rcases Nat.lt_or_ge T (U/V*F)with h|h
 ·exfalso
  have h1:U/V*V≤U:=Nat.div_mul_le_self U V
  have h2:U/V*(F*P)≤U/V*V:=Nat.mul_le_mul_left _ hV
  have h3:(T+1)*P≤U/V*F*P:=Nat.mul_le_mul_right _ h
  rw[Nat.mul_assoc]at h3
  omega
 ·exact h
theorem RQ{P F S T u g r:Nat}(hV:(F*B+S)*P≤V)(hU:U<(T*B+u+1)*P)(YC:g*F+r=T)(h:r*B+u<g*S):U<g*V:=by
 have h1:g*((F*B+S)*P)≤g*V:=Nat.mul_le_mul_left _ hV
 have h2:(T*B+u+1)*P≤g*(F*B+S)*P:=by
  apply Nat.mul_le_mul_right
  rw[Nat.mul_add,←Nat.mul_assoc,←YC,Nat.add_mul]
  omega
 rw[Nat.mul_assoc]at h2
 omega
theorem Xf{P V2 U2 g:Nat}(hV:V<(V2+1)*P)(hU:U2*P≤U)(hq:U/V<B)(hB:B≤V2)(Xe:0<V)(h:g*V2≤U2):g≤U/V+1:=by
 rcases Nat.lt_or_ge (U/V+1) g with h'|h'
 ·exfalso
  have h1:U<(U/V+1)*V:=by have:=Nat.lt_div_mul_add (a:=U) Xe;rw[Nat.add_mul,Nat.one_mul];exact this
  have h2:(U/V+1)*V≤(U/V+1)*((V2+1)*P):=Nat.mul_le_mul_left _ (Nat.le_of_lt hV)
  have h3:g*V2*P≤U2*P:=Nat.mul_le_mul_right _ h
  have h4:(U/V+2)*V2≤g*V2:=Nat.mul_le_mul_right _ h'
  have h5:(U/V+2)*V2*P≤g*V2*P:=Nat.mul_le_mul_right _ h4
  have h6:(U/V+1)*((V2+1)*P)≤(U/V+2)*V2*P:=by
   rw[←Nat.mul_assoc]
   apply Nat.mul_le_mul_right
   rw[Nat.mul_add,Nat.add_mul (U/V) 2 V2,Nat.add_mul (U/V) 1 V2]
   omega
  omega
 ·exact h'
end aaz
def mix(B o i X U A:Nat):Nat:=A%B^o+B^o*(X%B^i+B^i*(U/B^i))
theorem Kw(B o i X U A:Nat):mix B o i X U A%B^o=A%B^o:=by rw[mix,Nat.add_mul_mod_self_left,Nat.mod_mod]
section mix
variable {B:Nat}(hB:0<B)(o i X U A:Nat)
include hB
theorem yx:mix B o i X U A/B^o=X%B^i+B^i*(U/B^i):=by
 rw[mix,Nat.add_mul_div_left _ _ (Nat.pow_pos hB),Nat.div_eq_of_lt (Nat.mod_lt _ (Nat.pow_pos hB)),Nat.zero_add]
theorem yy:mix B o i X U A/B^(o+i)=U/B^i:=by
 rw[Nat.pow_add,←Nat.div_div_eq_div_mul,yx hB,Nat.add_mul_div_left _ _ (Nat.pow_pos hB),Nat.div_eq_of_lt (Nat.mod_lt _ (Nat.pow_pos hB)),Nat.zero_add]
theorem RR:mix B o i X U A%B^(o+i)=A%B^o+B^o*(X%B^i):=by
 rw[Nat.pow_add,Nat.mod_mul,Kw,yx hB,Nat.add_mul_mod_self_left,Nat.mod_mod]
theorem F7{N:Nat}(h:o+i<N):(fM B N (mix B o i X U A)).set (o+i) (X/B^i%B)=fM B N (mix B o (i+1) X U A):=by
 apply vA hB h (Nat.mod_lt _ hB)
 ·rw[RR hB,Nat.pow_add,Nat.mod_mul,Kw,yx hB,Nat.pow_succ B i,Nat.mul_assoc,Nat.add_mul_mod_self_left,Nat.mod_mul,Nat.add_mul_mod_self_left,Nat.mod_mod]
 ·rw[Nat.pow_add,←Nat.div_div_eq_div_mul,yx hB,Nat.pow_succ B i,Nat.mod_mul,Nat.mul_assoc,Nat.add_assoc,←Nat.mul_add,Nat.add_mul_div_left _ _ (Nat.pow_pos hB),Nat.div_eq_of_lt (Nat.mod_lt _ (Nat.pow_pos hB)),Nat.zero_add,Nat.add_mul_mod_self_left,Nat.mod_mod]
 ·have h1:=yy hB o (i+1) X U A
  have h2:=yy hB o i X U A
  rw[show o+i+1=o+(i+1) by omega,h1,show o+(i+1)=(o+i)+1 by omega,Nat.pow_succ B (o+i),←Nat.div_div_eq_div_mul,h2,Nat.pow_succ,←Nat.div_div_eq_div_mul]
end mix
theorem Ic{B o m X U A:Nat}(hU:U<B^m):mix B o m X U A=A%B^o+B^o*(X%B^m):=by rw[mix,Nat.div_eq_of_lt hU];simp
theorem Ie{B:Nat}(o X A:Nat):mix B o 0 X (A/B^o) A=A:=by
 simp only[mix,Nat.pow_zero,Nat.mod_one,Nat.zero_add,Nat.one_mul,Nat.div_one]
 exact Nat.mod_add_div A (B^o)
theorem LN{B U U' T i:Nat}(h:U%B^i=U'%B^i):AJ B U T i=AJ B U' T i:=by rw[AJ,AJ,h]
theorem Pw{B:Nat}(hB:0<B){U T m i:Nat}(hi:i<m)(hT:T≤U+B^m):(U/B^i%B+(B-1-T/B^i%B)+AJ B U T i)%B=(U+B^m-T)/B^i%B:=by
 have e:B^m=B^i*(B*B^(m-i-1)):=by rw[←Nat.pow_succ',←Nat.pow_add];congr 1;omega
 have h1:(U+B^m)%B^i=U%B^i:=by rw[e,Nat.add_mul_mod_self_left]
 have h2:(U+B^m)/B^i%B=U/B^i%B:=by rw[e,Nat.add_mul_div_left _ _ (Nat.pow_pos hB),Nat.add_mul_mod_self_left]
 rw[←h2,LN (U':=U+B^m) h1.symm,Ko hB hT]
theorem RU{B m U T:Nat}(hB:0<B)(hU:U<B^m)(hT:T<B^m):AJ B U T m=if U<T then 0 else 1:=by
 rw[AJ,Nat.mod_eq_of_lt hU,Nat.mod_eq_of_lt hT]
 have hp:0<B^m:=Nat.pow_pos hB
 split
 ·exact Nat.div_eq_of_lt (by omega)
 ·rw[show U+B^m-T=(U-T)+B^m by omega,Nat.add_div_right _ hp,Nat.div_eq_of_lt (by omega)]
end Go.Fw
namespace Go.Proofs.YtningmnklfpfjaaGreat
open Go.Fw
theorem nL{N A j:Nat}(h:j<N):(fM 4294967296 N A)[j]? =some (A/4294967296^j%4294967296):=yu N A j h
theorem two32:(2:Nat)^32=4294967296:=rfl
theorem aaA:(2:Nat)^63=9223372036854775808:=rfl
theorem F8(A o j:Nat):A/4294967296^(o+j)=A/4294967296^o/4294967296^j:=by rw[Nat.pow_add,Nat.div_div_eq_div_mul]
theorem Ig{N A o n:Nat}{v:List Nat}(hv:Gq v)(hn:v.length=n+2)(hN:N≤100000000001)(ho:o+(n+2)<N)
  (hU:A/4294967296^o<4294967296*vl v) (Px:2147483648*4294967296^(n+1)≤vl v):
  ∃r,ij (fM 4294967296 N A) o (n+3) v=some r∧r.2=fM 4294967296 N A∧A/4294967296^o/vl v≤r.1∧r.1≤A/4294967296^o/vl v+1:=by
 obtain⟨hV,hlv⟩:=hv
 obtain⟨U,Qk⟩:∃U,A/4294967296^o=U:=⟨_,rfl⟩
 obtain⟨V,Ql⟩:∃V,vl v=V:=⟨_,rfl⟩
 have AK:V<4294967296^(n+2):=by rw[←Ql,←hn];exact jo v hV
 have TS:0<4294967296^(n+1):=Nat.pow_pos (by decide)
 have hP:0<4294967296^n:=Nat.pow_pos (by decide)
 have Xg:4294967296^(n+1)=4294967296^n*4294967296:=Nat.pow_succ ..
 have Ih:4294967296^(n+2)=4294967296^(n+1)*4294967296:=Nat.pow_succ ..
 rw[Qk,Ql]at hU⊢
 rw[Ql]at Px
 have aaB:U<4294967296^(n+1)*4294967296*4294967296:=by
  have:4294967296*V<4294967296*4294967296^(n+2):=Nat.mul_lt_mul_of_pos_left AK (by decide)
  rw[Ih]at this
  omega
 obtain⟨F,hF⟩:∃F,V/4294967296^(n+1)=F:=⟨_,rfl⟩
 obtain⟨S,hS⟩:∃S,V/4294967296^n%4294967296=S:=⟨_,rfl⟩
 obtain⟨T,hT⟩:∃T,U/4294967296^(n+1)=T:=⟨_,rfl⟩
 obtain⟨u,hu⟩:∃u,U/4294967296^n%4294967296=u:=⟨_,rfl⟩
 have afZ:F<4294967296:=by rw[←hF,Nat.div_lt_iff_lt_mul TS];rw[Ih,Nat.mul_comm]at AK;exact AK
 have aiA:2147483648≤F:=by rw[←hF,Nat.le_div_iff_mul_le TS];exact Px
 have aiB:S<4294967296:=by rw[←hS];exact Nat.mod_lt _ (by decide)
 have aaC:u<4294967296:=by rw[←hu];exact Nat.mod_lt _ (by decide)
 have af0:T<4294967296*4294967296:=by rw[←hT,Nat.div_lt_iff_lt_mul TS];rw[Nat.mul_comm,←Nat.mul_assoc];exact aaB
 have hV2:V/4294967296^n=F*4294967296+S:=by rw[←hF,←hS,Xg,←Nat.div_div_eq_div_mul,Nat.mul_comm,Nat.div_add_mod]
 have hU2:U/4294967296^n=T*4294967296+u:=by rw[←hT,←hu,Xg,←Nat.div_div_eq_div_mul,Nat.mul_comm,Nat.div_add_mod]
 have hq:U/V<4294967296:=by rw[Nat.div_lt_iff_lt_mul (by omega)];exact hU
 have aaD:(F*4294967296+S)*4294967296^n≤V:=by rw[←hV2];exact Nat.div_mul_le_self _ _
 have aaE:V<(F*4294967296+S+1)*4294967296^n:=by rw[←hV2,Nat.add_mul,Nat.one_mul];exact Nat.lt_div_mul_add hP
 have aaF:(T*4294967296+u)*4294967296^n≤U:=by rw[←hU2];exact Nat.div_mul_le_self _ _
 have aaG:U<(T*4294967296+u+1)*4294967296^n:=by rw[←hU2,Nat.add_mul,Nat.one_mul];exact Nat.lt_div_mul_add hP
 have TT:F*4294967296^(n+1)≤V:=by rw[←hF];exact Nat.div_mul_le_self _ _
 have TU:U<(T+1)*4294967296^(n+1):=by rw[←hT,Nat.add_mul,Nat.one_mul];exact Nat.lt_div_mul_add TS
 have TV:V<(F+1)*4294967296^(n+1):=by rw[←hF,Nat.add_mul,Nat.one_mul];exact Nat.lt_div_mul_add TS
 have hTF:T<4294967296*(F+1):=by
  rw[←hT,Nat.div_lt_iff_lt_mul TS]
  have:4294967296*V<4294967296*((F+1)*4294967296^(n+1)):=Nat.mul_lt_mul_of_pos_left TV (by decide)
  rw[Nat.mul_assoc]
  omega
 have g1:(fM 4294967296 N A)[o+(n+2)]? =some (U/4294967296^(n+2)%4294967296):=by rw[nL (by omega),F8,Qk]
 have g2:(fM 4294967296 N A)[o+(n+1)]? =some (U/4294967296^(n+1)%4294967296):=by rw[nL (by omega),F8,Qk]
 have g3:(fM 4294967296 N A)[o+n]? =some u:=by rw[nL (by omega),F8,Qk,hu]
 have g4:v[n+1]? =some F:=by rw[qc hV (by omega),show val 4294967296 v=V from Ql,hF,Nat.mod_eq_of_lt afZ]
 have g5:v[n]? =some S:=by rw[qc hV (by omega),show val 4294967296 v=V from Ql,hS]
 have hun:U/4294967296^(n+2)<4294967296:=by rw[Ih,←Nat.div_div_eq_div_mul,hT,Nat.div_lt_iff_lt_mul (by decide)];exact af0
 have Jw:U/4294967296^(n+2)%4294967296*4294967296+U/4294967296^(n+1)%4294967296=T:=by
  rw[Nat.mod_eq_of_lt hun,Ih,←Nat.div_div_eq_div_mul,hT,Nat.mul_comm,Nat.div_add_mod]
 obtain⟨t1,ht1⟩:∃t,U/4294967296^(n+2)%4294967296=t:=⟨_,rfl⟩
 obtain⟨t2,ht2⟩:∃t,U/4294967296^(n+1)%4294967296=t:=⟨_,rfl⟩
 have l1:t1<4294967296:=by rw[←ht1];exact Nat.mod_lt _ (by decide)
 have l2:t2<4294967296:=by rw[←ht2];exact Nat.mod_lt _ (by decide)
 rw[ht1]at g1 Jw
 rw[ht2]at g2 Jw
 clear ht1 ht2 hU2 hV2
 have c1:((n+2:Nat):Int)-1=((n+1:Nat):Int):=by omega
 have c2:((n+2:Nat):Int)-2=(n:Int):=by omega
 unfold ij
 simp only[Option.bind_some,hn,c1,c2]
 rw[vw (by omega),vw (by omega),A6 (by omega),A6 (by omega),A6 (by omega)]
 simp only[Option.bind_some]
 rw[g1,g2,aQ g4,aQ g5]
 simp only[Option.bind_some,two32]
 rw[Nat.mod_eq_of_lt (a:=t1) (by omega),Nat.mod_eq_of_lt (a:=t2) (by omega),Nat.mod_eq_of_lt (a:=t1*4294967296) (by omega),Kv l2,Jw,Nat.mod_eq_of_lt (a:=T) (by omega),Nat.mod_eq_of_lt (a:=F) (by omega),Nat.mod_eq_of_lt (a:=S) (by omega),FZ (by omega) (by omega),A7 (by omega)]
 simp only[Option.bind_some]
 have af5:=Xd (V:=V) (U:=U) TS (show 0<F by omega) TT TU
 have hle:∀g,g*(F*4294967296+S)≤T*4294967296+u→g≤U/V+1:=fun g h=>Xf (B:=4294967296) aaE aaF hq (by omega) (by omega) h
 have af6:∀g r,g*F+r=T→r*4294967296+u<g*S→U/V<g:=fun g r i1 ht=>(Nat.div_lt_iff_lt_mul (by omega)).2 (RQ aaD aaG i1 ht)
 have hg0:T/F≤4294967297:=by
  have:T/F<4294967298:=by
   rw[Nat.div_lt_iff_lt_mul (by omega)]
   omega
  omega
 generalize U/V=q at*
 clear aaD aaE aaF aaG TT TU TV hTF aaB Px AK Xg Ih hP TS hF hS hT hu Qk Ql hU
 have hdm:=Nat.div_add_mod T F
 have hml:=Nat.mod_lt T (show 0<F by omega)
 have af7:T/F*F+T%F=T:=by rw[Nat.mul_comm];exact hdm
 clear hdm
 refine oz (fun x=>x.1*F+x.2=T∧q≤x.1∧x.2<4294967296∧x.1≤4294967297) (fun e=>q≤e∧e≤q+1) (fun x=>x.1) ?_ ⟨af7,af5,by show T%F<_;omega,hg0⟩ ?_
 ·rintro⟨g,r⟩ ⟨i1,i2,i3,i4⟩
  simp only at i1 i2 i3 i4
  have down:q<g→(∃s',(bif decide ((r+F)%18446744073709551616/4294967296≠0)then some (.inr (pJ 18446744073709551616 g 1))else some (.inl (pJ 18446744073709551616 g 1,(r+F)%18446744073709551616)):Option ((Nat×Nat)⊕Nat))=some (.inl s')∧(s'.1*F+s'.2=T∧q≤s'.1∧s'.2<4294967296∧s'.1≤4294967297)∧s'.1<g)∨
    (∃e,(bif decide ((r+F)%18446744073709551616/4294967296≠0)then some (.inr (pJ 18446744073709551616 g 1))else some (.inl (pJ 18446744073709551616 g 1,(r+F)%18446744073709551616)):Option ((Nat×Nat)⊕Nat))=some (.inr e)∧q≤e∧e≤q+1):=by
   intro hlt
   have e1:(g-1)*F+(r+F)=T:=by
    obtain⟨k,rfl⟩:∃k,g=k+1:=⟨g-1,by omega⟩
    rw[Nat.add_sub_cancel];rw[Nat.add_mul]at i1;omega
   rw[sJ (by omega) (by omega),Nat.mod_eq_of_lt (a:=r+F) (by omega)]
   by_cases hb:r+F<4294967296
   ·left
    refine⟨(g-1,r+F),by simp[Nat.div_eq_of_lt hb],⟨e1,by simp only;omega,hb,by simp only;omega⟩,by simp only;omega⟩
   ·right
    have hne:(r+F)/4294967296≠0:=by omega
    refine⟨g-1,by simp[hne],by omega,?_⟩
    refine hle _ ?_
    have m1:(g-1)*S≤4294967296*4294967295:=Nat.mul_le_mul (by omega) (by omega)
    rw[Nat.mul_add,←Nat.mul_assoc]
    have m2:((g-1)*F+(r+F))*4294967296=T*4294967296:=by rw[e1]
    rw[Nat.add_mul]at m2
    omega
  simp only[cm,bO]
  by_cases hg:g<4294967296
  ·rw[show decide (g/4294967296≠0)=false by simp;omega]
   have hgS:g*S≤4294967295*4294967295:=Nat.mul_le_mul (by omega) (by omega)
   simp only[jT]
   rw[g3]
   simp only[bO]
   rw[Nat.mod_eq_of_lt (a:=g*S) (by omega),Nat.mod_eq_of_lt (a:=r*4294967296) (by omega),Nat.mod_eq_of_lt (a:=u) (by omega),Kv aaC,Nat.mod_eq_of_lt (a:=r*4294967296+u) (by omega)]
   by_cases ht:r*4294967296+u<g*S
   ·rw[show decide (r*4294967296+u<g*S)=true by simpa using ht]
    simp only[bO,jn]
    exact down (af6 _ _ i1 ht)
   ·rw[show decide (r*4294967296+u<g*S)=false by simpa using ht]
    right
    refine⟨g,by simp,i2,?_⟩
    refine hle _ ?_
    rw[Nat.mul_add,←Nat.mul_assoc,←i1,Nat.add_mul]
    omega
  ·rw[show decide (g/4294967296≠0)=true by simp;omega]
   simp only[bO,jn]
   exact down (by omega)
 ·rintro e ⟨h2,h3⟩
  exact⟨(e,fM 4294967296 N A),by rw[qV rfl,Option.bind_some],rfl,h2,h3⟩
end Go.Proofs.YtningmnklfpfjaaGreat
namespace Go.Proofs.YtningmnklfpfjaaGreat
open Go.Fw
theorem vV{N A o n f:Nat}{v:List Nat}(hv:Gq v)(hn:v.length=n)(hN:N≤100000000001)(ho:o+n<N)(hf:f≤4294967296)
  (hU:A/4294967296^o<4294967296^(n+1)):
  cS (fM 4294967296 N A) o (n+1) v f=some (decide (A/4294967296^o<vl v*f),fM 4294967296 N (A%4294967296^o+4294967296^o*((A/4294967296^o+4294967296^(n+1)-vl v*f)%4294967296^(n+1)))):=by
 obtain⟨hV,hlv⟩:=hv
 obtain⟨U,Qk⟩:∃U,A/4294967296^o=U:=⟨_,rfl⟩
 obtain⟨V,Ql⟩:∃V,vl v=V:=⟨_,rfl⟩
 have AK:V<4294967296^n:=by rw[←Ql,←hn];exact jo v hV
 have Mr:4294967296^(n+1)=4294967296^n*4294967296:=Nat.pow_succ ..
 have hT:V*f<4294967296^(n+1):=by
  rw[Mr]
  calc V*f≤V*4294967296:=Nat.mul_le_mul_left _ hf
   _<4294967296^n*4294967296:=Nat.mul_lt_mul_of_pos_right AK (by decide)
 rw[Qk]at hU⊢
 rw[Ql]
 obtain⟨X,hX⟩:∃X,U+4294967296^(n+1)-V*f=X:=⟨_,rfl⟩
 rw[hX]
 unfold cS
 simp only[bO]
 have Xh:∀i,AJ 4294967296 U (V*f) i≤1:=fun i=>Pp (by decide) _ _ _
 refine aU (fun i=>(1-AJ 4294967296 U (V*f) i,(i:Int),sC 4294967296 V f 0 i,fM 4294967296 N (mix 4294967296 o i X U A))) (n+1) (1-AJ 4294967296 U (V*f) (n+1),fM 4294967296 N (mix 4294967296 o (n+1) X U A)) ?_ (fun i hi=>?_) ?_ ?_
 ·rw[H7,Kr,←Qk,Ie];rfl
 ·
  obtain⟨t,ht⟩:∃t,V*f/4294967296^i%4294967296=t:=⟨_,rfl⟩
  obtain⟨c,hc⟩:∃c,sC 4294967296 V f 0 i=c:=⟨_,rfl⟩
  obtain⟨p,hp⟩:∃p,V/4294967296^i%4294967296*f=p:=⟨_,rfl⟩
  have aiE:c<4294967296:=by
   rw[←hc,sC,sT,Nat.add_zero,Nat.div_lt_iff_lt_mul (Nat.pow_pos (by decide))]
   calc V%4294967296^i*f≤V%4294967296^i*4294967296:=Nat.mul_le_mul_left _ hf
    _<4294967296*4294967296^i:=by rw[Nat.mul_comm];exact Nat.mul_lt_mul_of_pos_left (Nat.mod_lt _ (Nat.pow_pos (by decide))) (by decide)
  have aiF:p≤4294967295*4294967296:=by
   rw[←hp];exact Nat.mul_le_mul (by have:=Nat.mod_lt (V/4294967296^i) (show 0<4294967296 by decide);omega) hf
  have W6:(p+c)%4294967296=t:=by rw[←hp,←hc,Pq (B:=4294967296) (by decide),Nat.add_zero,ht]
  have hstep:(p+c)/4294967296=sC 4294967296 V f 0 (i+1):=by rw[←hp,←hc,Kt (B:=4294967296) (by decide)]
  have aiG:t<4294967296:=by rw[←ht];exact Nat.mod_lt _ (by decide)
  obtain⟨u,hu⟩:∃u,U/4294967296^i%4294967296=u:=⟨_,rfl⟩
  have aaC:u<4294967296:=by rw[←hu];exact Nat.mod_lt _ (by decide)
  have hg:(fM 4294967296 N (mix 4294967296 o i X U A))[o+i]? =some u:=by rw[nL (by omega),yy (by decide),hu]
  have hl:=Xh i
  obtain⟨l,hle⟩:∃l,AJ 4294967296 U (V*f) i=l:=⟨_,rfl⟩
  have hxd:(u+(4294967296-1-t)+l)%4294967296=X/4294967296^i%4294967296:=by rw[←hu,←ht,←hle,Pw (B:=4294967296) (by decide) hi (by omega),hX]
  have hls:(u+(4294967296-1-t)+l)/4294967296=AJ 4294967296 U (V*f) (i+1):=by rw[←hu,←ht,←hle,H8 (B:=4294967296) (by decide)]
  rw[hle]at hl
  have hput:=F7 (B:=4294967296) (by decide) o i X U A (N:=N) (by omega)
  rw[hle,hc,←hls]
  simp only[show decide ((i:Int)<((n+1:Nat):Int))=true by simp;omega,jn,bO,cm]
  rw[A6 (by omega)]
  simp only[bO,hg]
  have way:∀k:Nat→Option ((Nat×Int×Nat×List Nat)⊕(Nat×List Nat)),(bif decide ((i:Int)<(v.length:Int))then(cy v (i:Int)).bind fun fR=>k (fR%18446744073709551616*f%18446744073709551616)else k 0)=k p:=by
   intro k
   by_cases hin:i<v.length
   ·rw[show decide ((i:Int)<(v.length:Int))=true by simp;omega,jn]
    have Gj:v[i]? =some (V/4294967296^i%4294967296):=by rw[←Ql];exact qc hV hin
    rw[aQ Gj,bO,Nat.mod_eq_of_lt (a:=V/4294967296^i%4294967296) (b:=18446744073709551616) (by have:=Nat.mod_lt (V/4294967296^i) (show 0<4294967296 by decide);omega),hp,Nat.mod_eq_of_lt (a:=p) (by omega)]
   ·rw[show decide ((i:Int)<(v.length:Int))=false by simp;omega,jT]
    have:V/4294967296^i=0:=Nat.div_eq_of_lt (Nat.lt_of_lt_of_le AK (Nat.pow_le_pow_right (by decide) (by omega)))
    rw[←hp,this];simp
  refine(way (fun y=>(bn y c).bind _)).trans ?_
  rw[g9 _ _ (by omega)]
  simp only[bO]
  rw[W6,hstep,Nat.mod_eq_of_lt (a:=u) (by omega),Nat.mod_eq_of_lt (a:=t) (by omega)]
  rw[fL (by rw[bp];omega),bO,bt (by omega),aaA]
  by_cases Um:u<t+(1-l)
  ·have e1:pJ 18446744073709551616 (pJ 18446744073709551616 u t) (1-l)=18446744073709551616+u-t-(1-l):=by
    by_cases h1:u<t
    ·rw[A5 h1 (by omega),sJ (by omega) (by omega)]
    ·rw[sJ (a:=u) (b:=t) (by omega) (by omega),A5 (by omega) (by omega)];omega
   rw[e1]
   have e2:(18446744073709551616+u-t-(1-l))%4294967296=X/4294967296^i%4294967296:=by rw[←hxd];omega
   have e3:(18446744073709551616+u-t-(1-l))/9223372036854775808=1-(u+(4294967296-1-t)+l)/4294967296:=by omega
   rw[e2,e3,hput]
  ·have e1:pJ 18446744073709551616 (pJ 18446744073709551616 u t) (1-l)=u-t-(1-l):=by
    rw[sJ (a:=u) (b:=t) (by omega) (by omega),sJ (by omega) (by omega)]
   rw[e1]
   have e2:(u-t-(1-l))%4294967296=X/4294967296^i%4294967296:=by rw[←hxd];omega
   have e3:(u-t-(1-l))/9223372036854775808=1-(u+(4294967296-1-t)+l)/4294967296:=by omega
   rw[e2,e3,hput]
 ·simp
 ·simp only[bO]
  rw[qV (by rw[bp,bp]),bO,Ic hU,RU (by decide) hU hT]
  congr 2
  by_cases h:U<V*f<;>simp[h]
end Go.Proofs.YtningmnklfpfjaaGreat
namespace Go.Proofs.YtningmnklfpfjaaGreat
open Go.Fw
theorem aaH{B V:Nat}(hB:0<B)(hV:0<V)(A k:Nat):A%(V*B^(k+1))/B^k<B*V:=by
 rw[Nat.div_lt_iff_lt_mul (Nat.pow_pos hB)]
 have:V*B^(k+1)=B*V*B^k:=by rw[Nat.pow_succ,Nat.mul_comm (B^k),←Nat.mul_assoc,Nat.mul_comm V]
 rw[←this]
 exact Nat.mod_lt _ (Nat.mul_pos hV (Nat.pow_pos hB))
theorem Xi{B V:Nat}(A k:Nat):A%(V*B^(k+1))%B^k+B^k*(A%(V*B^(k+1))/B^k%V)=A%(V*B^k):=by
 rw[←Nat.mod_mul,Nat.mul_comm (B^k),Nat.mod_mod_of_dvd]
 rw[Nat.pow_succ,←Nat.mul_assoc];exact Nat.dvd_mul_right _ _
theorem Xj{B V:Nat}(A k:Nat):A%(V*B^(k+1))/B^k/V=A/V/B^k%B:=by
 rw[Nat.div_div_eq_div_mul,Nat.mul_comm (B^k),Nat.pow_succ,←Nat.mul_assoc,Nat.mod_mul_right_div_self,Nat.div_div_eq_div_mul]
theorem Py{B:Nat}(hB:0<B){N k:Nat}(h:k<N)(Q:Nat):(fM B N (Q/B^(k+1)*B^(k+1))).set k (Q/B^k%B)=fM B N (Q/B^k*B^k):=by
 have hP:0<B^k:=Nat.pow_pos hB
 refine vA hB h (Nat.mod_lt _ hB) ?_ ?_ ?_
 ·rw[Nat.mul_mod_left,Nat.pow_succ,Nat.mul_comm (B^k),←Nat.mul_assoc,Nat.mul_mod_left]
 ·rw[Nat.mul_div_cancel _ hP]
 ·rw[Nat.mul_div_cancel _ (Nat.pow_pos hB),Nat.pow_succ,←Nat.div_div_eq_div_mul,Nat.mul_div_cancel _ hP,Nat.div_div_eq_div_mul]
theorem Kx{α:Type}{l:List α}{o n:Nat}(h:o<l.length)(h':o+n≤l.length):Ux l (o:Int) ((o+n:Nat):Int)=some (o,n):=by
 unfold Ux
 rw[if_pos (by omega)]
 congr 2
 omega
theorem RV{U V g M:Nat}(hV:0<V)(h1:U/V≤g)(h2:g≤U/V+1)(hM:U<M)(hVM:V≤M):
  (V*g≤U∧g=U/V∧(U+M-V*g)%M=U%V)∨(U<V*g∧g=U/V+1∧U+M-V*g<M∧(U+M-V*g+V)%M=U%V):=by
 have hd:=Nat.div_add_mod U V
 have hm:=Nat.mod_lt U hV
 revert h1 h2 hd hm
 generalize U/V=q
 generalize U%V=r
 intro h1 h2 hd hm
 rcases Nat.lt_or_ge q g with h|h
 ·obtain rfl:g=q+1:=by omega
  have e:V*(q+1)=V*q+V:=Nat.mul_succ ..
  right
  refine⟨by omega,rfl,by omega,?_⟩
  rw[show U+M-V*(q+1)+V=r+M by omega,Nat.add_mod_right,Nat.mod_eq_of_lt (by omega)]
 ·obtain rfl:g=q:=by omega
  left
  refine⟨by omega,rfl,?_⟩
  rw[show U+M-V*g=r+M by omega,Nat.add_mod_right,Nat.mod_eq_of_lt (by omega)]
theorem RW{R D e i:Nat}(hD:0<D)(he:4294967296=D*e):(R*D/4294967296^(i+1)%4294967296*4294967296+R*D/4294967296^i%4294967296)/D%4294967296=R/4294967296^i%4294967296:=by
 have h1:R*D/4294967296^(i+1)%4294967296*4294967296+R*D/4294967296^i%4294967296=R*D/4294967296^i%(4294967296*4294967296):=by
  rw[Nat.mod_mul,Nat.div_div_eq_div_mul,show 4294967296^i*4294967296=4294967296^(i+1)from(Nat.pow_succ ..).symm,Nat.add_comm,Nat.mul_comm 4294967296]
 have h2:(4294967296*4294967296:Nat)=D*(e*4294967296):=by
  rw[←Nat.mul_assoc,←he]
 rw[h1,h2,Nat.mod_mul_right_div_self,Nat.mod_mul_left_mod,Nat.div_div_eq_div_mul,Nat.mul_comm (4294967296^i) D,←Nat.div_div_eq_div_mul,Nat.mul_div_cancel _ hD]
theorem Xk{B:Nat}(hB:0<B){N i R:Nat}(h:i<N):(fM B N (R%B^i)).set i (R/B^i%B)=fM B N (R%B^(i+1)):=by
 refine vA hB h (Nat.mod_lt _ hB) ?_ ?_ ?_
 ·rw[Nat.mod_mod,Nat.mod_mod_of_dvd _ (Nat.pow_dvd_pow _ (Nat.le_succ i))]
 ·rw[Nat.pow_succ,Nat.mod_mul_right_div_self,Nat.mod_mod]
 ·rw[Nat.div_eq_of_lt (Nat.mod_lt _ (Nat.pow_pos hB)),Nat.div_eq_of_lt]
  exact Nat.lt_of_lt_of_le (Nat.mod_lt _ (Nat.pow_pos hB)) (Nat.pow_le_pow_right hB (Nat.le_succ i))
theorem Jx(a b:List Nat)(ha:Gq a)(hb:Gq b){n:Nat}(hn:b.length=n+2)(hl:b.length≤a.length)(Jw:b[n+1]? ≠some 0):
  fz a b=some (fM 4294967296 (a.length-b.length+1) (vl a/vl b),fM 4294967296 b.length (vl a%vl b)):=by
 obtain⟨hA,hla⟩:=ha
 obtain⟨hB,hlb⟩:=hb
 have hP:∀k,0<4294967296^k:=fun k=>Nat.pow_pos (by decide)
 obtain⟨Va,hVa⟩:∃V,vl a=V:=⟨_,rfl⟩
 obtain⟨Vb,hVb⟩:∃V,vl b=V:=⟨_,rfl⟩
 have Xl:Vb<4294967296^(n+2):=by rw[←hVb,←hn];exact jo b hB
 have halt:Va<4294967296^a.length:=by rw[←hVa];exact jo a hA
 have Ih:4294967296^(n+2)=4294967296^(n+1)*4294967296:=Nat.pow_succ ..
 obtain⟨x,hx⟩:∃x,Vb/4294967296^(n+1)=x:=⟨_,rfl⟩
 have aaI:x<4294967296:=by rw[←hx,Nat.div_lt_iff_lt_mul (hP _)];rw[Ih,Nat.mul_comm]at Xl;exact Xl
 have hgx:b[n+1]? =some x:=by rw[qc hB (by omega),show val 4294967296 b=Vb from hVb,hx,Nat.mod_eq_of_lt aaI]
 have hx0:x≠0:=fun e=>Jw (by rw[hgx,e])
 obtain⟨s,XV,Dq,hs3,hs4⟩:=aay x aaI hx0
 have hp2:0<2^s:=Nat.two_pow_pos s
 have aaK:2^s<4294967296:=by
  have:2^s<2^32:=Nat.pow_lt_pow_right (by decide) Dq
  rw[two32]at this;exact this
 obtain⟨D,hD⟩:∃D,2^s=D:=⟨_,rfl⟩
 rw[hD]at hs3 hs4 hp2 aaK
 obtain⟨V,hV⟩:∃V,Vb*D=V:=⟨_,rfl⟩
 obtain⟨A,hAe⟩:∃A,Va*D=A:=⟨_,rfl⟩
 have AK:V<4294967296^(n+2):=by
  have h1:Vb<(x+1)*4294967296^(n+1):=by rw[←hx,Nat.add_mul,Nat.one_mul];exact Nat.lt_div_mul_add (hP _)
  have h2:(x+1)*D≤4294967296:=by
   obtain⟨e,he⟩:∃e,4294967296=D*e:=⟨2^(32-s),by rw[←hD,←Nat.pow_add,show s+(32-s)=32 by omega,two32]⟩
   have h3:x<e:=by
    apply Nat.lt_of_mul_lt_mul_left (a:=D)
    rw[←he,Nat.mul_comm];exact hs4
   calc (x+1)*D≤e*D:=Nat.mul_le_mul_right _ h3
    _=4294967296:=by rw[Nat.mul_comm,←he]
  rw[←hV,Ih]
  calc Vb*D<(x+1)*4294967296^(n+1)*D:=Nat.mul_lt_mul_of_pos_right h1 hp2
   _=4294967296^(n+1)*((x+1)*D):=by rw[Nat.mul_comm (x+1),Nat.mul_assoc]
   _≤4294967296^(n+1)*4294967296:=Nat.mul_le_mul_left _ h2
 have Pz:2147483648*4294967296^(n+1)≤V:=by
  have h1:x*4294967296^(n+1)≤Vb:=by rw[←hx];exact Nat.div_mul_le_self _ _
  rw[←hV]
  calc 2147483648*4294967296^(n+1)≤x*D*4294967296^(n+1):=Nat.mul_le_mul_right _ hs3
   _=x*4294967296^(n+1)*D:=by rw[Nat.mul_assoc,Nat.mul_comm D,←Nat.mul_assoc]
   _≤Vb*D:=Nat.mul_le_mul_right _ h1
 have Xe:0<V:=Nat.lt_of_lt_of_le (Nat.mul_pos (by decide) (hP _)) Pz
 have hb0:0<Vb:=by
  rcases Nat.eq_zero_or_pos Vb with h|h
  ·rw[←hV,h,Nat.zero_mul]at Xe;omega
  ·exact h
 have hAV:A/V=Va/Vb:=by rw[←hAe,←hV,Nat.mul_div_mul_right _ _ hp2]
 have af9:A%V=Va%Vb*D:=by rw[←hAe,←hV,Nat.mul_mod_mul_right]
 obtain⟨K,hK⟩:∃K,a.length=K+(n+2):=⟨a.length-(n+2),by omega⟩
 have hA0:A<V*4294967296^(K+1):=by
  have h1:4294967296^(n+1)≤Vb:=by
   have:1*4294967296^(n+1)≤x*4294967296^(n+1):=Nat.mul_le_mul_right _ (by omega)
   have h2:x*4294967296^(n+1)≤Vb:=by rw[←hx];exact Nat.div_mul_le_self _ _
   omega
  rw[←hAe,←hV]
  calc Va*D<4294967296^a.length*D:=Nat.mul_lt_mul_of_pos_right halt hp2
   _=4294967296^(n+1)*4294967296^(K+1)*D:=by rw[hK,←Nat.pow_add];congr 2;omega
   _≤Vb*4294967296^(K+1)*D:=Nat.mul_le_mul_right _ (Nat.mul_le_mul_right _ h1)
   _=Vb*D*4294967296^(K+1):=by rw[Nat.mul_assoc,Nat.mul_comm _ D,←Nat.mul_assoc]
 obtain⟨v,hve⟩:∃v,fM 4294967296 (n+2) V=v:=⟨_,rfl⟩
 have hvl:v.length=n+2:=by rw[←hve,bp]
 have hvW:Gq v:=⟨fun y hy=>by rw[←hve]at hy;exact nV (by decide) _ _ _ hy,by omega⟩
 have hvv:vl v=V:=by rw[←hve];show val _ _=_;rw[mh,Nat.mod_eq_of_lt AK]
 have aaN:List.take b.length (fM 4294967296 (b.length+1) (Vb*2^s))=v:=by
  rw[hD,hV,hn,pg,List.take_append_of_le_length (by rw[bp];omega),List.take_of_length_le (by rw[bp];omega),hve]
 unfold fz
 simp only[bO]
 rw[show((b.length:Nat):Int)-1=((n+1:Nat):Int) by omega,vw (by omega),aQ hgx,bO,XV,bO]
 rw[show((s:Int)%18446744073709551616).toNat=s by rw[Int.emod_eq_of_lt (by omega) (by omega)];simp]
 rw[DY,shiftLeft_eq a s ⟨hA,hla⟩ Dq,bO,shiftLeft_eq b s ⟨hB,hlb⟩ Dq,bO,oD (by rw[bp];omega),bO]
 obtain⟨Q,hQ⟩:∃Q,A/V=Q:=⟨_,rfl⟩
 have agb:Q<4294967296^(K+1):=by rw[←hQ,Nat.div_lt_iff_lt_mul Xe,Nat.mul_comm];exact hA0
 rw[hVa,hVb,←hAV,hQ,aaN,hD,hAe,hn]
 rw[show a.length-(n+2)+1=K+1 by omega]
 rw[cq (x:=(a.length:Int)-((n+2:Nat):Int)) (by omega) (by omega),cq (x:=(a.length:Int)-((n+2:Nat):Int)+1) (by omega) (by omega),show(a.length:Int)-((n+2:Nat):Int)+1=((K+1:Nat):Int) by omega,sI (by decide) (by omega),bO,show(a.length:Int)-((n+2:Nat):Int)=(K:Int) by omega]
 refine aU (fun j=>((K:Int)-(j:Int),fM 4294967296 (K+1) (Q/4294967296^(K+1-j)*4294967296^(K+1-j)),fM 4294967296 (a.length+1) (A%(V*4294967296^(K+1-j))))) (K+1) (fM 4294967296 (K+1) Q,fM 4294967296 (a.length+1) (A%V)) ?_ (fun j hj=>?_) ?_ ?_
 ·rw[show K+1-0=K+1 by omega,Nat.mod_eq_of_lt hA0,Nat.div_eq_of_lt agb,Nat.zero_mul,uS];simp
 ·
  obtain⟨k,hk⟩:∃k,K=k+j:=⟨K-j,by omega⟩
  rw[show K+1-j=k+1 by omega,show K+1-(j+1)=k by omega,show(K:Int)-(j:Int)=(k:Int) by omega,show(K:Int)-((j+1:Nat):Int)=(k:Int)-1 by omega]
  have hU:=aaH (B:=4294967296) (by decide) Xe A k
  have RX:=Xi (B:=4294967296) (V:=V) A k
  have Xm:=Xj (B:=4294967296) (V:=V) A k
  obtain⟨N,hN⟩:∃N,a.length+1=N:=⟨_,rfl⟩
  obtain⟨A1,hA1⟩:∃A1,A%(V*4294967296^(k+1))=A1:=⟨_,rfl⟩
  rw[hN]
  rw[hA1]at hU RX Xm⊢
  rw[hQ]at Xm
  obtain⟨⟨g,lg⟩,hge,hgl,hg1,Qh⟩:=Ig (N:=N) (A:=A1) (o:=k) (n:=n) (v:=v) hvW hvl (by omega) (by omega) (by rw[hvv];exact hU) (by rw[hvv];exact Pz)
  simp only at hgl hg1 Qh
  rw[hvv]at hg1 Qh
  subst hgl
  have hsub:=vV (N:=N) (A:=A1) (o:=k) (n:=n+2) (v:=v) (f:=g) hvW hvl (by omega) (by omega) ?_ ?_
  ·rw[hvv]at hsub
   obtain⟨U,Qk⟩:∃U,A1/4294967296^k=U:=⟨_,rfl⟩
   rw[Qk]at hU RX Xm hg1 Qh hsub
   have RY:4294967296^(n+2+1)=4294967296^(n+2)*4294967296:=Nat.pow_succ ..
   have hUM:U<4294967296^(n+2+1):=by
    have:4294967296*V<4294967296*4294967296^(n+2):=Nat.mul_lt_mul_of_pos_left AK (by decide)
    rw[RY];omega
   have PA:=RV (M:=4294967296^(n+2+1)) Xe hg1 Qh hUM (by rw[RY];omega)
   have hql:U/V<4294967296:=by rw[Xm];exact Nat.mod_lt _ (by decide)
   rw[show decide ((0:Int)≤(k:Int))=true by simp,jn]
   rw[vz (by omega),bt (by omega),show k+(n+2)+1=k+(n+3) by omega,Kx (by rw[bp];omega) (by rw[bp];omega),bO,hge,bO,qV rfl,bO,Kx (by rw[bp];omega) (by rw[bp];omega),bO]
   show(Option.bind (cS _ k (n+2+1) v g) _)=_
   rw[hsub,bO,qV (by rw[bp,bp]),bO]
   simp only[cm]
   rcases PA with⟨hc1,Gw,hc3⟩|⟨hc1,Gw,hc3,hc4⟩
   ·rw[show decide (U<V*g)=false by simp;omega,jT,hc3,RX,Gw,Nat.mod_eq_of_lt hql,Xm,cg (by rw[bp];omega),bO,fL (by rw[bp];omega),bO,Py (by decide) (by omega),cq (by omega) (by omega)]
   ·rw[show decide (U<V*g)=true by simp;omega,jn,sJ (by omega) (by omega),show g-1=U/V by omega,Nat.mod_eq_of_lt hql,Xm]
    rw[Nat.mod_eq_of_lt hc3]
    obtain⟨Y,hY⟩:∃Y,U+4294967296^(n+2+1)-V*g=Y:=⟨_,rfl⟩
    rw[hY]at hc3 hc4⊢
    obtain⟨A2,hA2⟩:∃A2,A1%4294967296^k+4294967296^k*Y=A2:=⟨_,rfl⟩
    rw[hA2]
    have hw2:A2/4294967296^k=Y:=by rw[←hA2,Nat.add_mul_div_left _ _ (hP k),Nat.div_eq_of_lt (Nat.mod_lt _ (hP k)),Nat.zero_add]
    have Mc:A2%4294967296^k=A1%4294967296^k:=by rw[←hA2,Nat.add_mul_mod_self_left,Nat.mod_mod]
    have hcr:∀i,Gp 4294967296 Y V i≤1:=fun i=>Ju (by decide) _ _ _
    refine aU (fun i=>((i:Int),Gp 4294967296 Y V i,fM 4294967296 N (mix 4294967296 k i (Y+V) Y A2))) (n+2) (Gp 4294967296 Y V (n+2),fM 4294967296 N (mix 4294967296 k (n+2) (Y+V) Y A2)) ?_ (fun i hi=>?_) ?_ ?_
    ·rw[H6,←hw2,Ie];rfl
    ·have Gj:v[i]? =some (V/4294967296^i%4294967296):=by rw[←hvv];exact qc hvW.1 (by omega)
     have hgu:(fM 4294967296 N (mix 4294967296 k i (Y+V) Y A2))[k+i]? =some (Y/4294967296^i%4294967296):=by rw[nL (by omega),yy (by decide)]
     have XV:=HZ (B:=4294967296) (by decide) Y V i
     have Dq:=F4 (B:=4294967296) (by decide) Y V i
     have hput:=F7 (B:=4294967296) (by decide) k i (Y+V) Y A2 (N:=N) (by omega)
     have hci:=hcr i
     have hv1:=Nat.mod_lt (V/4294967296^i) (show 0<4294967296 by decide)
     have Yq:=Nat.mod_lt (Y/4294967296^i) (show 0<4294967296 by decide)
     simp only[show decide ((i:Int)<(v.length:Int))=true by simp;omega,jn]
     rw[aQ Gj,bO,vz (by omega),cg (by rw[bp];omega),bO,hgu,bO,Nat.mod_eq_of_lt (a:=Y/4294967296^i%4294967296) (b:=18446744073709551616) (by omega),Nat.mod_eq_of_lt (a:=V/4294967296^i%4294967296) (b:=18446744073709551616) (by omega),Nat.mod_eq_of_lt (b:=18446744073709551616) (by omega),g9 _ _ (by omega),bO,bO,fL (by rw[bp];omega),bO,bt (by omega)]
     rw[XV,Dq,hput]
    ·simp[hvl]
    ·have hgu:(fM 4294967296 N (mix 4294967296 k (n+2) (Y+V) Y A2))[k+(n+2)]? =some (Y/4294967296^(n+2)%4294967296):=by rw[nL (by omega),yy (by decide)]
     have Dq:=F4 (B:=4294967296) (by decide) Y V (n+2)
     have hput:=F7 (B:=4294967296) (by decide) k (n+2) (Y+V) Y A2 (N:=N) (by omega)
     have hci:=hcr (n+2)
     have Yq:=Nat.mod_lt (Y/4294967296^(n+2)) (show 0<4294967296 by decide)
     rw[Nat.div_eq_of_lt AK,Nat.zero_mod,Nat.add_zero]at Dq
     simp only[]
     rw[cg (by rw[bp];omega),bO,hgu,bO,Nat.mod_eq_of_lt (a:=Y/4294967296^(n+2)%4294967296) (b:=18446744073709551616) (by omega),g9 _ _ (by omega),bO,bO,fL (by rw[bp];omega),bO,Dq,hput,Ic hc3,Mc,hc4,RX,cg (by rw[bp];omega),bO,fL (by rw[bp];omega),bO,Py (by decide) (by omega),cq (by omega) (by omega)]
  ·
   have hql:A1/4294967296^k/V<4294967296:=by rw[Xm];exact Nat.mod_lt _ (by decide)
   omega
  ·have RY:4294967296^(n+2+1)=4294967296^(n+2)*4294967296:=Nat.pow_succ ..
   have:4294967296*V<4294967296*4294967296^(n+2):=Nat.mul_lt_mul_of_pos_left AK (by decide)
   rw[RY];omega
 ·rw[show K+1-(K+1)=0 by omega,Nat.pow_zero,Nat.mul_one,Nat.mul_one,Nat.div_one,show decide (0≤(K:Int)-((K+1:Nat):Int))=false by simp;omega,jT]
 ·
  obtain⟨R,hR⟩:∃R,Va%Vb=R:=⟨_,rfl⟩
  rw[af9,hR]
  have agf:R<4294967296^(n+2):=by rw[←hR];exact Nat.lt_trans (Nat.mod_lt _ hb0) Xl
  rw[sI (by decide) (by omega),bO]
  refine aU (fun i=>((i:Int),fM 4294967296 (n+2) (R%4294967296^i))) (n+2) (fM 4294967296 (n+2) R) ?_ (fun i hi=>?_) ?_ rfl
  ·rw[Nat.pow_zero,Nat.mod_one,uS];rfl
  ·obtain⟨e,he⟩:∃e,4294967296=D*e:=⟨2^(32-s),by rw[←hD,←Nat.pow_add,show s+(32-s)=32 by omega,two32]⟩
   have aaP:=RW (R:=R) (i:=i) hp2 he
   obtain⟨u,hu⟩:∃u,R*D/4294967296^i%4294967296=u:=⟨_,rfl⟩
   obtain⟨w,hw⟩:∃w,R*D/4294967296^(i+1)%4294967296=w:=⟨_,rfl⟩
   have XO:u<4294967296:=by rw[←hu];exact Nat.mod_lt _ (by decide)
   have hw1:w<4294967296:=by rw[←hw];exact Nat.mod_lt _ (by decide)
   rw[hu,hw]at aaP
   simp only[show decide ((i:Int)<((n+2:Nat):Int))=true by simp;omega,jn]
   rw[cg (by rw[bp];omega),bO,nL (by omega),bO,hu,bt (by omega),cg (by rw[bp];omega),bO,nL (by omega),bO,hw,Nat.mod_eq_of_lt (a:=u) (by omega),Nat.mod_eq_of_lt (a:=w) (by omega),two32,Nat.mod_eq_of_lt (a:=w*4294967296) (by omega),Nat.or_comm,Kv XO,Nat.mod_eq_of_lt (a:=w*4294967296+u) (by omega),show min s 64=s by omega,hD,aaP,cg (by rw[bp];omega),bO,fL (by rw[bp];omega),bO]
   rw[Xk (by decide) hi]
  ·rw[Nat.mod_eq_of_lt agf];simp
end Go.Proofs.YtningmnklfpfjaaGreat
namespace Go.Proofs.YtningmnklfpfjaaGreat
open Go.Fw
def sv(n:Bool)(v:Nat):Int:=bif n then-(v:Int)else v
def zi(z:Zr):Int:=sv z.neg (vl z.w)
def zn(i:Int):Zr:=⟨decide (i<0),can 4294967296 i.natAbs⟩
def Wl(z:Zr):Prop:=(∀x∈z.w,x<4294967296)∧z.w.length≤10000000000
def Fit(L:Nat)(i:Int):Prop:=i.natAbs<4294967296^L
theorem PB(n:Bool)(v:Nat):(sv n v).natAbs=v:=by cases n<;>simp[sv]
theorem F9(z:Zr):(zi z).natAbs=vl z.w:=PB _ _
theorem Xn(n:Bool)(v:Nat):decide (sv n v<0)=(n&&v != 0):=by
 cases n
 ·have:¬((v:Int)<0):=by omega
  simp[sv,this]
 ·rcases v with _|v
  ·simp[sv]
  ·simp[sv]
theorem qe(n:Bool)(v:Nat):zc n v=zn (sv n v):=by rw[zc,zn,Xn,PB]
theorem R3(i:Int):sv (decide (i<0)) i.natAbs=i:=by
 by_cases h:i<0
 ·rw[show decide (i<0)=true by simp[h]];simp[sv];omega
 ·rw[show decide (i<0)=false by simp[h]];simp[sv];omega
theorem fP(i:Int):zi (zn i)=i:=by
 show sv (decide (i<0)) (vl (can 4294967296 i.natAbs))=i
 rw[show vl (can 4294967296 i.natAbs)=i.natAbs from sM (by decide) _,R3]
theorem Ga(n:Bool)(v:Nat):sv (!n) v=-sv n v:=by cases n<;>simp[sv]
theorem pq(v:Nat):sv false v=v:=rfl
theorem Fit.mono{L M:Nat}{i:Int}(h:Fit L i)(hl:L≤M):Fit M i:=Nat.lt_of_lt_of_le h (Nat.pow_le_pow_right (by decide) hl)
theorem Fit.neg{L:Nat}{i:Int}(h:Fit L i):Fit L (-i):=by unfold Fit at*;rw[Int.natAbs_neg];exact h
theorem Fit.add{L:Nat}{i j:Int}(h:Fit L i)(h':Fit L j):Fit (L+1) (i+j):=by
 unfold Fit at*
 have:=Int.natAbs_add_le i j
 rw[Nat.pow_succ];omega
theorem Fit.sub{L:Nat}{i j:Int}(h:Fit L i)(h':Fit L j):Fit (L+1) (i-j):=by
 rw[Int.sub_eq_add_neg];exact h.add h'.neg
theorem Fit.mul{L M:Nat}{i j:Int}(h:Fit L i)(h':Fit M j):Fit (L+M) (i*j):=by
 unfold Fit at*
 rw[Int.natAbs_mul,Nat.pow_add]
 exact Nat.mul_lt_mul'' h h'
theorem Fit.i64{i:Int}(h: -9223372036854775808≤i)(h':i≤9223372036854775807):Fit 2 i:=by
 unfold Fit;rw[show(4294967296:Nat)^2=18446744073709551616 by decide];omega
theorem Fit.le{L:Nat}{i j:Int}(h:Fit L i)(h':j.natAbs≤i.natAbs):Fit L j:=Nat.lt_of_le_of_lt h' h
theorem kI{L:Nat}{i:Int}(h:Fit L i)(hL:L≤10000000000):Wl (zn i):=
 ⟨fun _ hx=>mm (by decide) hx,Nat.le_trans ((fe (by decide)).2 h) hL⟩
theorem Wl.fit{z:Zr}(h:Wl z):Fit z.w.length (zi z):=by
 unfold Fit;rw[F9];exact jo z.w h.1
theorem Wl.lt{z:Zr}(h:Wl z):vl z.w<4294967296^z.w.length:=jo z.w h.1
theorem Wl.cl{z:Zr}(h:Wl z):(can 4294967296 (vl z.w)).length≤10000000000:=
 Nat.le_trans ((fe (by decide)).2 (Wl.lt h)) h.2
theorem Wl.trim{z:Zr}(h:Wl z):aD z.w=some (can 4294967296 (vl z.w)):=by
 rw[Ba _ (by have:=h.2;omega),qW (by decide) h.1]
theorem gP{v:Nat}(h:(can 4294967296 v).length≤10000000001):Gq (can 4294967296 v):=⟨fun _ hx=>mm (by decide) hx,by omega⟩
theorem eL(v:Nat):vl (can 4294967296 v)=v:=sM (by decide) v
theorem gj{v:Nat}:((can 4294967296 v).length:Int)≤2↔v<18446744073709551616:=by
 have:=fe (B:=4294967296) (by decide) (v:=v) (n:=2)
 rw[show(4294967296:Nat)^2=18446744073709551616 by decide]at this
 omega
theorem mu{v:Nat}:((can 4294967296 v).length:Int)≤1↔v<4294967296:=by
 have:=fe (B:=4294967296) (by decide) (v:=v) (n:=1)
 rw[show(4294967296:Nat)^1=4294967296 by decide]at this
 omega
theorem qZ{v:Nat}:(can 4294967296 v).length=0↔v=0:=by
 constructor
 ·intro h;exact F2 (by decide) (List.length_eq_zero_iff.1 h)
 ·intro h;rw[h,uU];rfl
theorem yz(l:List Nat)(h:l.length≤1000000000000):cY l=some l:=by
 unfold cY;rw[W5 (by decide) (by simp;omega)];simp
end Go.Proofs.YtningmnklfpfjaaGreat
namespace Go.Proofs.YtningmnklfpfjaaGreat
open Go.Fw
theorem Ii(a b:Nat):decide (DX a b<0)=decide (a<b):=by
 rcases Nat.lt_trichotomy a b with h|h|h
 ·rw[yw h];simp[h]
 ·rw[h,F6];simp
 ·rw[A9 h];simp;omega
theorem Ab(a b:Nat)(ha:(can 4294967296 a).length≤10000000000)(hb:(can 4294967296 b).length≤10000000000)(h0:b≠0):
  ∃q r,dP (can 4294967296 a) (can 4294967296 b)=some (q,r)∧Gq q∧vl q=a/b∧Gq r∧vl r=a%b∧q.length≤10000000001∧r.length≤10000000001:=by
 unfold dP
 rw[kL a b (by omega) (by omega)]
 simp only[bO]
 by_cases hlt:a<b
 ·rw[yw hlt]
  simp only[show decide ((-1:Int)<0)=true by decide,jn]
  rw[yz _ (by omega)]
  refine⟨_,_,rfl,⟨by simp,by simp⟩,?_,gP (by omega),?_,by simp,by omega⟩
  ·rw[Nat.div_eq_of_lt hlt];rfl
  ·rw[eL,Nat.mod_eq_of_lt hlt]
 ·rw[Ii,show decide (a<b)=false by simp[hlt]]
  simp only[jT]
  by_cases h2:a<18446744073709551616
  ·rw[show decide (((can 4294967296 a).length:Int)≤2)=true by rw[decide_eq_true_eq];exact gj.2 h2]
   have Dg:b<18446744073709551616:=by omega
   simp only[jn]
   have l1:=low_eq (can 4294967296 a) (fun _ hx=>mm (by decide) hx) (by have:=gj.2 h2;omega)
   have l2:=low_eq (can 4294967296 b) (fun _ hx=>mm (by decide) hx) (by have:=gj.2 Dg;omega)
   rw[eL]at l1 l2
   rw[l1,bO,l2,bO,FZ h0 h2,bO,qY _ _ (Nat.lt_of_le_of_lt (Nat.div_le_self _ _) h2),bO,A7 h0,bO,qY _ _ (Nat.lt_of_le_of_lt (Nat.mod_le _ _) h2),bO]
   have hq:a/b<18446744073709551616:=Nat.lt_of_le_of_lt (Nat.div_le_self _ _) h2
   have hr:a%b<18446744073709551616:=Nat.lt_of_le_of_lt (Nat.mod_le _ _) h2
   have c1:=gj.2 hq
   have c2:=gj.2 hr
   exact⟨_,_,rfl,gP (by omega),eL _,gP (by omega),eL _,by show(can _ _).length≤_;omega,by show(can _ _).length≤_;omega⟩
  ·rw[show decide (((can 4294967296 a).length:Int)≤2)=false by rw[decide_eq_false_iff_not];exact fun h=>h2 (gj.1 h)]
   simp only[jT]
   have zY:(can 4294967296 b).length≠0:=fun h=>h0 (qZ.1 h)
   by_cases h1:b<4294967296
   ·have h1':=mu.2 h1
    rw[show decide (((can 4294967296 b).length:Int)=1)=true by simp;omega,jn]
    have hg:(can 4294967296 b)[0]? =some b:=by rw[F3 (by decide) (by omega)];simp;exact h1
    rw[yz _ (by omega),bO,zI hg,bO,Nat.mod_eq_of_lt (b:=18446744073709551616) (by omega),Ib _ _ (gP (by omega)) (by omega) (by omega),bO,eL]
    simp only[]
    rw[qV (by rw[bp]),bO]
    have hm:a%b<b:=Nat.mod_lt _ (by omega)
    rw[Nat.mod_eq_of_lt (a:=a%b) (by omega)]
    refine⟨_,_,rfl,⟨fun x hx=>nV (by decide) _ _ _ hx,by rw[bp];omega⟩,?_,⟨?_,by simp⟩,?_,by rw[bp];omega,by simp⟩
    ·show val _ _=_
     rw[mh,Nat.mod_eq_of_lt (Nat.lt_of_le_of_lt (Nat.div_le_self _ _) (dL (by decide) a))]
    ·intro x hx;simp at hx;omega
    ·simp[vl,val]
   ·have h1':¬(((can 4294967296 b).length:Int)≤1):=fun h=>h1 (mu.1 h)
    rw[show decide (((can 4294967296 b).length:Int)=1)=false by simp;omega,jT]
    obtain⟨n,hn⟩:∃n,(can 4294967296 b).length=n+2:=⟨(can 4294967296 b).length-2,by omega⟩
    have hl:(can 4294967296 b).length≤(can 4294967296 a).length:=(fe (by decide)).2 (Nat.lt_of_le_of_lt (by omega) (dL (by decide) a))
    obtain⟨l,x,hx,he⟩:=HY (B:=4294967296) (by decide) h0
    have Jw:(can 4294967296 b)[n+1]? ≠some 0:=by
     have:l.length=n+1:=by rw[he]at hn;simp at hn;omega
     rw[he,←this];simp;exact hx
    rw[Jx _ _ (gP (by omega)) (gP (by omega)) hn hl Jw,bO,eL,eL]
    have hbp:0<b:=by omega
    have e1:a<4294967296^(can 4294967296 a).length:=dL (by decide) a
    have e2:b<4294967296^(can 4294967296 b).length:=dL (by decide) b
    have e3:4294967296^(n+1)≤b:=wG (by decide) (by omega)
    refine⟨_,_,rfl,⟨fun x hx=>nV (by decide) _ _ _ hx,by rw[bp];omega⟩,?_,⟨fun x hx=>nV (by decide) _ _ _ hx,by rw[bp];omega⟩,?_,by rw[bp];omega,by rw[bp];omega⟩
    ·show val _ _=_
     rw[mh,Nat.mod_eq_of_lt]
     rw[Nat.div_lt_iff_lt_mul hbp]
     have:4294967296^((can 4294967296 a).length-(can 4294967296 b).length+1)*4294967296^(n+1)=4294967296^(can 4294967296 a).length:=by rw[←Nat.pow_add];congr 1;omega
     calc a<4294967296^((can 4294967296 a).length-(can 4294967296 b).length+1)*4294967296^(n+1):=by rw[this];exact e1
      _≤_:=Nat.mul_le_mul_left _ e3
    ·show val _ _=_
     rw[mh,Nat.mod_eq_of_lt (Nat.lt_trans (Nat.mod_lt _ hbp) e2)]
end Go.Proofs.YtningmnklfpfjaaGreat
namespace Go.Proofs.YtningmnklfpfjaaGreat
open Go.Fw
theorem mY{x:Int}(h1: -9223372036854775808≤x)(h2:x≤9223372036854775807):bw x=some (zn x):=by
 unfold bw
 simp only[bO,cm]
 by_cases hx:x<0
 ·have e:(x%18446744073709551616).toNat=18446744073709551616-x.natAbs:=by omega
  rw[show decide (x<0)=true by simp[hx],jn,e,A5 (by omega) (by omega),show 18446744073709551616+0-(18446744073709551616-x.natAbs)=x.natAbs by omega,qY _ _ (by omega),bO,qe,show sv true x.natAbs=x by simp[sv];omega]
 ·have e:(x%18446744073709551616).toNat=x.natAbs:=by omega
  rw[show decide (x<0)=false by simp[hx],jT,e,qY _ _ (by omega),bO,qe,show sv false x.natAbs=x by simp[sv];omega]
def fu(i:Int):Prop:=-9223372036854775808≤i∧i≤9223372036854775807
instance(i:Int):Decidable (fu i):=by unfold fu;infer_instance
def uV(i:Int):Int×Bool:=if fu i then(i,true)else(0,false)
theorem pz{z:Zr}(h:Wl z):c7 z=some (uV (zi z)):=by
 obtain⟨n,w⟩:=z
 unfold c7
 have ht:=h.trim
 have agh:vl w<18446744073709551616→dj (can 4294967296 (vl w))=some (vl w):=fun h2=>by
  rw[low_eq _ (fun _ hx=>mm (by decide) hx) (by have:=gj.2 h2;omega),eL]
 show(aD w).bind _=some (uV (sv n (vl w)))
 rw[show aD w=some (can 4294967296 (vl w))from ht]
 simp only[bO]
 generalize vl w=v at*
 by_cases h2:v<18446744073709551616
 ·have:=gj.2 h2
  rw[show decide ((2:Int)<((can 4294967296 v).length:Int))=false by simp;omega,jT,agh h2,bO]
  cases n
  ·rw[jT,pq]
   by_cases h3:v<9223372036854775808
   ·rw[show decide (9223372036854775808≤v)=false by simp;omega,jT,vw (by omega),uV,if_pos (by unfold fu;omega)]
   ·rw[show decide (9223372036854775808≤v)=true by simp;omega,jn,uV,if_neg (by unfold fu;omega)]
  ·rw[jn,show sv true v=-(v:Int)from rfl]
   by_cases h3:9223372036854775808<v
   ·rw[show decide (9223372036854775808<v)=true by simp;omega,jn,uV,if_neg (by unfold fu;omega)]
   ·rw[show decide (9223372036854775808<v)=false by simp;omega,jT,uV,if_pos (by unfold fu;omega)]
    by_cases h0:v=0
    ·subst h0;rfl
    ·rw[A5 (by omega) (by omega)]
     rw[show IntKind.i64.wrap ((18446744073709551616+0-v:Nat):Int)=-(v:Int) by
      rw[IntKind.wrap];simp[IntKind.signed,IntKind.bits];omega]
 ·have:¬(((can 4294967296 v).length:Int)≤2):=fun h=>h2 (gj.1 h)
  rw[show decide ((2:Int)<((can 4294967296 v).length:Int))=true by simp;omega,jn,uV,if_neg (by unfold fu;cases n<;>simp[sv]<;>omega)]
theorem sign_eq{z:Zr}(h:Wl z):cK z=some (zi z).sign:=by
 obtain⟨n,w⟩:=z
 unfold cK
 show(aD w).bind _=some (sv n (vl w)).sign
 rw[show aD w=some (can 4294967296 (vl w))from h.trim]
 simp only[bO]
 generalize vl w=v
 by_cases h0:v=0
 ·subst h0;cases n<;>rfl
 ·have:(can 4294967296 v).length≠0:=fun h=>h0 (qZ.1 h)
  rw[show decide (((can 4294967296 v).length:Int)=0)=false by simp;intro e;rw[e]at this;exact this rfl,jT]
  cases n
  ·rw[jT,pq,Int.sign_eq_one_of_pos (by omega)]
  ·rw[jn,show sv true v=-(v:Int)from rfl,Int.sign_eq_neg_one_of_neg (by omega)]
def q9(i j:Int):Int:=if i<j then-1 else if i=j then 0 else 1
theorem ni{i j:Int}(h:i<j):q9 i j=-1:=by simp[q9,h]
theorem nj{i j:Int}(h:j<i):q9 i j=1:=by
 have h1:¬i<j:=by omega
 have h2:¬i=j:=by omega
 simp[q9,h1,h2]
theorem vB(i:Int):q9 i i=0:=by simp[q9]
theorem Ij(v w:Nat):DX v w=q9 (v:Int) (w:Int):=by
 rcases Nat.lt_trichotomy v w with h|h|h
 ·rw[yw h,ni (by omega)]
 ·rw[h,F6,vB]
 ·rw[A9 h,nj (by omega)]
theorem PC(i j:Int):q9 (-i) (-j)=q9 j i:=by
 rcases Int.lt_trichotomy i j with h|h|h
 ·rw[nj h,nj (by omega)]
 ·rw[h,vB,vB]
 ·rw[ni h,ni (by omega)]
theorem Xo{x y:Zr}(hx:Wl x)(hy:Wl y):nq x y=some (q9 (zi x) (zi y)):=by
 obtain⟨n,w⟩:=x
 obtain⟨m,u⟩:=y
 unfold nq
 show(cK ⟨n,w⟩).bind _=_
 rw[sign_eq hx,bO]
 show(cK ⟨m,u⟩).bind _=_
 rw[sign_eq hy,bO,show aD w=some (can 4294967296 (vl w))from hx.trim,show aD u=some (can 4294967296 (vl u))from hy.trim]
 simp only[bO]
 rw[kL _ _ (Nat.le_trans hx.cl (by decide)) (Nat.le_trans hy.cl (by decide)),kL _ _ (Nat.le_trans hy.cl (by decide)) (Nat.le_trans hx.cl (by decide))]
 simp only[bO]
 rw[show zi ⟨n,w⟩=sv n (vl w)from rfl,show zi ⟨m,u⟩=sv m (vl u)from rfl]
 generalize vl w=a
 generalize vl u=b
 rw[Ij,Ij]
 obtain⟨i,hi⟩:∃i,sv n a=i:=⟨_,rfl⟩
 obtain⟨j,hj⟩:∃j,sv m b=j:=⟨_,rfl⟩
 have XM:(i<0→i=-(a:Int))∧(0≤i→i=a):=by rw[←hi];cases n<;>simp[sv]<;>omega
 have hjb:(j<0→j=-(b:Int))∧(0≤j→j=b):=by rw[←hj];cases m<;>simp[sv]<;>omega
 rw[hi,hj]
 rcases Int.lt_trichotomy i 0 with h1|h1|h1<;>rcases Int.lt_trichotomy j 0 with h2|h2|h2
 ·rw[Int.sign_eq_neg_one_of_neg h1,Int.sign_eq_neg_one_of_neg h2,XM.1 h1,hjb.1 h2,PC];rfl
 ·rw[Int.sign_eq_neg_one_of_neg h1,show Int.sign j=0 by rw[h2];rfl,show q9 i j=-1 from ni (by omega)];rfl
 ·rw[Int.sign_eq_neg_one_of_neg h1,Int.sign_eq_one_of_pos h2,show q9 i j=-1 from ni (by omega)];rfl
 ·rw[show Int.sign i=0 by rw[h1];rfl,Int.sign_eq_neg_one_of_neg h2,show q9 i j=1 from nj (by omega)];rfl
 ·rw[show Int.sign i=0 by rw[h1];rfl,show Int.sign j=0 by rw[h2];rfl,←XM.2 (by omega),←hjb.2 (by omega)];rfl
 ·rw[show Int.sign i=0 by rw[h1];rfl,Int.sign_eq_one_of_pos h2,show q9 i j=-1 from ni (by omega)];rfl
 ·rw[Int.sign_eq_one_of_pos h1,Int.sign_eq_neg_one_of_neg h2,show q9 i j=1 from nj (by omega)];rfl
 ·rw[Int.sign_eq_one_of_pos h1,show Int.sign j=0 by rw[h2];rfl,show q9 i j=1 from nj (by omega)];rfl
 ·rw[Int.sign_eq_one_of_pos h1,Int.sign_eq_one_of_pos h2,←XM.2 (by omega),←hjb.2 (by omega)];rfl
theorem neg_eq{x:Zr}(hx:Wl x):eV x=some (zn (-zi x)):=by
 obtain⟨n,w⟩:=x
 unfold eV
 have hc:(can 4294967296 (vl w)).length≤10000000000:=hx.cl
 simp only[bO]
 rw[show aD w=some (can 4294967296 (vl w))from hx.trim,bO,yz _ (by omega),bO,kH _ _ (gP (by omega)),bO,eL,qe,Ga]
 rfl
end Go.Proofs.YtningmnklfpfjaaGreat
namespace Go.Proofs.YtningmnklfpfjaaGreat
open Go.Fw
theorem yA(n m:Bool)(a b:Nat)(ha:(can 4294967296 a).length≤10000000000)(hb:(can 4294967296 b).length≤10000000000):
  cf n (can 4294967296 a) m (can 4294967296 b)=some (zn (sv n a+sv m b)):=by
 have la:=dL (B:=4294967296) (by decide) a
 have lb:=dL (B:=4294967296) (by decide) b
 unfold cf
 simp only[bO]
 by_cases hnm:n=m
 ·subst hnm
  rw[show(n==n)=true by simp,jn,z9 _ _ (gP (by omega)) (gP (by omega)),bO,eL,eL,kH _ _ ⟨fun x hx=>nV (by decide) _ _ _ hx,by rw[bp];omega⟩,bO]
  have hv:vl (fM 4294967296 (max (can 4294967296 a).length (can 4294967296 b).length+1) (a+b))=a+b:=by
   show val _ _=_
   rw[mh,Nat.mod_eq_of_lt]
   have h1:a<4294967296^(max (can 4294967296 a).length (can 4294967296 b).length):=Nat.lt_of_lt_of_le la (Nat.pow_le_pow_right (by decide) (by omega))
   have h2:b<4294967296^(max (can 4294967296 a).length (can 4294967296 b).length):=Nat.lt_of_lt_of_le lb (Nat.pow_le_pow_right (by decide) (by omega))
   rw[Nat.pow_succ];omega
  rw[hv,qe,show sv n (a+b)=sv n a+sv n b by cases n<;>simp[sv];omega]
 ·rw[show(n==m)=false by simp[hnm],jT,kL _ _ (by omega) (by omega),bO,Ii]
  have hm:m= !n:=by cases n<;>cases m<;>simp_all
  subst hm
  have hv:∀c d,d≤c→(can 4294967296 c).length≤10000000000→bZ (can 4294967296 c) (can 4294967296 d)=some (fM 4294967296 (can 4294967296 c).length (c-d))∧vl (fM 4294967296 (can 4294967296 c).length (c-d))=c-d:=by
   intro c d hdc vX
   have lc:=dL (B:=4294967296) (by decide) c
   have hdl:(can 4294967296 d).length≤(can 4294967296 c).length:=(fe (by decide)).2 (by omega)
   constructor
   ·rw[Aa _ _ (gP (by omega)) (gP (by omega)) hdl (by rw[eL,eL];exact hdc),eL,eL]
   ·show val _ _=_
    rw[mh,Nat.mod_eq_of_lt (by omega)]
  by_cases hlt:a<b
  ·obtain⟨h1,h2⟩:=hv b a (by omega) hb
   rw[show decide (a<b)=true by simp[hlt],jn,h1,bO,kH _ _ ⟨fun x hx=>nV (by decide) _ _ _ hx,by rw[bp];omega⟩,bO,h2,qe,show sv (!n) (b-a)=sv n a+sv (!n) b by cases n<;>simp[sv]<;>omega]
  ·obtain⟨h1,h2⟩:=hv a b (by omega) ha
   rw[show decide (a<b)=false by simp[hlt],jT,h1,bO,kH _ _ ⟨fun x hx=>nV (by decide) _ _ _ hx,by rw[bp];omega⟩,bO,h2,qe,show sv n (a-b)=sv n a+sv (!n) b by cases n<;>simp[sv]<;>omega]
theorem Ky(v:BitVec 64):IntKind.i64.wrap (v.toNat:Int)=v.toInt:=by
 rw[BitVec.toInt_eq_toNat_cond]
 have:=v.isLt
 rw[show(2:Nat)^64=18446744073709551616 by decide]at this⊢
 split
 ·rw[vw (by omega)]
 ·rw[IntKind.wrap];simp[IntKind.signed,IntKind.bits];omega
theorem Kz(v:BitVec 64):BitVec.ofInt 64 (IntKind.i64.wrap (v.toNat:Int))=v:=by rw[Ky,BitVec.ofInt_toInt]
theorem zK{x:Int}(h:fu x):(BitVec.ofInt 64 x).msb=decide (x<0):=by
 rw[BitVec.msb_eq_toInt,BitVec.toInt_ofInt]
 unfold fu at h
 have:x.bmod (2^64)=x:=by
  rw[Int.bmod_def]
  simp only[show((2^64:Nat):Int)=18446744073709551616 by decide]
  split<;>omega
 rw[this]
theorem ED(v:BitVec 64):decide ((0:Int)≤IntKind.i64.wrap (v.toNat:Int))= !v.msb:=by
 rw[Ky,BitVec.msb_eq_toInt]
 by_cases h:v.toInt<0
 ·simp[h]
 ·simp[h];omega
theorem rf(x:Int):fu (IntKind.i64.wrap x):=by
 unfold fu
 rw[IntKind.wrap];simp[IntKind.signed,IntKind.bits];split<;>omega
theorem C4{α:Type}(b:Bool)(x:α):(bif b then x else x)=x:=by cases b<;>rfl
theorem iV{i:Int}(h:fu i):uV i=(i,true):=if_pos h
theorem pA{i:Int}(h:¬fu i):uV i=(0,false):=if_neg h
theorem add_eq{x y:Zr}(hx:Wl x)(hy:Wl y):jB x y=some (zn (zi x+zi y)):=by
 obtain⟨n,w⟩:=x
 obtain⟨m,u⟩:=y
 unfold jB
 simp only[pz hx,pz hy,bO,cm]
 have hK:((aD w).bind fun rP=>(aD u).bind fun vp=>(cf n rP m vp).bind fun x=>some x)=some (zn (zi ⟨n,w⟩+zi ⟨m,u⟩)):=by
  rw[show aD w=some (can 4294967296 (vl w))from hx.trim,show aD u=some (can 4294967296 (vl u))from hy.trim,bO,bO,yA _ _ _ _ hx.cl hy.cl,bO];rfl
 have hK':((aD w).bind fun rP=>(aD u).bind fun vp=>(cf n rP m vp).bind fun x=>some ⟨x.neg,x.w⟩)=some (zn (zi ⟨n,w⟩+zi ⟨m,u⟩)):=hK
 rw[hK']
 generalize zi ⟨n,w⟩=i
 generalize zi ⟨m,u⟩=j
 by_cases h1:fu i
 ·by_cases h2:fu j
  ·rw[iV h1,iV h2,jn,bO,jn,Kz,Kz,ED,BitVec.msb_and,BitVec.msb_xor,BitVec.msb_xor,zK h1,zK h2,zK (rf _),mY (rf _).1 (rf _).2,bO]
   by_cases hr:fu (i+j)
   ·rw[cq hr.1 hr.2]
    exact C4 _ _
   ·have:(!((decide (i<0)^^decide (IntKind.i64.wrap (i+j)<0))&&(decide (j<0)^^decide (IntKind.i64.wrap (i+j)<0))))=false:=by
     unfold fu at*
     by_cases hs:i<0
     ·have e:IntKind.i64.wrap (i+j)=i+j+18446744073709551616:=by rw[IntKind.wrap];simp[IntKind.signed,IntKind.bits];omega
      rw[e,show decide (i<0)=true by simp[hs],show decide (j<0)=true by simp;omega,show decide (i+j+18446744073709551616<0)=false by simp;omega];rfl
     ·have e:IntKind.i64.wrap (i+j)=i+j-18446744073709551616:=by rw[IntKind.wrap];simp[IntKind.signed,IntKind.bits];omega
      rw[e,show decide (i<0)=false by simp[hs],show decide (j<0)=false by simp;omega,show decide (i+j-18446744073709551616<0)=true by simp;omega];rfl
    rw[this,jT]
  ·rw[iV h1,pA h2,jn,bO,jT]
 ·rw[pA h1,jT,bO,jT]
theorem sub_eq{x y:Zr}(hx:Wl x)(hy:Wl y):jC x y=some (zn (zi x-zi y)):=by
 obtain⟨n,w⟩:=x
 obtain⟨m,u⟩:=y
 unfold jC
 simp only[pz hx,pz hy,bO,cm]
 have hK':((aD w).bind fun rP=>(aD u).bind fun vp=>(cf n rP (!m) vp).bind fun x=>some ⟨x.neg,x.w⟩)=some (zn (zi ⟨n,w⟩-zi ⟨m,u⟩)):=by
  rw[show aD w=some (can 4294967296 (vl w))from hx.trim,show aD u=some (can 4294967296 (vl u))from hy.trim,bO,bO,yA _ _ _ _ hx.cl hy.cl,bO,Ga,←Int.sub_eq_add_neg];rfl
 rw[hK']
 generalize zi ⟨n,w⟩=i
 generalize zi ⟨m,u⟩=j
 by_cases h1:fu i
 ·by_cases h2:fu j
  ·rw[iV h1,iV h2,jn,bO,jn,Kz,Kz,ED,BitVec.msb_and,BitVec.msb_xor,BitVec.msb_xor,zK h1,zK h2,zK (rf _),mY (rf _).1 (rf _).2,bO]
   by_cases hr:fu (i-j)
   ·rw[cq hr.1 hr.2]
    exact C4 _ _
   ·have:(!((decide (i<0)^^decide (j<0))&&(decide (i<0)^^decide (IntKind.i64.wrap (i-j)<0))))=false:=by
     unfold fu at*
     by_cases hs:i<0
     ·have e:IntKind.i64.wrap (i-j)=i-j+18446744073709551616:=by rw[IntKind.wrap];simp[IntKind.signed,IntKind.bits];omega
      rw[e,show decide (i<0)=true by simp[hs],show decide (j<0)=false by simp;omega,show decide (i-j+18446744073709551616<0)=false by simp;omega];rfl
     ·have e:IntKind.i64.wrap (i-j)=i-j-18446744073709551616:=by rw[IntKind.wrap];simp[IntKind.signed,IntKind.bits];omega
      rw[e,show decide (i<0)=false by simp[hs],show decide (j<0)=true by simp;omega,show decide (i-j-18446744073709551616<0)=true by simp;omega];rfl
    rw[this,jT]
  ·rw[iV h1,pA h2,jn,bO,jT]
 ·rw[pA h1,jT,bO,jT]
theorem PD(n m:Bool)(a b:Nat):sv (!(n==m)) (a*b)=sv n a*sv m b:=by
 cases n<;>cases m<;>simp[sv,Int.neg_mul,Int.mul_neg]
theorem mul_eq{x y:Zr}(hx:Wl x)(hy:Wl y):cu x y=some (zn (zi x*zi y)):=by
 obtain⟨n,w⟩:=x
 obtain⟨m,u⟩:=y
 unfold cu
 have hcx:(can 4294967296 (vl w)).length≤10000000000:=hx.cl
 have hcy:(can 4294967296 (vl u)).length≤10000000000:=hy.cl
 simp only[]
 rw[show aD w=some (can 4294967296 (vl w))from hx.trim,show aD u=some (can 4294967296 (vl u))from hy.trim,bO,bO,show zi ⟨n,w⟩=sv n (vl w)from rfl,show zi ⟨m,u⟩=sv m (vl u)from rfl]
 simp only[bO,cm]
 generalize vl w=a at*
 generalize vl u=b at*
 have la:=dL (B:=4294967296) (by decide) a
 have lb:=dL (B:=4294967296) (by decide) b
 have hK:((dO (can 4294967296 a) (can 4294967296 b)).bind fun tg=>(bJ (!(n==m)) tg).bind fun x=>some ⟨x.neg,x.w⟩)=some (zn (sv n a*sv m b)):=by
  rw[Ia _ _ (gP (by omega)) (gP (by omega)),bO,eL,eL,kH _ _ ⟨fun x hx=>nV (by decide) _ _ _ hx,by rw[bp];omega⟩,bO,qe]
  have hv:vl (fM 4294967296 ((can 4294967296 a).length+(can 4294967296 b).length) (a*b))=a*b:=by
   show val _ _=_
   rw[mh,Nat.mod_eq_of_lt]
   rw[Nat.pow_add];exact Nat.mul_lt_mul'' la lb
  rw[hv,PD]
 rw[hK]
 by_cases h1:a<4294967296
 ·by_cases h2:b<4294967296
  ·have l1:=low_eq (can 4294967296 a) (fun _ hx=>mm (by decide) hx) (by have:=mu.2 h1;omega)
   have l2:=low_eq (can 4294967296 b) (fun _ hx=>mm (by decide) hx) (by have:=mu.2 h2;omega)
   rw[eL]at l1 l2
   have hlt:a*b<18446744073709551616:=Nat.mul_lt_mul'' h1 h2
   rw[show decide (((can 4294967296 a).length:Int)≤1)=true by rw[decide_eq_true_eq];exact mu.2 h1,jn,bO,show decide (((can 4294967296 b).length:Int)≤1)=true by rw[decide_eq_true_eq];exact mu.2 h2,jn,l1,l2,bO,bO,Nat.mod_eq_of_lt hlt,qY _ _ hlt,bO,qe,PD]
  ·rw[show decide (((can 4294967296 a).length:Int)≤1)=true by rw[decide_eq_true_eq];exact mu.2 h1,jn,bO,show decide (((can 4294967296 b).length:Int)≤1)=false by rw[decide_eq_false_iff_not];exact fun h=>h2 (mu.1 h),jT]
 ·rw[show decide (((can 4294967296 a).length:Int)≤1)=false by rw[decide_eq_false_iff_not];exact fun h=>h1 (mu.1 h),jT,bO,jT]
end Go.Proofs.YtningmnklfpfjaaGreat
namespace Go.Proofs.YtningmnklfpfjaaGreat
open Go.Fw
theorem Xp(n m:Bool){a b:Nat}(hb:0<b):
  sv n a/sv m b=(if n=true∧0<a%b then sv (!(n==m)) (a/b+1)else sv (!(n==m)) (a/b))∧
  sv n a%sv m b=(if n=true∧0<a%b then((b-a%b:Nat):Int)else((a%b:Nat):Int)):=by
 have hd:=Nat.div_add_mod a b
 have hm:=Nat.mod_lt a hb
 revert hd hm
 generalize a/b=q
 generalize a%b=r
 intro hd hm
 have hd':(b:Int)*q+r=a:=by exact_mod_cast hd
 have pos:∀n,sv n a/(b:Int)=(if n=true∧0<r then sv n (q+1)else sv n q)∧sv n a%(b:Int)=(if n=true∧0<r then((b-r:Nat):Int)else(r:Int)):=by
  intro n
  apply(Int.ediv_emod_unique (by omega)).2
  cases n
  ·simp[sv];omega
  ·by_cases hr:0<r
   ·simp only[hr,and_self,if_true,sv,cond_true]
    have:(b:Int)* -((q+1:Nat):Int)=-((b:Int)*q)-b:=by
     rw[Int.mul_neg,Int.natCast_add,Int.mul_add];simp;omega
    rw[this];omega
   ·have:r=0:=by omega
    subst this
    simp[sv,Int.mul_neg];omega
 cases m
 ·have:=pos n
  rw[pq,show(!(n==false))=n by cases n<;>rfl]
  exact this
 ·have:=pos n
  rw[show sv true b=-(b:Int)from rfl,Int.ediv_neg,Int.emod_neg,this.1,this.2,show(!(n==true))= !n by cases n<;>rfl,Ga,Ga]
  refine⟨?_,rfl⟩
  split<;>rfl
theorem Xq{a b:Nat}(hba:b≤a)(vX:(can 4294967296 a).length≤10000000000):bZ (can 4294967296 a) (can 4294967296 b)=some (fM 4294967296 (can 4294967296 a).length (a-b))∧vl (fM 4294967296 (can 4294967296 a).length (a-b))=a-b:=by
 have lc:=dL (B:=4294967296) (by decide) a
 have hdl:(can 4294967296 b).length≤(can 4294967296 a).length:=(fe (by decide)).2 (by omega)
 constructor
 ·rw[Aa _ _ (gP (by omega)) (gP (by omega)) hdl (by rw[eL,eL];exact hba),eL,eL]
 ·show val _ _=_
  rw[mh,Nat.mod_eq_of_lt (by omega)]
def R4(i j:Int):Zr×Zr×Int:=if j=0 then(⟨false,[]⟩,⟨false,[]⟩,7)else(zn (i/j),zn (i%j),0)
theorem divMod_eq{x y:Zr}(hx:Wl x)(hy:Wl y):dx x y=some (R4 (zi x) (zi y)):=by
 obtain⟨n,w⟩:=x
 obtain⟨m,u⟩:=y
 unfold dx
 have hcx:(can 4294967296 (vl w)).length≤10000000000:=hx.cl
 have hcy:(can 4294967296 (vl u)).length≤10000000000:=hy.cl
 simp only[]
 rw[show aD w=some (can 4294967296 (vl w))from hx.trim,show aD u=some (can 4294967296 (vl u))from hy.trim,bO,bO,show zi ⟨n,w⟩=sv n (vl w)from rfl,show zi ⟨m,u⟩=sv m (vl u)from rfl]
 simp only[bO,cm]
 generalize vl w=a at*
 generalize vl u=b at*
 by_cases h0:b=0
 ·subst h0
  rw[show sv m 0=0 by cases m<;>rfl];rfl
 ·have zY:(can 4294967296 b).length≠0:=fun h=>h0 (qZ.1 h)
  rw[show decide (((can 4294967296 b).length:Int)=0)=false by simp;intro e;rw[e]at zY;exact zY rfl,jT]
  obtain⟨q,r,hqr,hq1,hq2,Wj,ZM,hq3,hr3⟩:=Ab a b hcx hcy h0
  have hm:a%b<b:=Nat.mod_lt _ (by omega)
  obtain⟨e1,e2⟩:=Xp n m (a:=a) (show 0<b by omega)
  have hj:sv m b≠0:=by cases m<;>simp[sv]<;>omega
  rw[hqr,bO]
  simp only[]
  rw[Ba r (by have:=Wj.2;omega),qW (by decide) Wj.1,show val 4294967296 r=a%b from ZM,bO,R4,if_neg hj,e1,e2]
  have PE:(can 4294967296 (a%b)).length≤(can 4294967296 b).length:=(fe (by decide)).2 (Nat.lt_trans hm (dL (by decide) b))
  have hK:∀c:Bool,(decide (n=true∧0<a%b)=c)→(bif c then(c9 q [1]).bind fun tg=>(bZ (can 4294967296 b) (can 4294967296 (a%b))).bind fun rB=>(bJ (!(n==m)) tg).bind fun x=>(bJ false rB).bind fun x_1=>some ((⟨x.neg,x.w⟩:Zr),(⟨x_1.neg,x_1.w⟩:Zr),(0:Int))
    else(bJ (!(n==m)) q).bind fun x=>(bJ false (can 4294967296 (a%b))).bind fun x_1=>some ((⟨x.neg,x.w⟩:Zr),(⟨x_1.neg,x_1.w⟩:Zr),(0:Int)))=
    some (zn (if n=true∧0<a%b then sv (!(n==m)) (a/b+1)else sv (!(n==m)) (a/b)),zn (if n=true∧0<a%b then((b-a%b:Nat):Int)else((a%b:Nat):Int)),0):=by
   intro c hc
   cases c
   ·have hc':=of_decide_eq_false hc
    rw[jT,if_neg hc',if_neg hc',kH _ _ hq1,bO,kH _ _ (gP (by omega)),bO,eL,hq2,qe,qe,pq]
   ·have hc':=of_decide_eq_true hc
    obtain⟨s1,s2⟩:=Xq (a:=b) (b:=a%b) (by omega) hcy
    have w1:Gq [1]:=⟨by simp,by simp⟩
    rw[jn,if_pos hc',if_pos hc',z9 _ _ hq1 w1,bO,s1,bO,kH _ _ ⟨fun x hx=>nV (by decide) _ _ _ hx,by rw[bp];simp;omega⟩,bO,kH _ _ ⟨fun x hx=>nV (by decide) _ _ _ hx,by rw[bp];omega⟩,bO,s2,qe,qe,pq]
    have:vl (fM 4294967296 (max q.length [1].length+1) (vl q+vl [1]))=a/b+1:=by
     show val _ _=_
     rw[mh,show vl [1]=1 by decide,hq2,Nat.mod_eq_of_lt]
     have h1:vl q<4294967296^q.length:=jo q hq1.1
     rw[hq2]at h1
     have h2:4294967296^q.length≤4294967296^(max q.length [1].length):=Nat.pow_le_pow_right (by decide) (by omega)
     have h3:0<4294967296^(max q.length [1].length):=Nat.pow_pos (by decide)
     rw[Nat.pow_succ];omega
    rw[this]
  have hz:(0<(can 4294967296 (a%b)).length)↔0<a%b:=by
   have:=qZ (v:=a%b);omega
  cases n
  ·rw[jT,bO]
   exact hK false (by simp)
  ·rw[jn,bO]
   refine hK _ ?_
   simp only[true_and]
   by_cases h:0<a%b
   ·simp[h,hz.2 h]
   ·have h':¬0<(can 4294967296 (a%b)).length:=fun e=>h (hz.1 e)
    have h'':¬((0:Int)<((can 4294967296 (a%b)).length:Int)):=by omega
    simp only[h,h'',decide_false]
theorem Xr{x y:Zr}(hx:Wl x)(hy:Wl y):iz x y=some (zn (Int.gcd (zi x) (zi y):Int)):=by
 obtain⟨n,w⟩:=x
 obtain⟨m,u⟩:=y
 unfold iz
 have hcx:(can 4294967296 (vl w)).length≤10000000000:=hx.cl
 have hcy:(can 4294967296 (vl u)).length≤10000000000:=hy.cl
 simp only[]
 rw[show aD w=some (can 4294967296 (vl w))from hx.trim,show aD u=some (can 4294967296 (vl u))from hy.trim,bO,bO,Int.gcd,F9,F9]
 show _=some (zn ((Nat.gcd (vl w) (vl u):Nat):Int))
 generalize vl w=a at*
 generalize vl u=b at*
 refine oE (fun s=>∃c d,s=(can 4294967296 c,can 4294967296 d)∧Nat.gcd c d=Nat.gcd a b∧(can 4294967296 c).length≤10000000000∧(can 4294967296 d).length≤10000000000)
  (fun s=>∃c d,s=(can 4294967296 c,can 4294967296 d)∧Nat.gcd c d=Nat.gcd a b∧(can 4294967296 c).length≤10000000000∧(d=0∨(c<18446744073709551616∧d<18446744073709551616))) (fun s=>vl s.2) ?_ ⟨a,b,rfl,rfl,hcx,hcy⟩ ?_
 ·rintro _ ⟨c,d,rfl,hg,hc,hd⟩
  simp only[bO,cm]
  by_cases h0:d=0
  ·right
   subst h0
   exact⟨_,rfl,c,0,rfl,hg,hc,.inl rfl⟩
  ·have zY:(can 4294967296 d).length≠0:=fun h=>h0 (qZ.1 h)
   rw[show decide ((0:Int)<((can 4294967296 d).length:Int))=true by simp;omega,jn]
   by_cases h2:c<18446744073709551616∧d<18446744073709551616
   ·right
    have c1:=gj.2 h2.1
    have c2:=gj.2 h2.2
    rw[show decide ((2:Int)<((can 4294967296 c).length:Int))=false by simp;omega,jT,show decide ((2:Int)<((can 4294967296 d).length:Int))=false by simp;omega]
    exact⟨_,rfl,c,d,rfl,hg,hc,.inr h2⟩
   ·left
    have hm:c%d<d:=Nat.mod_lt _ (by omega)
    obtain⟨q,r,hqr,hq1,hq2,Wj,ZM,-,-⟩:=Ab c d hc hd h0
    have Mq:((bif decide ((2:Int)<((can 4294967296 c).length:Int))then some true else some (decide ((2:Int)<((can 4294967296 d).length:Int)))):Option Bool)=some true:=by
     by_cases Gw:c<18446744073709551616
     ·have hd2:¬d<18446744073709551616:=fun h=>h2 ⟨Gw,h⟩
      have:¬(((can 4294967296 d).length:Int)≤2):=fun h=>hd2 (gj.1 h)
      rw[show decide ((2:Int)<((can 4294967296 d).length:Int))=true by simp;omega]
      exact C4 _ _
     ·have:¬(((can 4294967296 c).length:Int)≤2):=fun h=>Gw (gj.1 h)
      rw[show decide ((2:Int)<((can 4294967296 c).length:Int))=true by simp;omega,jn]
    rw[Mq,bO,bO,jn,hqr,bO]
    simp only[]
    rw[Ba r (by have:=Wj.2;omega),qW (by decide) Wj.1,show val 4294967296 r=c%d from ZM,bO]
    refine⟨_,rfl,⟨d,c%d,rfl,?_,hd,?_⟩,?_⟩
    ·rw[←hg,Nat.gcd_comm d,←Nat.gcd_rec,Nat.gcd_comm]
    ·exact Nat.le_trans ((fe (by decide)).2 (Nat.lt_trans hm (dL (by decide) d))) hd
    ·simp only[eL];exact hm
 ·rintro _ ⟨c,d,rfl,hg,hc,PA⟩
  simp only[bO]
  by_cases h0:d=0
  ·subst h0
   rw[show decide (((can 4294967296 0).length:Int)=0)=true by simp[uU],jn,yz _ (by omega),bO,kH _ _ (gP (by omega)),bO,eL,qe,pq,←hg,Nat.gcd_zero_right]
  ·have h2:=PA.resolve_left h0
   have zY:(can 4294967296 d).length≠0:=fun h=>h0 (qZ.1 h)
   have c1:=gj.2 h2.1
   have c2:=gj.2 h2.2
   rw[show decide (((can 4294967296 d).length:Int)=0)=false by simp;intro e;rw[e]at zY;exact zY rfl,jT,low_eq _ (fun _ hx=>mm (by decide) hx) (by omega),bO,low_eq _ (fun _ hx=>mm (by decide) hx) (by omega),bO,eL,eL]
   refine oE (fun s=>Nat.gcd s.1 s.2=Nat.gcd a b∧s.1<18446744073709551616∧s.2<18446744073709551616) (fun e=>e=Nat.gcd a b∧e<18446744073709551616) (fun s=>s.2) ?_ ⟨hg,h2.1,h2.2⟩ ?_
   ·rintro⟨s,t⟩ ⟨i1,i2,i3⟩
    simp only at i1 i2 i3⊢
    by_cases ht:0<t
    ·left
     rw[show decide (0<t)=true by simp[ht],jn,A7 (by omega),bO]
     refine⟨_,rfl,⟨?_,i3,?_⟩,Nat.mod_lt _ ht⟩
     ·rw[←i1,Nat.gcd_comm t,←Nat.gcd_rec,Nat.gcd_comm]
     ·exact Nat.lt_trans (Nat.mod_lt _ ht) i3
    ·right
     rw[show decide (0<t)=false by simp[ht],jT]
     refine⟨_,rfl,?_,i2⟩
     rw[←i1,show t=0 by omega,Nat.gcd_zero_right]
   ·rintro e ⟨rfl,he⟩
    rw[qY _ _ he,bO,qe,pq]
end Go.Proofs.YtningmnklfpfjaaGreat
namespace Go.Proofs.YtningmnklfpfjaaGreat
open Go.Fw
def zl(l:List Nat):List Int:=l.map (fun(n:Nat)=>(n:Int))
abbrev Yd(l:List Nat):Nat:=val 65536 l
end Go.Proofs.YtningmnklfpfjaaGreat
namespace Go.Proofs.YtningmnklfpfjaaGreat
open Go.Fw
theorem p9(k:Nat):10^(9*(k+1))=10^(9*k)*1000000000:=by
 rw[show 9*(k+1)=9*k+9 by omega,Nat.pow_add]
end Go.Proofs.YtningmnklfpfjaaGreat
namespace Go.Proofs.YtningmnklfpfjaaGreat
open Go.Fw
def body(s:Qb):Qb:=if s.head?=some 45 then s.tail else s
def dv(s:Qb):Nat:=s.foldl (fun a c=>a*10+(c.toNat-48)) 0
def z0:Zr:=⟨false,[]⟩
end Go.Proofs.YtningmnklfpfjaaGreat
namespace Go.Proofs.YtningmnklfpfjaaGreat
open Go.Fw
theorem zeta'(z:Zr):(⟨z.neg,z.w⟩:Zr)=z:=by cases z;rfl
theorem LO{i:Int}(h:fu i):Fit 2 i:=Fit.i64 h.1 h.2
end Go.Proofs.YtningmnklfpfjaaGreat
namespace Go.Proofs.YtningmnklfpfjaaGreat
open Go.Fw
theorem R5(l:List Zr)(hl:l.length≤100):∃b,lY l=some b∧(b=false→∀z∈l,z.w.length≤12):=by
 unfold lY
 simp only[bO]
 refine oz (fun y=>∃i:Nat,y=(i:Int)∧i≤l.length∧∀z∈l.take i,z.w.length≤12) (fun e=>(∃c,e=.inl c∧∀z∈l,z.w.length≤12)∨e=.inr true) (fun y=>l.length-y.toNat) ?_ ⟨0,rfl,by omega,by simp⟩ ?_
 ·rintro _ ⟨i,rfl,hi,ht⟩
  by_cases hlt:i<l.length
  ·have g:l[i]? =some l[i]:=by simp
   rw[show decide ((i:Int)<(l.length:Int))=true by simp[hlt],jn,aQ g,bO]
   by_cases eI:l[i].w.length≤12
   ·left
    rw[show decide ((12:Int)<(l[i].w.length:Int))=false by rw[decide_eq_false_iff_not];omega,jT,bt (by omega)]
    refine⟨_,rfl,⟨i+1,rfl,hlt,?_⟩,by omega⟩
    rw[List.take_add_one,g]
    intro z hz
    rcases List.mem_append.1 hz with h|h
    ·exact ht z h
    ·simp at h;rw[h];exact eI
   ·right
    rw[show decide ((12:Int)<(l[i].w.length:Int))=true by rw[decide_eq_true_eq];omega,jn]
    exact⟨_,rfl,.inr rfl⟩
  ·right
   rw[show decide ((i:Int)<(l.length:Int))=false by simp;omega,jT]
   rw[List.take_of_length_le (by omega)]at ht
   exact⟨_,rfl,.inl ⟨_,rfl,ht⟩⟩
 ·rintro e (⟨c,rfl,he⟩|rfl)
  ·exact⟨false,rfl,fun _=>he⟩
  ·exact⟨true,rfl,fun h=>by cases h⟩
theorem PF(i j:Int):(i-j).sign=q9 i j:=by
 rcases Int.lt_trichotomy i j with h|h|h
 ·rw[ni h,Int.sign_eq_neg_one_of_neg (by omega)]
 ·rw[h,vB,Int.sub_self];rfl
 ·rw[nj h,Int.sign_eq_one_of_pos (by omega)]
abbrev OkZ(z:Zr):Prop:=True∧(z.w.length≤9223372036854775807∧∀x∈z.w,x<4294967296)
end Go.Proofs.YtningmnklfpfjaaGreat
namespace Go.Proofs.YtningmnklfpfjaaGreat
open Go.Fw
theorem Fit.div{L:Nat}{i:Int}(h:Fit L i)(j:Int):Fit L (i/j):=h.le (Int.natAbs_ediv_le_natAbs i j)
theorem Fit.gcd{L:Nat}{i j:Int}(h:Fit L i)(h':Fit L j):Fit L (Int.gcd i j:Int):=by
 by_cases h0:i=0
 ·subst h0;rw[Int.gcd_zero_left];exact h'.le (by simp)
 ·have:Int.gcd i j∣i.natAbs:=Nat.gcd_dvd_left _ _
  exact h.le (by have:=Nat.le_of_dvd (by omega) this;simpa using this)
end Go.Proofs.YtningmnklfpfjaaGreat
namespace Go.Proofs.YtningmnklfpfjaaGreat
open Go.Fw
def qd(q:Qr):Int:=if zi q.den=0 then 1 else zi q.den
def qv(q:Qr):Rat:=Rat.divInt (zi q.num) (qd q)
def qn(r:Rat):Qr:=⟨zn r.num,if r.den=1 then⟨false,[]⟩else zn (r.den:Int)⟩
def FQ(L:Nat)(r:Rat):Prop:=Fit L r.num∧Fit L (r.den:Int)
structure kJ (L:Nat) (q:Qr) (r:Rat):Prop where
 n:∀x∈q.num.w,x<4294967296
 d:∀x∈q.den.w,x<4294967296
 ln:q.num.w.length≤L
 ld:q.den.w.length≤L
 l1:1≤L
 v:qv q=r
theorem aaS(q:Qr):qd q≠0:=by
 unfold qd
 by_cases h:zi q.den=0
 ·rw[if_pos h];decide
 ·rw[if_neg h];exact h
theorem aaT(r:Rat):qv (qn r)=r:=by
 unfold qv qd qn
 by_cases h:r.den=1
 ·rw[if_pos h]
  show Rat.divInt (zi (zn r.num)) (if zi ⟨false,[]⟩=0 then 1 else zi ⟨false,[]⟩)=r
  rw[if_pos (show zi ⟨false,[]⟩=0 from rfl),fP]
  have:=Rat.num_divInt_den r
  rw[h]at this;exact this
 ·rw[if_neg h]
  show Rat.divInt (zi (zn r.num)) (if zi (zn (r.den:Int))=0 then 1 else zi (zn (r.den:Int)))=r
  have:=r.den_nz
  rw[fP,fP,if_neg (by omega),Rat.num_divInt_den]
theorem KA{w:List Nat}{n:Bool}{L:Nat}(h:∀x∈w,x<4294967296)(hl:w.length≤L):Fit L (zi ⟨n,w⟩):=by
 unfold Fit
 rw[F9]
 exact Nat.lt_of_lt_of_le (jo w h) (Nat.pow_le_pow_right (by decide) hl)
theorem Bc{L:Nat}(h:1≤L):Fit L 1:=by
 unfold Fit
 exact Nat.lt_of_lt_of_le (show(1:Int).natAbs<4294967296^1 by decide) (Nat.pow_le_pow_right (by decide) h)
theorem FQ.rep{L:Nat}{r:Rat}(h:FQ L r)(h1:1≤L):kJ L (qn r) r:=by
 refine⟨fun x hx=>mm (by decide) hx,?_,(fe (by decide)).2 h.1,?_,h1,aaT r⟩
 ·unfold qn
  by_cases e:r.den=1
  ·rw[if_pos e];simp
  ·rw[if_neg e];exact fun x hx=>mm (by decide) hx
 ·unfold qn
  by_cases e:r.den=1
  ·rw[if_pos e];simp
  ·rw[if_neg e];exact(fe (by decide)).2 h.2
theorem kJ.wn{L:Nat}{q:Qr}{r:Rat}(h:kJ L q r)(hL:L≤10000000000):Wl q.num:=⟨h.n,Nat.le_trans h.ln hL⟩
theorem kJ.wd{L:Nat}{q:Qr}{r:Rat}(h:kJ L q r)(hL:L≤10000000000):Wl q.den:=⟨h.d,Nat.le_trans h.ld hL⟩
theorem kJ.fn{L:Nat}{q:Qr}{r:Rat}(h:kJ L q r):Fit L (zi q.num):=KA (n:=q.num.neg) h.n h.ln
theorem kJ.fd{L:Nat}{q:Qr}{r:Rat}(h:kJ L q r):Fit L (zi q.den):=KA (n:=q.den.neg) h.d h.ld
theorem kJ.fqd{L:Nat}{q:Qr}{r:Rat}(h:kJ L q r):Fit L (qd q):=by
 unfold qd
 by_cases e:zi q.den=0
 ·rw[if_pos e];exact Bc h.l1
 ·rw[if_neg e];exact h.fd
theorem kJ.mono{L M:Nat}{q:Qr}{r:Rat}(h:kJ L q r)(hl:L≤M):kJ M q r:=⟨h.n,h.d,Nat.le_trans h.ln hl,Nat.le_trans h.ld hl,Nat.le_trans h.l1 hl,h.v⟩
theorem FQ.mono{L M:Nat}{r:Rat}(h:FQ L r)(hl:L≤M):FQ M r:=⟨h.1.mono hl,h.2.mono hl⟩
theorem ri{L:Nat}{a d:Int}(h0:d≠0)(ha:Fit L a)(hd:Fit L d):FQ L (Rat.divInt a d):=by
 generalize hr:Rat.divInt a d=r
 obtain⟨n',d',z',c⟩:=r
 obtain⟨m,hm,h1,h2⟩:=Rat.divInt_num_den h0 hr
 have hm':0<m.natAbs:=Int.natAbs_pos.2 hm
 refine⟨ha.le ?_,hd.le ?_⟩
 ·rw[h1,Int.natAbs_mul];exact Nat.le_mul_of_pos_right _ hm'
 ·rw[h2,Int.natAbs_mul];exact Nat.le_mul_of_pos_right _ hm'
theorem kJ.fq{L:Nat}{q:Qr}{r:Rat}(h:kJ L q r):FQ L r:=by rw[←h.v];exact ri (aaS q) h.fn h.fqd
theorem vC(r:Rat):r=Rat.divInt r.num (r.den:Int):=(Rat.num_divInt_den r).symm
theorem qu(r:Rat):(r.den:Int)≠0:=by have:=r.den_nz;omega
theorem FQ.add{L M:Nat}{x y:Rat}(hx:FQ L x)(hy:FQ M y):FQ (L+M+1) (x+y):=by
 have e:x+y=Rat.divInt (x.num*y.den+y.num*x.den) (x.den*y.den):=by
  conv=>lhs;rw[vC x,vC y,Rat.divInt_add_divInt _ _ (qu x) (qu y)]
 rw[e]
 refine ri (Int.mul_ne_zero (qu x) (qu y)) ?_ ?_
 ·exact(hx.1.mul hy.2).add (by rw[Nat.add_comm L M];exact hy.1.mul hx.2)
 ·exact(hx.2.mul hy.2).mono (by omega)
theorem FQ.sub{L M:Nat}{x y:Rat}(hx:FQ L x)(hy:FQ M y):FQ (L+M+1) (x-y):=by
 have e:x-y=Rat.divInt (x.num*y.den-y.num*x.den) (x.den*y.den):=by
  conv=>lhs;rw[vC x,vC y,Rat.divInt_sub_divInt _ _ (qu x) (qu y)]
 rw[e]
 refine ri (Int.mul_ne_zero (qu x) (qu y)) ?_ ?_
 ·exact(hx.1.mul hy.2).sub (by rw[Nat.add_comm L M];exact hy.1.mul hx.2)
 ·exact(hx.2.mul hy.2).mono (by omega)
theorem FQ.mul{L M:Nat}{x y:Rat}(hx:FQ L x)(hy:FQ M y):FQ (L+M) (x*y):=by
 have e:x*y=Rat.divInt (x.num*y.num) (x.den*y.den):=by
  conv=>lhs;rw[vC x,vC y,Rat.divInt_mul_divInt]
 rw[e]
 exact ri (Int.mul_ne_zero (qu x) (qu y)) (hx.1.mul hy.1) (hx.2.mul hy.2)
theorem FQ.neg{L:Nat}{x:Rat}(hx:FQ L x):FQ L (-x):=⟨hx.1.neg,hx.2⟩
theorem FQ.inv{L:Nat}{x:Rat}(hx:FQ L x)(h:x≠0):FQ L x⁻¹:=by
 have hn:x.num≠0:=fun e=>h (Rat.num_eq_zero.1 e)
 rw[Rat.inv_def]
 exact ri hn hx.2 hx.1
theorem FQ.div{L M:Nat}{x y:Rat}(hx:FQ L x)(hy:FQ M y)(h:y≠0):FQ (L+M) (x/y):=by rw[Rat.div_def];exact hx.mul (hy.inv h)
theorem FQ.int{L:Nat}{i:Int}(h:Fit L i)(h1:1≤L):FQ L (i:Rat):=⟨h,Bc h1⟩
def pB(x y:Rat):Int:=if x<y then-1 else if x=y then 0 else 1
theorem vD(x:Rat):pB x x=0:=by unfold pB;rw[if_neg Rat.lt_irrefl,if_pos rfl]
theorem LP{a b c d:Int}(hb:0<b)(hd:0<d):Rat.divInt a b<Rat.divInt c d↔a*d<c*b:=by
 have hb':(0:Rat)<(b:Rat):=Rat.intCast_pos.2 hb
 have hd':(0:Rat)<(d:Rat):=Rat.intCast_pos.2 hd
 rw[Rat.divInt_eq_div,Rat.divInt_eq_div,Rat.div_lt_iff hb',Rat.div_def,Rat.mul_assoc,Rat.mul_comm (d:Rat)⁻¹,←Rat.mul_assoc,←Rat.div_def,Rat.lt_div_iff hd',←Rat.intCast_mul,←Rat.intCast_mul,Rat.intCast_lt_intCast]
theorem Ik{a b c d:Int}(hb:0<b)(hd:0<d):pB (Rat.divInt a b) (Rat.divInt c d)=q9 (a*d) (c*b):=by
 unfold pB q9
 have e1:=LP (a:=a) (c:=c) hb hd
 have e2:=Rat.divInt_eq_divInt_iff (n₁:=a) (d₁:=b) (n₂:=c) (d₂:=d) (by omega) (by omega)
 by_cases h1:a*d<c*b
 ·rw[if_pos (e1.2 h1),if_pos h1]
 ·rw[if_neg (fun h=>h1 (e1.1 h)),if_neg h1]
  by_cases h2:a*d=c*b
  ·rw[if_pos (e2.2 h2),if_pos h2]
  ·rw[if_neg (fun h=>h2 (e2.1 h)),if_neg h2]
theorem uW{a b:Int}(hb:0<b):a.sign=pB (Rat.divInt a b) 0:=by
 have:(0:Rat)=Rat.divInt 0 1:=rfl
 rw[this,Ik hb (by decide),Int.mul_one,Int.zero_mul,←PF,Int.sub_zero]
theorem EE{a d:Int}(hd:0<d):qn (Rat.divInt a d)=⟨zn (a/(Int.gcd a d:Int)),if d/(Int.gcd a d:Int)=1 then⟨false,[]⟩else zn (d/(Int.gcd a d:Int))⟩:=by
 have h1:(Rat.divInt a d).num=a/(Int.gcd a d:Int):=by rw[Rat.num_divInt,Int.sign_eq_one_of_pos hd,Int.one_mul,Int.gcd_comm]
 have h2:((Rat.divInt a d).den:Int)=d/(Int.gcd a d:Int):=by
  rw[Rat.den_divInt,if_neg (by omega),Int.gcd_comm]
  have:(d.natAbs:Int)=d:=by omega
  rw[Int.natCast_ediv,this]
 unfold qn
 rw[h1,h2]
 by_cases e:(Rat.divInt a d).den=1
 ·rw[if_pos e,if_pos (by omega)]
 ·rw[if_neg e,if_neg (by omega)]
theorem R6(k:Int):((bif(uV k).2 then some (decide ((uV k).1=1))else some false):Option Bool)=some (decide (k=1)):=by
 by_cases h:fu k
 ·rw[iV h];rfl
 ·rw[pA h]
  have:¬k=1:=by rintro rfl;exact h (by decide)
  rw[decide_eq_false this];rfl
theorem C5{n d:Zr}(hn:Wl n)(hd:Wl d)(h:0<zi d):((iz n d).bind fun g=>(dx n g).bind fun a=>(dx d g).bind fun b=>(c7 b.1).bind fun c=>
  (bif c.2 then some (decide (c.1=1))else some false).bind fun e=>bif e then some (⟨a.1,⟨false,[]⟩⟩:Qr)else some ⟨a.1,b.1⟩)=some (qn (Rat.divInt (zi n) (zi d))):=by
 have g0:(Int.gcd (zi n) (zi d):Int)≠0:=by
  have:0<Int.gcd (zi n) (zi d):=Int.gcd_pos_of_ne_zero_right _ (by omega)
  omega
 have wg:Wl (zn (Int.gcd (zi n) (zi d):Int)):=kI ((Wl.fit hd).le (by
  have:=Nat.le_of_dvd (Int.natAbs_pos.2 (show zi d≠0 by omega)) (Int.gcd_dvd_natAbs_right (zi n) (zi d))
  simpa using this)) hd.2
 have wq:Wl (zn (zi d/(Int.gcd (zi n) (zi d):Int))):=kI ((Wl.fit hd).le (Int.natAbs_ediv_le_natAbs _ _)) hd.2
 rw[Xr hn hd,bO,divMod_eq hn wg,bO,divMod_eq hd wg,bO,fP,R4,if_neg g0,R4,if_neg g0]
 simp only[]
 rw[pz wq,bO,fP,R6,bO,EE h]
 by_cases e:zi d/(Int.gcd (zi n) (zi d):Int)=1
 ·rw[decide_eq_true e,jn,if_pos e]
 ·rw[decide_eq_false e,jT,if_neg e]
theorem reduce_eq{x y:Zr}(hx:Wl x)(hy:Wl y)(h0:zi y≠0):dy x y=some (qn (Rat.divInt (zi x) (zi y))):=by
 unfold dy
 simp only[cm,bO,zeta',sign_eq hy]
 by_cases h:zi y<0
 ·rw[show decide ((zi y).sign<0)=true by rw[Int.sign_eq_neg_one_of_neg h];rfl,jn,neg_eq hx,bO,neg_eq hy,bO]
  have hp:=C5 (kI (Wl.fit hx).neg hx.2) (kI (Wl.fit hy).neg hy.2) (by rw[fP];omega)
  rw[fP,fP,Rat.neg_divInt_neg]at hp
  exact hp
 ·rw[show decide ((zi y).sign<0)=false by rw[Int.sign_eq_one_of_pos (by omega)];rfl,jT]
  exact C5 hx hy (by omega)
end Go.Proofs.YtningmnklfpfjaaGreat
namespace Go.Proofs.YtningmnklfpfjaaGreat
open Go.Fw
theorem uX(q:Qr):(⟨⟨q.num.neg,q.num.w⟩,⟨q.den.neg,q.den.w⟩⟩:Qr)=q:=by cases q;rfl
theorem uY(q:Qr):(⟨q.num,q.den⟩:Qr)=q:=by cases q;rfl
theorem parts_eq{L:Nat}{q:Qr}{r:Rat}(h:kJ L q r)(hL:L≤10000000000):∃n d:Zr,cL q=some (n,d)∧Wl n∧Wl d∧0<zi d∧Rat.divInt (zi n) (zi d)=r∧Fit L (zi n)∧Fit L (zi d):=by
 have wn:=h.wn hL
 have wd:=h.wd hL
 have hv:=h.v
 unfold cL
 simp only[zeta',bO,sign_eq wd,mY (x:=1) (by decide) (by decide),neg_eq wn,neg_eq wd]
 unfold qv qd at hv
 rcases Int.lt_trichotomy (zi q.den) 0 with h1|h1|h1
 ·refine⟨_,_,?_,kI h.fn.neg hL,kI h.fd.neg hL,by rw[fP];omega,?_,by rw[fP];exact h.fn.neg,by rw[fP];exact h.fd.neg⟩
  ·rw[Int.sign_eq_neg_one_of_neg h1];rfl
  ·rw[fP,fP,Rat.neg_divInt_neg,←hv,if_neg (by omega)]
 ·refine⟨_,_,?_,wn,kI (Bc h.l1) hL,by rw[fP];decide,?_,h.fn,by rw[fP];exact Bc h.l1⟩
  ·rw[h1];rfl
  ·rw[fP,←hv,if_pos h1]
 ·refine⟨_,_,?_,wn,wd,h1,?_,h.fn,h.fd⟩
  ·rw[Int.sign_eq_one_of_pos h1];rfl
  ·rw[←hv,if_neg (by omega)]
def Sm(a:Int):Prop:=-2147483648<a∧a<2147483648
theorem Sm.ok{a:Int}(h:Sm a):fu a:=by unfold Sm at h;unfold fu;omega
theorem mw{L:Nat}{q:Qr}{r:Rat}(h:kJ L q r)(hL:L≤10000000000):∃a b c,dh q=some (a,b,c)∧(c=true→Sm a∧0<b∧Sm b∧Rat.divInt a b=r):=by
 have wn:=h.wn hL
 have wd:=h.wd hL
 have hv:=h.v
 unfold dh
 simp only[zeta',bO,cm,pz wn,pz wd]
 unfold qv qd at hv
 generalize zi q.num=n at*
 generalize zi q.den=d at*
 by_cases hs:Sm n∧Sm d
 ·obtain⟨h1,h2⟩:=hs
  rw[iV h1.ok,iV h2.ok]
  unfold Sm at h1 h2
  simp only[]
  rw[decide_eq_false (show ¬n≤-2147483648 by omega),decide_eq_false (show ¬2147483648≤n by omega),decide_eq_false (show ¬d≤-2147483648 by omega),decide_eq_false (show ¬2147483648≤d by omega)]
  simp only[Bool.not_true,jT,bO]
  by_cases h0:d=0
  ·rw[decide_eq_true h0,jn]
   refine⟨_,_,_,rfl,fun _=>⟨h1,by decide,⟨by decide,by decide⟩,?_⟩⟩
   rw[←hv,if_pos h0]
  ·rw[decide_eq_false h0,jT]
   rw[if_neg h0]at hv
   by_cases hneg:d<0
   ·rw[decide_eq_true hneg,jn,cq (by omega) (by omega),cq (by omega) (by omega)]
    refine⟨_,_,_,rfl,fun _=>⟨⟨by omega,by omega⟩,by omega,⟨by omega,by omega⟩,?_⟩⟩
    rw[Int.zero_sub,Int.zero_sub,Rat.neg_divInt_neg,hv]
   ·rw[decide_eq_false hneg,jT]
    exact⟨_,_,_,rfl,fun _=>⟨h1,by omega,h2,hv⟩⟩
 ·refine⟨0,0,false,?_,fun e=>by cases e⟩
  by_cases o1:fu n
  ·by_cases o2:fu d
   ·rw[iV o1,iV o2]
    simp only[Bool.not_true,jT,bO]
    unfold Sm at hs
    by_cases c1:n≤-2147483648
    ·rw[decide_eq_true c1];simp only[bO,jn]
    ·rw[decide_eq_false c1];simp only[bO,jT]
     by_cases c2:2147483648≤n
     ·rw[decide_eq_true c2];simp only[bO,jn]
     ·rw[decide_eq_false c2];simp only[bO,jT]
      by_cases c3:d≤-2147483648
      ·rw[decide_eq_true c3];simp only[bO,jn]
      ·rw[decide_eq_false c3];simp only[bO,jT]
       rw[decide_eq_true (show 2147483648≤d by omega)];simp only[jn]
   ·rw[iV o1,pA o2];simp only[Bool.not_true,Bool.not_false,jT,bO,jn]
  ·rw[pA o1];simp only[Bool.not_false,bO,jn]
theorem Il{a g:Int}(hg:0<g)(h:g∣a):Int.tdiv a g=a/g:=by
 obtain⟨k,rfl⟩:=h
 rw[Int.mul_tdiv_cancel_left _ (by omega),Int.mul_ediv_cancel_left _ (by omega)]
theorem rj{n d:Int}(hd:0<d)(hd':d≤9223372036854775807)(hn: -9223372036854775807≤n)(hn':n≤9223372036854775807):dY n d=some (qn (Rat.divInt n d)):=by
 unfold dY
 simp only[bO,cm]
 refine oE (fun s=>Int.gcd s.1 s.2=Int.gcd n d∧s.1.natAbs≤9223372036854775807∧s.2.natAbs≤9223372036854775807) (fun e=>e.natAbs=Int.gcd n d∧e.natAbs≤9223372036854775807) (fun s=>s.2.natAbs) ?_ ⟨rfl,by simp only[];omega,by simp only[];omega⟩ ?_
 ·rintro⟨a,b⟩ ⟨i1,i2,i3⟩
  simp only at i1 i2 i3⊢
  by_cases hb:b=0
  ·right
   subst hb
   refine⟨a,by simp,?_,i2⟩
   rw[←i1];simp[Int.gcd]
  ·left
   rw[decide_eq_true hb,jn,KX,if_neg hb,bO]
   have hm:(Int.tmod a b).natAbs=a.natAbs%b.natAbs:=Int.natAbs_tmod a b
   have hlt:=Nat.mod_lt a.natAbs (Int.natAbs_pos.2 hb)
   refine⟨_,rfl,⟨?_,i3,by simp only[];omega⟩,by simp only[];omega⟩
   simp only[]
   rw[←i1,Int.gcd,Int.gcd,hm,Nat.gcd_comm b.natAbs,←Nat.gcd_rec,Nat.gcd_comm]
 ·rintro e ⟨he,hle⟩
  obtain⟨g,hg⟩:∃g:Int,(Int.gcd n d:Int)=g:=⟨_,rfl⟩
  have hgp:0<g:=by have:=Int.gcd_pos_of_ne_zero_right n (show d≠0 by omega);omega
  have hgn:g∣n:=hg▸Int.gcd_dvd_left ..
  have hgd:g∣d:=hg▸Int.gcd_dvd_right ..
  have hK:∀m:Int,m=g→(bif decide (m=d)then(xL n m).bind fun fR=>(bw fR).bind fun x=>some (⟨⟨x.neg,x.w⟩,⟨false,[]⟩⟩:Qr)else(xL n m).bind fun gH=>(bw gH).bind fun x=>(xL d m).bind fun rS=>(bw rS).bind fun y=>some ⟨⟨x.neg,x.w⟩,⟨y.neg,y.w⟩⟩)=some (qn (Rat.divInt n d)):=by
   rintro m rfl
   have b1:(n/m).natAbs≤n.natAbs:=Int.natAbs_ediv_le_natAbs _ _
   have b2:(d/m).natAbs≤d.natAbs:=Int.natAbs_ediv_le_natAbs _ _
   have q1:xL n m=some (n/m):=by
    rw[xL,if_neg (by omega),Il hgp hgn,cq (by omega) (by omega)]
   have q2:xL d m=some (d/m):=by
    rw[xL,if_neg (by omega),Il hgp hgd,cq (by omega) (by omega)]
   rw[EE hd,hg,q1,q2]
   simp only[bO,mY (x:=n/m) (by omega) (by omega),mY (x:=d/m) (by omega) (by omega),zeta']
   by_cases e1:m=d
   ·rw[decide_eq_true e1,jn,if_pos (by rw[e1];exact Int.ediv_self (by omega))]
   ·rw[decide_eq_false e1,jT,if_neg]
    intro e2
    have:=Int.ediv_mul_cancel hgd
    rw[e2]at this;omega
  by_cases hneg:e<0
  ·rw[decide_eq_true hneg,jn,cq (by omega) (by omega)]
   exact hK _ (by omega)
  ·rw[decide_eq_false hneg,jT]
   exact hK _ (by omega)
theorem jc{a b:Int}(ha:Sm a)(hb:Sm b): -4611686018427387904<a*b∧a*b<4611686018427387904:=by
 unfold Sm at ha hb
 have h1:(a*b).natAbs=a.natAbs*b.natAbs:=Int.natAbs_mul a b
 have h2:a.natAbs*b.natAbs≤2147483647*2147483647:=Nat.mul_le_mul (by omega) (by omega)
 omega
theorem qf{a b:Int}(ha:0<a)(hb:0<b):0<a*b:=Int.mul_pos ha hb
section ops
variable {L M:Nat}{a b:Qr}{x y:Rat}
theorem kJ.add(ha:kJ L a x)(hb:kJ M b y)(h:L+M≤4000000000):jN a b=some (qn (x+y))∧kJ (L+M+1) (qn (x+y)) (x+y):=by
 refine⟨?_,(ha.fq.add hb.fq).rep (by omega)⟩
 obtain⟨n1,d1,c1,e1,k1⟩:=mw ha (by omega)
 obtain⟨n2,d2,c2,e2,k2⟩:=mw hb (by omega)
 obtain⟨p1,q1,f1,w1,w2,g1,v1,t1,t2⟩:=parts_eq ha (by omega)
 obtain⟨p2,q2,f2,w3,w4,g2,v2,t3,t4⟩:=parts_eq hb (by omega)
 have C6:ga a b=some (qn (x+y)):=by
  unfold ga ec
  have u1:=kI (t1.mul t4) (by omega)
  have u2:=kI (t3.mul t2) (by omega)
  have u3:=kI (t2.mul t4) (by omega)
  have u4:=kI ((t1.mul t4).add ((t3.mul t2).mono (by omega))) (by omega)
  simp only[zeta',uX,uY,f1,f2,bO,mul_eq w1 w4,mul_eq w3 w2,add_eq u1 u2,mul_eq w2 w4,fP]
  rw[reduce_eq u4 u3 (by rw[fP];have:=qf g1 g2;omega),bO,fP,fP,←v1,←v2,Rat.divInt_add_divInt _ _ (by omega) (by omega)]
 unfold jN
 simp only[zeta',uX,uY,e1,e2,bO,cm,C6]
 cases c1
 ·rw[jT,bO,jT]
 ·cases c2
  ·rw[jn,bO,jT]
  ·obtain⟨s1,s2,s3,s4⟩:=k1 rfl
   obtain⟨s5,s6,s7,s8⟩:=k2 rfl
   have m1:=jc s1 s7
   have m2:=jc s5 s3
   have m3:=jc s3 s7
   have m4:=qf s2 s6
   rw[jn,bO,jn,cq (x:=n1*d2) (by omega) (by omega),cq (x:=n2*d1) (by omega) (by omega),cq (x:=d1*d2) (by omega) (by omega),cq (by omega) (by omega),rj m4 (by omega) (by omega) (by omega),bO,←s4,←s8,Rat.divInt_add_divInt _ _ (by omega) (by omega)]
theorem kJ.sub(ha:kJ L a x)(hb:kJ M b y)(h:L+M≤4000000000):jO a b=some (qn (x-y))∧kJ (L+M+1) (qn (x-y)) (x-y):=by
 refine⟨?_,(ha.fq.sub hb.fq).rep (by omega)⟩
 obtain⟨n1,d1,c1,e1,k1⟩:=mw ha (by omega)
 obtain⟨n2,d2,c2,e2,k2⟩:=mw hb (by omega)
 obtain⟨p1,q1,f1,w1,w2,g1,v1,t1,t2⟩:=parts_eq ha (by omega)
 obtain⟨p2,q2,f2,w3,w4,g2,v2,t3,t4⟩:=parts_eq hb (by omega)
 have C6:gb a b=some (qn (x-y)):=by
  unfold gb ee
  have u1:=kI (t1.mul t4) (by omega)
  have u2:=kI (t3.mul t2) (by omega)
  have u3:=kI (t2.mul t4) (by omega)
  have u4:=kI ((t1.mul t4).sub ((t3.mul t2).mono (by omega))) (by omega)
  simp only[zeta',uX,uY,f1,f2,bO,mul_eq w1 w4,mul_eq w3 w2,sub_eq u1 u2,mul_eq w2 w4,fP]
  rw[reduce_eq u4 u3 (by rw[fP];have:=qf g1 g2;omega),bO,fP,fP,←v1,←v2,Rat.divInt_sub_divInt _ _ (by omega) (by omega)]
 unfold jO
 simp only[zeta',uX,uY,e1,e2,bO,cm,C6]
 cases c1
 ·rw[jT,bO,jT]
 ·cases c2
  ·rw[jn,bO,jT]
  ·obtain⟨s1,s2,s3,s4⟩:=k1 rfl
   obtain⟨s5,s6,s7,s8⟩:=k2 rfl
   have m1:=jc s1 s7
   have m2:=jc s5 s3
   have m3:=jc s3 s7
   have m4:=qf s2 s6
   rw[jn,bO,jn,cq (x:=n1*d2) (by omega) (by omega),cq (x:=n2*d1) (by omega) (by omega),cq (x:=d1*d2) (by omega) (by omega),cq (by omega) (by omega),rj m4 (by omega) (by omega) (by omega),bO,←s4,←s8,Rat.divInt_sub_divInt _ _ (by omega) (by omega)]
theorem kJ.mul(ha:kJ L a x)(hb:kJ M b y)(h:L+M≤4000000000):iJ a b=some (qn (x*y))∧kJ (L+M) (qn (x*y)) (x*y):=by
 have l1:=ha.l1
 refine⟨?_,(ha.fq.mul hb.fq).rep (by omega)⟩
 obtain⟨n1,d1,c1,e1,k1⟩:=mw ha (by omega)
 obtain⟨n2,d2,c2,e2,k2⟩:=mw hb (by omega)
 obtain⟨p1,q1,f1,w1,w2,g1,v1,t1,t2⟩:=parts_eq ha (by omega)
 obtain⟨p2,q2,f2,w3,w4,g2,v2,t3,t4⟩:=parts_eq hb (by omega)
 have C6:gh a b=some (qn (x*y)):=by
  unfold gh ef
  have u1:=kI (t1.mul t3) (by omega)
  have u3:=kI (t2.mul t4) (by omega)
  simp only[zeta',uX,uY,f1,f2,bO,mul_eq w1 w3,mul_eq w2 w4]
  rw[reduce_eq u1 u3 (by rw[fP];have:=qf g1 g2;omega),bO,fP,fP,←v1,←v2,Rat.divInt_mul_divInt]
 unfold iJ
 simp only[zeta',uX,uY,e1,e2,bO,cm,C6]
 cases c1
 ·rw[jT,bO,jT]
 ·cases c2
  ·rw[jn,bO,jT]
  ·obtain⟨s1,s2,s3,s4⟩:=k1 rfl
   obtain⟨s5,s6,s7,s8⟩:=k2 rfl
   have m1:=jc s1 s5
   have m3:=jc s3 s7
   have m4:=qf s2 s6
   rw[jn,bO,jn,cq (by omega) (by omega),cq (x:=d1*d2) (by omega) (by omega),rj m4 (by omega) (by omega) (by omega),bO,←s4,←s8,Rat.divInt_mul_divInt]
theorem kJ.sign(ha:kJ L a x)(h:L≤10000000000):eu a=some (pB x 0):=by
 unfold eu
 have wn:=ha.wn h
 have wd:=ha.wd h
 have hv:=ha.v
 simp only[zeta',bO,sign_eq wn,sign_eq wd]
 unfold qv qd at hv
 rcases Int.lt_trichotomy (zi a.den) 0 with h1|h1|h1
 ·rw[Int.sign_eq_neg_one_of_neg h1]
  rw[if_neg (by omega),←Rat.neg_divInt_neg]at hv
  rw[←hv,←uW (by omega),Int.sign_neg]
  show some (IntKind.i64.wrap (0-(zi a.num).sign))=_
  have:(zi a.num).sign=-1∨(zi a.num).sign=0∨(zi a.num).sign=1:=by
   rcases Int.lt_trichotomy (zi a.num) 0 with e|e|e
   ·left;exact Int.sign_eq_neg_one_of_neg e
   ·right;left;rw[e];rfl
   ·right;right;exact Int.sign_eq_one_of_pos e
  rw[cq (by omega) (by omega),Int.zero_sub]
 ·rw[if_pos h1]at hv
  rw[←hv,←uW (by omega),h1];rfl
 ·rw[if_neg (by omega)]at hv
  rw[Int.sign_eq_one_of_pos h1,←hv,←uW h1];rfl
theorem jd{x:Rat}:pB x 0=0↔x=0:=by
 unfold pB
 by_cases h:x<0
 ·rw[if_pos h]
  refine⟨fun e=>absurd e (by decide),fun e=>?_⟩
  rw[e]at h;exact absurd h Rat.lt_irrefl
 ·rw[if_neg h]
  by_cases h2:x=0
  ·rw[if_pos h2];simp[h2]
  ·rw[if_neg h2];simp[h2]
theorem kJ.div(ha:kJ L a x)(hb:kJ M b y)(h:L+M≤4000000000)(h0:y≠0):oO a b=some (qn (x/y),0)∧kJ (L+M) (qn (x/y)) (x/y):=by
 have l1:=ha.l1
 refine⟨?_,(ha.fq.div hb.fq h0).rep (by omega)⟩
 obtain⟨n1,d1,c1,e1,k1⟩:=mw ha (by omega)
 obtain⟨n2,d2,c2,e2,k2⟩:=mw hb (by omega)
 obtain⟨p1,q1,f1,w1,w2,g1,v1,t1,t2⟩:=parts_eq ha (by omega)
 obtain⟨p2,q2,f2,w3,w4,g2,v2,t3,t4⟩:=parts_eq hb (by omega)
 have hdiv:∀a b c d:Int,Rat.divInt a b/Rat.divInt c d=Rat.divInt (a*d) (b*c):=fun a b c d=>by rw[Rat.div_def,Rat.inv_divInt,Rat.divInt_mul_divInt]
 have hnz:∀a b:Int,Rat.divInt a b=y→a≠0:=fun a b e e'=>h0 (by rw[←e,e',Rat.zero_divInt])
 have C6:jM a b=some (qn (x/y)):=by
  unfold jM hH
  have u1:=kI (t1.mul t4) (by omega)
  have u3:=kI (t2.mul t3) (by omega)
  simp only[zeta',uX,uY,f1,f2,bO,mul_eq w1 w4,mul_eq w2 w3]
  rw[reduce_eq u1 u3 (by rw[fP];exact Int.mul_ne_zero (by omega) (hnz _ _ v2)),bO,fP,fP,←v1,←v2,hdiv]
 unfold oO
 simp only[zeta',uX,uY,hb.sign (by omega),e1,e2,bO,cm,C6]
 rw[decide_eq_false (fun e=>h0 (jd.1 e)),jT]
 cases c1
 ·rw[jT,bO,jT]
 ·cases c2
  ·rw[jn,bO,jT]
  ·obtain⟨s1,s2,s3,s4⟩:=k1 rfl
   obtain⟨s5,s6,s7,s8⟩:=k2 rfl
   have hn2:=hnz _ _ s8
   have m1:=jc s1 s7
   have m3:=jc s3 s5
   rw[jn,bO,jn]
   unfold Sm at s1 s3 s5 s7
   by_cases hneg:n2<0
   ·have m4:=qf s2 (show 0< -n2 by omega)
    have m5:(-n1)*d2=-(n1*d2):=Int.neg_mul _ _
    have m6:d1*(-n2)=-(d1*n2):=Int.mul_neg _ _
    rw[decide_eq_true hneg,jn,cq (x:=0-n1) (by omega) (by omega),cq (x:=0-n2) (by omega) (by omega),Int.zero_sub,Int.zero_sub,cq (by omega) (by omega),cq (by omega) (by omega),rj m4 (by omega) (by omega) (by omega),bO,m5,m6,Rat.neg_divInt_neg,←s4,←s8,hdiv]
   ·have m4:=qf s2 (show 0<n2 by omega)
    rw[decide_eq_false hneg,jT,cq (by omega) (by omega),cq (by omega) (by omega),rj m4 (by omega) (by omega) (by omega),bO,←s4,←s8,hdiv]
theorem kJ.canon(ha:kJ L a x)(h:L≤10000000000):bW a=some (qn x)∧kJ L (qn x) x:=by
 refine⟨?_,ha.fq.rep ha.l1⟩
 obtain⟨n1,d1,c1,e1,k1⟩:=mw ha (by omega)
 obtain⟨p1,q1,f1,w1,w2,g1,v1,t1,t2⟩:=parts_eq ha (by omega)
 unfold bW
 simp only[zeta',uX,uY,e1,bO,f1]
 cases c1
 ·rw[jT,reduce_eq w1 w2 (by omega),bO,v1]
 ·obtain⟨s1,s2,s3,s4⟩:=k1 rfl
  unfold Sm at s1 s3
  rw[jn,rj s2 (by omega) (by omega) (by omega),bO,s4]
end ops
end Go.Proofs.YtningmnklfpfjaaGreat
namespace Go.Proofs.YtningmnklfpfjaaGreat
open Go.Fw
theorem EF{p q u v:Int}(hq:0<q)(hv:0<v)(h:p.sign≠u.sign∨p.sign=0):pW (IntKind.i64.wrap (p.sign-u.sign))=some (q9 (p*v) (u*q)):=by
 have pv:0<p→0<p*v:=fun h=>Int.mul_pos h hv
 have pv':p<0→p*v<0:=fun h=>Int.mul_neg_of_neg_of_pos h hv
 have uq:0<u→0<u*q:=fun h=>Int.mul_pos h hq
 have uq':u<0→u*q<0:=fun h=>Int.mul_neg_of_neg_of_pos h hq
 rcases Int.lt_trichotomy p 0 with e1|e1|e1<;>rcases Int.lt_trichotomy u 0 with e2|e2|e2
 ·rw[Int.sign_eq_neg_one_of_neg e1,Int.sign_eq_neg_one_of_neg e2]at h;simp at h
 ·have:=pv' e1
  rw[Int.sign_eq_neg_one_of_neg e1,e2,Int.zero_mul,ni this];rfl
 ·have:=pv' e1
  have:=uq e2
  rw[Int.sign_eq_neg_one_of_neg e1,Int.sign_eq_one_of_pos e2,ni (by omega)];rfl
 ·have:=uq' e2
  rw[Int.sign_eq_neg_one_of_neg e2,e1,Int.zero_mul,nj this];rfl
 ·rw[e1,e2,Int.zero_mul,Int.zero_mul];rfl
 ·have:=uq e2
  rw[Int.sign_eq_one_of_pos e2,e1,Int.zero_mul,ni this];rfl
 ·have:=pv e1
  have:=uq' e2
  rw[Int.sign_eq_one_of_pos e1,Int.sign_eq_neg_one_of_neg e2,nj (by omega)];rfl
 ·have:=pv e1
  rw[Int.sign_eq_one_of_pos e1,e2,Int.zero_mul,nj this];rfl
 ·rw[Int.sign_eq_one_of_pos e1,Int.sign_eq_one_of_pos e2]at h;simp at h
theorem PG{x y:Rat}:pB x y=0↔x=y:=by
 unfold pB
 by_cases h:x<y
 ·rw[if_pos h]
  refine⟨fun e=>absurd e (by decide),fun e=>?_⟩
  rw[e]at h;exact absurd h Rat.lt_irrefl
 ·rw[if_neg h]
  by_cases h2:x=y
  ·rw[if_pos h2];simp[h2]
  ·rw[if_neg h2];simp[h2]
theorem Im{x y:Rat}:pB x y<0↔x<y:=by
 unfold pB
 by_cases h:x<y
 ·rw[if_pos h];simp[h]
 ·rw[if_neg h]
  by_cases h2:x=y
  ·rw[if_pos h2];simp[h2,Rat.lt_irrefl]
  ·rw[if_neg h2];simp[h]
theorem Xs(i:Int):qn (i:Rat)=⟨zn i,⟨false,[]⟩⟩:=by
 unfold qn
 rw[Rat.den_intCast,if_pos rfl,Rat.num_intCast]
section ops
variable {L M:Nat}{a b:Qr}{x y:Rat}
theorem kJ.neg(ha:kJ L a x)(h:L≤10000000000):oP a=some (qn (-x))∧kJ L (qn (-x)) (-x):=by
 refine⟨?_,ha.fq.neg.rep ha.l1⟩
 unfold oP
 have r:=(ha.canon h).2
 simp only[zeta',uX,uY,(ha.canon h).1,bO,neg_eq (r.wn h)]
 show some (⟨zn (-zi (zn x.num)),_⟩:Qr)=some (qn (-x))
 rw[fP];rfl
theorem kJ.cmp(ha:kJ L a x)(hb:kJ M b y)(h:L+M≤4000000000):oQ a b=some (pB x y):=by
 obtain⟨p1,q1,f1,w1,w2,g1,v1,t1,t2⟩:=parts_eq ha (by omega)
 obtain⟨p2,q2,f2,w3,w4,g2,v2,t3,t4⟩:=parts_eq hb (by omega)
 unfold oQ
 have u1:=kI (t1.mul t4) (by omega)
 have u2:=kI (t3.mul t2) (by omega)
 simp only[zeta',uX,uY,f1,f2,bO,cm,sign_eq w1,sign_eq w3,mul_eq w1 w4,mul_eq w3 w2,Xo u1 u2,fP]
 rw[←v1,←v2,Ik g1 g2]
 by_cases e1:(zi p1).sign=(zi p2).sign
 ·rw[show decide ((zi p1).sign≠(zi p2).sign)=false by simp[e1],jT,bO]
  by_cases e2:(zi p1).sign=0
  ·rw[decide_eq_true e2,jn,EF g1 g2 (.inr e2),bO]
  ·rw[decide_eq_false e2,jT]
 ·rw[show decide ((zi p1).sign≠(zi p2).sign)=true by simp[e1],jn,bO,jn,EF g1 g2 (.inl e1),bO]
theorem mz{n:Int}(hn:fu n):cA n=some (qn (n:Rat))∧kJ 2 (qn (n:Rat)) (n:Rat):=by
 refine⟨?_,(FQ.int (LO hn) (by decide)).rep (by decide)⟩
 unfold cA
 simp only[zeta',bO,mY hn.1 hn.2]
 rw[Xs]
end ops
end Go.Proofs.YtningmnklfpfjaaGreat
namespace Go.Proofs.YtningmnklfpfjaaGreat
open Go.Fw
def vq(n:Nat)(h:Nat→Rat):List Qr:=(List.range n).map fun i=>qn (h i)
structure cW (L:Nat) (v:List Qr) (f:Nat→Rat):Prop where
 e:∀i (h:i<v.length),kJ L v[i] (f i)
 z:∀i,v.length≤i→f i=0
 l1:1≤L
theorem bu(n:Nat)(h:Nat→Rat):(vq n h).length=n:=by simp[vq]
theorem mA{n i:Nat}{h:Nat→Rat}(hi:i<n):(vq n h)[i]? =some (qn (h i)):=by simp[vq,hi]
theorem R7{n i:Nat}{h:Nat→Rat}(hi:i<(vq n h).length):(vq n h)[i]=qn (h i):=by simp[vq]
theorem yB(n:Nat)(h:Nat→Rat):vq (n+1) h=vq n h++[qn (h n)]:=by simp[vq,List.range_succ]
theorem fF{n:Nat}{h k:Nat→Rat}(e:∀i,i<n→h i=k i):vq n h=vq n k:=by
 unfold vq
 apply List.map_congr_left
 intro i hi
 rw[e i (List.mem_range.1 hi)]
theorem nW{L n:Nat}{h:Nat→Rat}(hf:∀i,i<n→FQ L (h i))(hz:∀i,n≤i→h i=0)(h1:1≤L):cW L (vq n h) h:=by
 refine⟨fun i hi=>?_,fun i hi=>hz i (by rwa[bu]at hi),h1⟩
 rw[R7 hi]
 exact(hf i (by rwa[bu]at hi)).rep h1
def qz:Qr:=⟨⟨false,[]⟩,⟨false,[]⟩⟩
theorem R8:qn 0=qz:=rfl
theorem Io{L:Nat}(h:1≤L):kJ L qz 0:=⟨by simp[qz],by simp[qz],by simp[qz],by simp[qz],h,by decide⟩
theorem vE{L:Nat}(h:1≤L):FQ L 0:=(Io h).fq
def Yk(v:List Qr)(i:Nat):Qr:=v.getD i qz
theorem cW.at{L:Nat}{v:List Qr}{f:Nat→Rat}(h:cW L v f)(i:Nat):kJ L (Yk v i) (f i):=by
 unfold Yk
 by_cases hi:i<v.length
 ·rw[List.getD_eq_getElem?_getD,List.getElem?_eq_getElem hi];exact h.e i hi
 ·rw[List.getD_eq_getElem?_getD,List.getElem?_eq_none (by omega),h.z i (by omega)];exact Io h.l1
theorem cW.fq{L:Nat}{v:List Qr}{f:Nat→Rat}(h:cW L v f)(i:Nat):FQ L (f i):=(h.at i).fq
theorem cW.mono{L M:Nat}{v:List Qr}{f:Nat→Rat}(h:cW L v f)(hl:L≤M):cW M v f:=⟨fun i hi=>(h.e i hi).mono hl,h.z,Nat.le_trans h.l1 hl⟩
theorem cW.nil{L:Nat}(h:1≤L):cW L [] (fun _=>0):=⟨fun i hi=>by simp at hi,fun _ _=>rfl,h⟩
theorem cW.get{L:Nat}{v:List Qr}{f:Nat→Rat}(h:cW L v f){i:Nat}(hi:i<v.length):∃q,v[i]? =some q∧kJ L q (f i):=⟨v[i],by simp,h.e i hi⟩
theorem cW.congr{L:Nat}{v:List Qr}{f g:Nat→Rat}(h:cW L v f)(e:∀i,f i=g i):cW L v g:=by
 have:f=g:=funext e
 rw[←this];exact h
def DZ(v:List Qr)(i:Nat):Rat:=qv (Yk v i)
theorem KB{L:Nat}{v:List Qr}(h:∀q∈v,kJ L q (qv q))(h1:1≤L):cW L v (DZ v):=by
 refine⟨fun i hi=>?_,fun i hi=>?_,h1⟩
 ·have e:Yk v i=v[i]:=by unfold Yk;rw[List.getD_eq_getElem?_getD,List.getElem?_eq_getElem hi];rfl
  unfold DZ
  rw[e];exact h _ (List.getElem_mem hi)
 ·unfold DZ Yk
  rw[List.getD_eq_getElem?_getD,List.getElem?_eq_none hi];decide
def bf(h:Nat→Rat):Nat→Rat
 |0=>0
 |n+1=>bf h n+h n
theorem cD{h k:Nat→Rat}:∀{n:Nat},(∀i,i<n→h i=k i)→bf h n=bf k n
 |0,_=>rfl
 |n+1,e=>by rw[bf,bf,cD (fun i hi=>e i (by omega)),e n (by omega)]
theorem C7(h k:Nat→Rat):∀n,bf (fun i=>h i+k i) n=bf h n+bf k n
 |0=>by simp only[bf];grind
 |n+1=>by rw[bf,bf,bf,C7 h k n];grind
theorem yC(h k:Nat→Rat):∀n,bf (fun i=>h i-k i) n=bf h n-bf k n
 |0=>by simp only[bf];grind
 |n+1=>by rw[bf,bf,bf,yC h k n];grind
theorem pC(c:Rat)(h:Nat→Rat):∀n,bf (fun i=>c*h i) n=c*bf h n
 |0=>by simp[bf]
 |n+1=>by rw[bf,bf,pC c h n];grind
theorem kn:∀n,bf (fun _=>0) n=0
 |0=>rfl
 |n+1=>by rw[bf,kn n];grind
theorem PI{h:Nat→Rat}{n m:Nat}(hnm:n≤m)(hz:∀i,n≤i→i<m→h i=0):bf h m=bf h n:=by
 induction m with
 |zero=>rw[show n=0 by omega]
 |succ m ih=>
  rcases Nat.lt_or_ge m n with q|q
  ·rw[show n=m+1 by omega]
  ·rw[bf,ih q (fun i h1 h2=>hz i h1 (by omega)),hz m q (by omega)];grind
theorem Gb{L:Nat}{h:Nat→Rat}:∀{n:Nat},(∀i,i<n→FQ L (h i))→FQ (n*(L+1)+1) (bf h n)
 |0,_=>vE (by omega)
 |n+1,e=>by
  rw[bf]
  exact((Gb (fun i hi=>e i (by omega))).add (e n (by omega))).mono (by rw[Nat.add_mul];omega)
theorem lp{h:Nat→Rat}{n k:Nat}(hk:k<n)(hz:∀i,i<n→i≠k→h i=0):bf h n=h k:=by
 induction n with
 |zero=>omega
 |succ n ih=>
  rw[bf]
  rcases Nat.lt_or_ge k n with q|q
  ·rw[ih q (fun i h1 h2=>hz i (by omega) h2),hz n (by omega) (by omega)];grind
  ·obtain rfl:k=n:=by omega
   rw[cD (k:=fun _=>0) (fun i hi=>hz i (by omega) (by omega)),kn];grind
end Go.Proofs.YtningmnklfpfjaaGreat
namespace Go.Proofs.YtningmnklfpfjaaGreat
open Go.Fw
theorem KC{α β:Type}(a:List α)(b:List β):max (a.length:Int) (b.length:Int)=((max a.length b.length:Nat):Int):=by omega
theorem KD{α β:Type}(a:List α)(b:List β):min (a.length:Int) (b.length:Int)=((min a.length b.length:Nat):Int):=by omega
theorem cW.gd{L:Nat}{v:List Qr}{f:Nat→Rat}(h:cW L v f)(k:Nat):kJ L (v.getD k (⟨⟨false,[]⟩,⟨false,[]⟩⟩:Qr)) (f k):=h.at k
theorem Gc{n k:Nat}{h:Nat→Rat}(hk:k<n):(vq k h++List.replicate (n-k) qz).set k (qn (h k))=vq (k+1) h++List.replicate (n-(k+1)) qz:=by
 rw[show n-k=(n-(k+1))+1 by omega,List.replicate_succ,List.set_append_right _ _ (by rw[bu];exact Nat.le_refl _),bu,Nat.sub_self,yB,List.append_assoc];rfl
theorem Xt{n c:Nat}{h:Nat→Rat}(hc:c≤n)(hz:∀i,c≤i→i<n→h i=0):vq c h++List.replicate (n-c) qz=vq n h:=by
 induction n with
 |zero=>rw[show c=0 by omega];rfl
 |succ n ih=>
  rcases Nat.lt_or_ge n c with q|q
  ·rw[show c=n+1 by omega,Nat.sub_self];simp
  ·rw[show n+1-c=(n-c)+1 by omega,List.replicate_succ',←List.append_assoc,ih q (fun i h1 h2=>hz i h1 (by omega)),yB,hz n q (by omega),R8]
theorem sN{n k:Nat}{h:Nat→Rat}(hk:k≤n):(vq k h++List.replicate (n-k) qz).length=n:=by rw[List.length_append,bu,List.length_replicate];omega
section ops
variable {K L M:Nat}{c:Qr}{a b:List Qr}{k:Rat}{f g:Nat→Rat}
theorem aaU(ha:cW L a f)(hb:cW M b g)(h:L+M≤4000000000)(la:a.length≤1000000)(lb:b.length≤1000000):k7 a b=some (vq (max a.length b.length) fun i=>f i-g i)∧cW (L+M+1) (vq (max a.length b.length) fun i=>f i-g i) (fun i=>f i-g i):=by
 refine⟨?_,nW (fun i _=>(ha.fq i).sub (hb.fq i)) (fun i hi=>?_) (by omega)⟩
 ·unfold k7 iX
  refine bind_eq (a:=vq (max a.length b.length) (fun i=>f i-g i)) ?_ rfl
  refine bind_eq rfl<|bind_eq rfl<|bind_eq (congrArg some (KC a b))<|bind_eq (C0 (by omega) (by omega)) ?_
  refine mX (fun k=>vq k (fun i=>f i-g i)) rfl (fun k hk=>?_) rfl
  have e3:=((ha.gd k).sub (hb.gd k) h).1
  generalize a.getD k (⟨⟨false,[]⟩,⟨false,[]⟩⟩:Qr)=q1 at e3⊢
  generalize b.getD k (⟨⟨false,[]⟩,⟨false,[]⟩⟩:Qr)=q2 at e3⊢
  obtain⟨⟨_,_⟩,⟨_,_⟩⟩:=q1
  obtain⟨⟨_,_⟩,⟨_,_⟩⟩:=q2
  obtain⟨q3,h3⟩:∃q,qn (f k-g k)=q:=⟨_,rfl⟩
  rw[yB,h3]
  rw[h3]at e3
  obtain⟨⟨_,_⟩,⟨_,_⟩⟩:=q3
  refine bind_eq rfl<|bind_eq rfl<|bind_eq e3<|bind_eq (AI (by omega) (by rw[bu];omega)) rfl
 ·rw[ha.z i (by omega),hb.z i (by omega)];grind
theorem PJ(hc:kJ K c k)(ha:cW L a f)(hb:cW M b g)(h:K+L+M≤4000000000)(la:a.length≤1000000)(lb:b.length≤1000000):dG c a b=some (vq (max a.length b.length) fun i=>k*f i+g i)∧cW (K+L+M+1) (vq (max a.length b.length) fun i=>k*f i+g i) (fun i=>k*f i+g i):=by
 refine⟨?_,nW (fun i _=>(hc.fq.mul (ha.fq i)).add (hb.fq i)) (fun i hi=>?_) (by omega)⟩
 ·unfold dG fU
  obtain⟨⟨_,_⟩,⟨_,_⟩⟩:=c
  refine bind_eq (a:=vq (max a.length b.length) (fun i=>k*f i+g i)) ?_ rfl
  refine bind_eq rfl<|bind_eq rfl<|bind_eq (congrArg some (KC a b))<|bind_eq (C0 (by omega) (by omega)) ?_
  refine mX (fun j=>vq j (fun i=>k*f i+g i)) rfl (fun j hj=>?_) rfl
  have e1:=hc.mul (ha.gd j) (by omega)
  have e3:=(e1.2.add (hb.gd j) (by omega)).1
  replace e1:=e1.1
  generalize a.getD j (⟨⟨false,[]⟩,⟨false,[]⟩⟩:Qr)=q1 at e1⊢
  generalize b.getD j (⟨⟨false,[]⟩,⟨false,[]⟩⟩:Qr)=q2 at e3⊢
  obtain⟨⟨_,_⟩,⟨_,_⟩⟩:=q1
  obtain⟨⟨_,_⟩,⟨_,_⟩⟩:=q2
  generalize qn (k*f j)=q4 at e1 e3
  obtain⟨⟨_,_⟩,⟨_,_⟩⟩:=q4
  obtain⟨q3,h3⟩:∃q,qn (k*f j+g j)=q:=⟨_,rfl⟩
  rw[yB,h3]
  rw[h3]at e3
  obtain⟨⟨_,_⟩,⟨_,_⟩⟩:=q3
  refine bind_eq rfl<|bind_eq rfl<|bind_eq (bind_eq e1<|bind_eq e3 rfl)<|bind_eq (AI (by omega) (by rw[bu];omega)) rfl
 ·rw[ha.z i (by omega),hb.z i (by omega)];grind
theorem PK(hc:kJ K c k)(ha:cW L a f)(h:K+L≤4000000000)(la:a.length≤1000000):k8 c a=some (vq a.length fun i=>k*f i)∧cW (K+L) (vq a.length fun i=>k*f i) (fun i=>k*f i):=by
 have Ua:=ha.l1
 refine⟨?_,nW (fun i _=>hc.fq.mul (ha.fq i)) (fun i hi=>?_) (by omega)⟩
 ·unfold k8
  obtain⟨⟨_,_⟩,⟨_,_⟩⟩:=c
  refine bind_eq rfl<|bind_eq (sI (by omega) (by omega))<|bind_eq rfl ?_
  refine aU (fun j=>((j:Int),vq j (fun i=>k*f i)++List.replicate (a.length-j) qz)) a.length (vq a.length fun i=>k*f i) rfl (fun j hj=>?_) ?_ rfl
  ·obtain⟨q,hq,rq⟩:=ha.get hj
   have e3:=(hc.mul rq h).1
   obtain⟨q3,h3⟩:∃q,qn (k*f j)=q:=⟨_,rfl⟩
   have h4:=Gc (h:=fun i=>k*f i) hj
   rw[h3]at e3 h4
   obtain⟨⟨_,_⟩,⟨_,_⟩⟩:=q
   obtain⟨⟨_,_⟩,⟨_,_⟩⟩:=q3
   refine bind_eq rfl<|bj (decide_eq_true (by omega))<|bind_eq (aQ hq)<|bind_eq e3<|bind_eq (cg (by rw[sN (by omega)];exact hj))<|bind_eq (fL (by rw[sN (by omega)];exact hj))<|bind_eq rfl ?_
   rw[bt (by omega),h4]
  ·refine bind_eq rfl<|aP (decide_eq_false (by omega)) ?_
   simp
 ·rw[ha.z i hi];grind
end ops
end Go.Proofs.YtningmnklfpfjaaGreat
namespace Go.Proofs.YtningmnklfpfjaaGreat
open Go.Fw
def pD(f g:Nat→Rat):Nat→Int
 |0=>0
 |n+1=>if pD f g n≠0 then pD f g n else pB (f n) (g n)
theorem C8{f g:Nat→Rat}:∀{n:Nat},pD f g n=0↔∀i,i<n→f i=g i
 |0=>by simp[pD]
 |n+1=>by
  rw[pD]
  by_cases h:pD f g n=0
  ·rw[if_neg (by simpa using h),PG]
   have:=C8.1 h
   refine⟨fun e i hi=>?_,fun e=>e n (by omega)⟩
   rcases Nat.lt_or_ge i n with q|q
   ·exact this i q
   ·obtain rfl:i=n:=by omega
    exact e
  ·rw[if_pos h]
   refine⟨fun e=>absurd e h,fun e=>absurd (C8.2 (fun i hi=>e i (by omega))) h⟩
section ops
variable {K L M:Nat}{c:Qr}{a b:List Qr}{k:Rat}{f g:Nat→Rat}
theorem agm{x y z:Rat}{p q r:Qr}(hp:kJ K p x)(hq:kJ L q y)(hr:kJ M r z)(hz:r=qn z)(h:K+L+M≤4000000000):nB p q r=some (qn (z+x*y)):=by
 have e1:=hp.mul hq (by omega)
 have e2:=(hr.add e1.2 (by omega)).1
 have s1:=hp.sign (by omega)
 have s2:=hq.sign (by omega)
 replace e1:=e1.1
 obtain⟨⟨_,_⟩,⟨_,_⟩⟩:=p
 obtain⟨⟨_,_⟩,⟨_,_⟩⟩:=q
 obtain⟨⟨_,_⟩,⟨_,_⟩⟩:=r
 generalize qn (x*y)=w at e1 e2
 obtain⟨⟨_,_⟩,⟨_,_⟩⟩:=w
 unfold nB
 refine bind_eq s1<|bind_eq rfl ?_
 by_cases h1:x=0
 ·refine bind_eq (aP (decide_eq_false (by rw[h1,vD];simp)) rfl) ?_
  rw[show z+x*y=z by rw[h1];grind,←hz];rfl
 ·by_cases h2:y=0
  ·refine bind_eq (bj (decide_eq_true (fun e=>h1 (jd.1 e))) (bind_eq s2 (bind_eq rfl rfl))) ?_
   refine aP (decide_eq_false (by rw[h2,vD];simp)) ?_
   rw[show z+x*y=z by rw[h2];grind,←hz]
  ·refine bind_eq (bj (decide_eq_true (fun e=>h1 (jd.1 e))) (bind_eq s2 (bind_eq rfl rfl))) ?_
   refine bj (decide_eq_true (fun e=>h2 (jd.1 e))) ?_
   obtain⟨w3,h3⟩:∃w,qn (z+x*y)=w:=⟨_,rfl⟩
   rw[h3]at e2⊢
   obtain⟨⟨_,_⟩,⟨_,_⟩⟩:=w3
   exact bind_eq e1<|bind_eq e2 rfl
theorem KE{n i:Nat}(hi:i<n):(a.take n).getD i (⟨⟨false,[]⟩,⟨false,[]⟩⟩:Qr)=a.getD i (⟨⟨false,[]⟩,⟨false,[]⟩⟩:Qr):=by
 simp[List.getD,List.getElem?_take,hi]
theorem vW(q:Qr):(⟨⟨(q.num.neg,q.num.w,q.den.neg,q.den.w).1,(q.num.neg,q.num.w,q.den.neg,q.den.w).2.1⟩,⟨(q.num.neg,q.num.w,q.den.neg,q.den.w).2.2.1,(q.num.neg,q.num.w,q.den.neg,q.den.w).2.2.2⟩⟩:Qr)=q:=by cases q;rfl
theorem aaV(ha:cW L a f)(hb:cW M b g)(h:(min a.length b.length+2)*(L+M+1)≤4000000000):jX a b=some (qn (bf (fun i=>f i*g i) (min a.length b.length)))∧kJ (min a.length b.length*(L+M+1)+1) (qn (bf (fun i=>f i*g i) (min a.length b.length))) (bf (fun i=>f i*g i) (min a.length b.length)):=by
 have hs:∀n,FQ (n*(L+M+1)+1) (bf (fun i=>f i*g i) n):=fun n=>Gb (fun i _=>(ha.fq i).mul (hb.fq i))
 refine⟨?_,(hs _).rep (by omega)⟩
 unfold jX
 have hm:∀n:Nat,n≤min a.length b.length→n*(L+M+1)≤min a.length b.length*(L+M+1):=fun n hn=>Nat.mul_le_mul_right _ hn
 rw[Nat.add_mul]at h
 refine bind_eq rfl<|bind_eq rfl<|bind_eq (congrArg some (KD a b))<|bind_eq (oD (by omega))<|bind_eq (oD (by omega)) ?_
 rw[show max (a.take (min a.length b.length)).length (b.take (min a.length b.length)).length=min a.length b.length by simp only[List.length_take];omega]
 refine mX (fun j=>((qn (bf (fun i=>f i*g i) j)).num.neg,(qn (bf (fun i=>f i*g i) j)).num.w,(qn (bf (fun i=>f i*g i) j)).den.neg,(qn (bf (fun i=>f i*g i) j)).den.w)) rfl (fun j hj=>?_) rfl
 have hmj:=hm j (by omega)
 have e1:=agm (ha.gd j) (hb.gd j) ((hs j).rep (by omega)) rfl (by omega)
 simp only[bf]
 generalize hq0:qn (bf (fun i=>f i*g i) j)=q0 at e1⊢
 generalize hq3:qn (bf (fun i=>f i*g i) j+f j*g j)=q3 at e1⊢
 rw[←KE (a:=a) hj,←KE (a:=b) hj]at e1
 generalize (a.take (min a.length b.length)).getD j (⟨⟨false,[]⟩,⟨false,[]⟩⟩:Qr)=q1 at e1⊢
 generalize (b.take (min a.length b.length)).getD j (⟨⟨false,[]⟩,⟨false,[]⟩⟩:Qr)=q2 at e1⊢
 obtain⟨⟨_,_⟩,⟨_,_⟩⟩:=q0
 obtain⟨⟨_,_⟩,⟨_,_⟩⟩:=q1
 obtain⟨⟨_,_⟩,⟨_,_⟩⟩:=q2
 obtain⟨⟨_,_⟩,⟨_,_⟩⟩:=q3
 exact bind_eq rfl<|bind_eq rfl<|bind_eq e1 rfl
theorem aaW(ha:cW L a f)(hb:cW M b g)(h:L+M≤4000000000):iY a b=some (pD f g (max a.length b.length)):=by
 unfold iY
 generalize max a.length b.length=n
 refine bind_eq (a:=if pD f g n≠0 then .inr (pD f g n)else .inl ()) ?_ ?_
 ·induction n with
  |zero=>rfl
  |succ n ih=>
   rw[oJ]
   refine bind_eq ih ?_
   by_cases h0:pD f g n=0
   ·have hl:pD f g (n+1)=pB (f n) (g n):=by rw[pD,if_neg (by simpa using h0)]
    rw[hl,if_neg (show ¬pD f g n≠0 by simpa using h0)]
    have e1:=(ha.gd n).cmp (hb.gd n) h
    generalize a.getD n (⟨⟨false,[]⟩,⟨false,[]⟩⟩:Qr)=q1 at e1⊢
    generalize b.getD n (⟨⟨false,[]⟩,⟨false,[]⟩⟩:Qr)=q2 at e1⊢
    obtain⟨⟨_,_⟩,⟨_,_⟩⟩:=q1
    obtain⟨⟨_,_⟩,⟨_,_⟩⟩:=q2
    refine bind_eq rfl<|bind_eq rfl<|bind_eq e1<|bind_eq rfl ?_
    by_cases h1:pB (f n) (g n)=0
    ·rw[if_neg (by simpa using h1)];exact aP (decide_eq_false (by simpa using h1)) rfl
    ·rw[if_pos h1];exact bj (decide_eq_true h1) rfl
   ·have hl:pD f g (n+1)=pD f g n:=by rw[pD,if_pos h0]
    rw[hl,if_pos h0]
 ·by_cases h0:pD f g n=0
  ·rw[if_neg (by simpa using h0),h0]
  ·rw[if_pos h0]
theorem aaX(ha:cW L a f)(h:L+1≤4000000000):oT a=some (pD f (fun _=>0) a.length):=by
 unfold oT
 refine bind_eq (aaW ha (cW.nil (L:=1) (by omega)) h) ?_
 simp
theorem veq(ha:cW L a f)(hb:cW M b g)(h:L+M≤4000000000):cU a b=some (decide (∀i,i<max a.length b.length→f i=g i)):=by
 unfold cU
 refine bind_eq (aaW ha hb h)<|bind_eq rfl ?_
 congr 1
 rw[decide_eq_decide];exact C8
theorem aaY(ha:cW L a f)(hb:cW M b g)(h:L+M≤4000000000)(e:∀i,f i=g i):cU a b=some true:=by
 rw[veq ha hb h,decide_eq_true (fun i _=>e i)]
end ops
end Go.Proofs.YtningmnklfpfjaaGreat
namespace Go.Proofs.YtningmnklfpfjaaGreat
open Go.Fw
theorem tm{a:Nat}:Int.tmod (a:Int) 65536=((a%65536:Nat):Int):=by
 rw[Int.tmod_eq_emod_of_nonneg (by omega)];omega
end Go.Proofs.YtningmnklfpfjaaGreat
namespace Go.Proofs.YtningmnklfpfjaaGreat
open Go.Fw
theorem bD{J R:Type}{f:J→Option R}{g:(J→Option R)→Option R}{r:Option R}(h:g f=r):cm f g=r:=h
section ops
variable {K L M:Nat}{c:Qr}{a b:List Qr}{k:Rat}{f g:Nat→Rat}
theorem Ip(ha:cW L a f)(h:L≤10000000000)(m:Nat)(hm:m≤65536){body:Int×List Qr→Option ((Int×List Qr)⊕List Qr)}
  (hb:∀s,body s=(some (decide (s.1<((min a.length m:Nat):Int)))).bind fun ek=>(bif ek then(cy a s.1).bind fun q=>(bW q).bind fun w=>(pI s.2 s.1).bind fun kq=>(stM s.2 kq w).bind fun qH=>(some (IntKind.i64.wrap (s.1+1))).bind fun mN=>some (.inl (mN,qH))else some (.inr s.2))):
  (bU body (0,List.replicate m qz)).bind (fun r=>some r)=some (vq m f):=by
 refine aU (fun j=>((j:Int),vq j f++List.replicate (m-j) qz)) (min a.length m) (vq m f) rfl (fun j hj=>?_) ?_ rfl
 ·obtain⟨q,hq,rq⟩:=ha.get (show j<a.length by omega)
  rw[hb]
  refine bind_eq rfl<|bj (decide_eq_true (by show(j:Int)<_;omega))<|bind_eq (aQ hq)<|bind_eq (rq.canon h).1<|bind_eq (cg (by rw[sN (by omega)];omega))<|bind_eq (fL (by rw[sN (by omega)];omega))<|bind_eq rfl ?_
  rw[Gc (by omega),bt (by omega)]
 ·rw[hb]
  refine bind_eq rfl<|aP (decide_eq_false (by show ¬((min a.length m:Nat):Int)<_;omega)) ?_
  rw[Xt (by omega) (fun i h1 h2=>ha.z i (by omega))]
theorem Bd(ha:cW L a f)(h:L≤10000000000)(la:a.length≤1000000)(n:Int):fJ a n=some (vq (min n 65536).toNat f):=by
 unfold fJ
 refine bind_eq rfl ?_
 by_cases hn:n<1
 ·refine bj (decide_eq_true hn) ?_
  rw[show(min n 65536).toNat=0 by omega];rfl
 ·refine aP (decide_eq_false hn) ?_
  obtain⟨m,hm⟩:∃m:Nat,min n 65536=(m:Int):=⟨(min n 65536).toNat,by omega⟩
  rw[hm]
  refine bind_eq rfl<|bind_eq (sI (by omega) (by omega))<|bind_eq rfl<|bind_eq rfl<|bind_eq (congrArg some (KD a _)) ?_
  rw[List.length_replicate]
  refine Ip ha h m (by omega) (fun s=>?_)
  obtain⟨i,l⟩:=s
  rfl
theorem PL(ha:cW L a f)(h:L≤10000000000)(la:a.length≤1000000)(n:Int):m9 a n=some (vq (min n 65536).toNat f):=by
 rw[←Bd ha h la n];rfl
theorem yD{l:List Int}(hl:∀x∈l,fu x)(h:l.length≤1000000):cC l=some (vq l.length fun i=>((l.getD i 0:Int):Rat))∧cW 2 (vq l.length fun i=>((l.getD i 0:Int):Rat)) (fun i=>((l.getD i 0:Int):Rat)):=by
 have hx:∀i,fu (l.getD i 0):=fun i=>by
  by_cases hi:i<l.length
  ·rw[List.getD_eq_getElem?_getD,List.getElem?_eq_getElem hi];exact hl _ (List.getElem_mem hi)
  ·rw[List.getD_eq_getElem?_getD,List.getElem?_eq_none (by omega)];decide
 refine⟨?_,nW (fun i _=>(mz (hx i)).2.fq) (fun i hi=>?_) (by decide)⟩
 ·unfold cC
  refine bind_eq rfl<|bind_eq (sI (by omega) (by omega))<|bind_eq rfl ?_
  refine aU (fun j=>((j:Int),vq j (fun i=>((l.getD i 0:Int):Rat))++List.replicate (l.length-j) qz)) l.length (vq l.length fun i=>((l.getD i 0:Int):Rat)) rfl (fun j hj=>?_) ?_ rfl
  ·have e3:=(mz (hx j)).1
   have h4:=Gc (h:=fun i=>((l.getD i 0:Int):Rat)) hj
   obtain⟨q3,h3⟩:∃q,qn ((l.getD j 0:Int):Rat)=q:=⟨_,rfl⟩
   rw[h3]at e3 h4
   obtain⟨⟨_,_⟩,⟨_,_⟩⟩:=q3
   refine bind_eq rfl<|bj (decide_eq_true (by omega))<|bind_eq (aQ (dZ hj))<|bind_eq e3<|bind_eq (cg (by rw[sN (by omega)];exact hj))<|bind_eq (fL (by rw[sN (by omega)];exact hj))<|bind_eq rfl ?_
   rw[bt (by omega),h4]
  ·refine bind_eq rfl<|aP (decide_eq_false (by omega)) ?_
   simp
 ·show((l.getD i 0:Int):Rat)=0
  rw[iy hi];rfl
end ops
end Go.Proofs.YtningmnklfpfjaaGreat
namespace Go.Proofs.YtningmnklfpfjaaGreat
open Go.Fw
theorem PM(l:List Qr)(hl:l.length≤1000000):∃b,lZ l=some b∧(b=false→∀q∈l,q.num.w.length≤6∧q.den.w.length≤6):=by
 unfold lZ
 simp only[bO]
 refine oz (fun y=>∃i:Nat,y=(i:Int)∧i≤l.length∧∀z∈l.take i,z.num.w.length≤6∧z.den.w.length≤6) (fun e=>(∃c,e=.inl c∧∀z∈l,z.num.w.length≤6∧z.den.w.length≤6)∨e=.inr true) (fun y=>l.length-y.toNat) ?_ ⟨0,rfl,by omega,by simp⟩ ?_
 ·rintro _ ⟨i,rfl,hi,ht⟩
  by_cases hlt:i<l.length
  ·have g:l[i]? =some l[i]:=by simp
   obtain⟨q,hq⟩:∃q,l[i]=q:=⟨_,rfl⟩
   rw[hq]at g
   obtain⟨z,w⟩:=q
   obtain⟨b,hb,-⟩:=R5 [z,w] (by simp)
   rw[show decide ((i:Int)<(l.length:Int))=true by simp[hlt],jn]
   simp only[aQ g,bO,zeta',cm,hb]
   cases b
   ·rw[jT,bO]
    by_cases h1:6<z.w.length
    ·right
     rw[decide_eq_true (by omega),jn,bO,jn]
     exact⟨_,rfl,.inr rfl⟩
    ·rw[decide_eq_false (by omega),jT,bO]
     by_cases h2:6<w.w.length
     ·right
      rw[decide_eq_true (by omega),jn]
      exact⟨_,rfl,.inr rfl⟩
     ·left
      rw[decide_eq_false (by omega),jT,bt (by omega)]
      refine⟨_,rfl,⟨i+1,rfl,hlt,?_⟩,by omega⟩
      rw[List.take_add_one,g]
      intro u hu
      rcases List.mem_append.1 hu with h|h
      ·exact ht u h
      ·simp at h;rw[h];exact⟨by simp only[];omega,by simp only[];omega⟩
   ·right
    exact⟨_,rfl,.inr rfl⟩
  ·right
   rw[show decide ((i:Int)<(l.length:Int))=false by simp;omega,jT]
   rw[List.take_of_length_le (by omega)]at ht
   exact⟨_,rfl,.inl ⟨_,rfl,ht⟩⟩
 ·rintro e (⟨c,rfl,he⟩|rfl)
  ·exact⟨false,rfl,fun _=>he⟩
  ·exact⟨true,rfl,fun h=>by cases h⟩
abbrev OkQ(q:Qr):Prop:=OkZ q.num∧OkZ q.den
theorem PN{q:Qr}{L:Nat}(h:OkQ q)(h1:q.num.w.length≤L)(h2:q.den.w.length≤L)(hL:1≤L):kJ L q (qv q):=⟨h.1.2.2,h.2.2.2,h1,h2,hL,rfl⟩
end Go.Proofs.YtningmnklfpfjaaGreat
namespace Go.Proofs.YtningmnklfpfjaaGreat
open Go.Fw
theorem dT{p:Prop}[Decidable p](h:p):(some (decide p):Option Bool)=some true:=congrArg some (decide_eq_true h)
theorem dF{p:Prop}[Decidable p](h:¬p):(some (decide p):Option Bool)=some false:=congrArg some (decide_eq_false h)
theorem PO{β:Type}{x:Option Bool}{f:Bool→Option β}{r:Option β}{y:Option Bool}(h:x=some true)(hf:f true=r):(bif true then x else y).bind f=r:=by rw[jn,h];exact hf
theorem EG{β:Type}{b c:Bool}{x:Option Bool}{f:Bool→Option β}{r:Option β}(h:b=false→x=some c)(hf:f (b||c)=r):(bif b then some true else x).bind f=r:=by
 cases b
 ·rw[jT,h rfl];exact hf
 ·rw[jn];exact hf
theorem R9{β:Type}{b c:Bool}{x:Option Bool}{f:Bool→Option β}{r:Option β}(h:b=true→x=some c)(hf:f (b&&c)=r):(bif b then x else some false).bind f=r:=by
 cases b
 ·rw[jT];exact hf
 ·rw[jn,h rfl];exact hf
section ops
variable {K L M:Nat}{a b c:Qr}{x y z:Rat}
end ops
theorem cW.val{L:Nat}{v:List Qr}{f:Nat→Rat}(h:cW L v f)(i:Nat):f i=DZ v i:=(h.at i).v.symm
theorem cW.of{L n:Nat}{v:List Qr}{f:Nat→Rat}(hn:v.length=n)(h:∀i q,v[i]? =some q→kJ L q (f i))(h1:1≤L):cW L v (fun i=>if i<n then f i else 0):=by
 refine⟨fun i hi=>?_,fun i hi=>?_,h1⟩
 ·show kJ L v[i] (if i<n then f i else 0)
  rw[if_pos (by omega)];exact h i _ (List.getElem?_eq_getElem hi)
 ·show(if i<n then f i else 0)=0
  rw[if_neg (by omega)]
abbrev szZ(z:Zr):Nat:=1+((z.w.map fun _=>1).sum+1)+1
abbrev szQ(q:Qr):Nat:=szZ q.num+szZ q.den+1
abbrev Xu(v:List Qr):Nat:=(v.map fun x=>szQ x).sum+1
abbrev szM(m:List (List Qr)):Nat:=(m.map fun x=>Xu x).sum+1
abbrev OkV(v:List Qr):Prop:=v.length≤9223372036854775807∧∀q∈v,OkQ q
end Go.Proofs.YtningmnklfpfjaaGreat
namespace Go.Proofs.YtningmnklfpfjaaGreat
open Go.Fw
def pE{α:Type}(f:Nat→α)(n k:Nat)(z:α):List α:=(List.range k).map f++List.replicate (n-k) z
theorem EH{α:Type}{f:Nat→α}{n k:Nat}{z:α}(hk:k≤n):(pE f n k z).length=n:=by simp[pE];omega
theorem C9{α:Type}{f:Nat→α}{n:Nat}{z:α}:pE f n 0 z=List.replicate n z:=by simp[pE]
theorem EI{α:Type}{f:Nat→α}{n:Nat}{z:α}:pE f n n z=(List.range n).map f:=by simp[pE]
theorem EJ{α:Type}{f:Nat→α}{n k:Nat}{z:α}(hk:k<n):(pE f n k z).set k (f k)=pE f n (k+1) z:=by
 unfold pE
 rw[show n-k=(n-(k+1))+1 by omega,List.replicate_succ,List.set_append_right _ _ (by simp),List.length_map,List.length_range,Nat.sub_self,List.range_succ,List.map_append,List.append_assoc];rfl
def mq(n:Nat)(ln:Nat→Nat)(F:Nat→Nat→Rat):List (List Qr):=(List.range n).map fun i=>vq (ln i) (F i)
theorem eE(n:Nat)(ln:Nat→Nat)(F:Nat→Nat→Rat):(mq n ln F).length=n:=by simp[mq]
theorem kU{n i:Nat}{ln:Nat→Nat}{F:Nat→Nat→Rat}(hi:i<n):(mq n ln F)[i]? =some (vq (ln i) (F i)):=by simp[mq,hi]
theorem uZ{n:Nat}{ln ln':Nat→Nat}{F G:Nat→Nat→Rat}(h:∀i,i<n→ln i=ln' i∧∀k,k<ln i→F i k=G i k):mq n ln F=mq n ln' G:=by
 unfold mq
 apply List.map_congr_left
 intro i hi
 obtain⟨h1,h2⟩:=h i (List.mem_range.1 hi)
 rw[fF h2,h1]
structure ru (L:Nat) (m:List (List Qr)) (F:Nat→Nat→Rat):Prop where
 e:∀i v,m[i]? =some v→cW L v (F i)
 z:∀i,m.length≤i→∀k,F i k=0
 l1:1≤L
theorem ru.row{L:Nat}{m:List (List Qr)}{F:Nat→Nat→Rat}(h:ru L m F)(i:Nat):cW L (m.getD i []) (F i):=by
 by_cases hi:i<m.length
 ·rw[List.getD_eq_getElem?_getD,List.getElem?_eq_getElem hi];exact h.e i _ (List.getElem?_eq_getElem hi)
 ·rw[List.getD_eq_getElem?_getD,List.getElem?_eq_none (by omega)]
  exact(cW.nil h.l1).congr (fun k=>(h.z i (by omega) k).symm)
theorem ru.mono{L M:Nat}{m:List (List Qr)}{F:Nat→Nat→Rat}(h:ru L m F)(hl:L≤M):ru M m F:=⟨fun i v e=>(h.e i v e).mono hl,h.z,Nat.le_trans h.l1 hl⟩
theorem PR{L n:Nat}{ln:Nat→Nat}{F:Nat→Nat→Rat}(hf:∀i,i<n→∀k,k<ln i→FQ L (F i k))(hz:∀i,i<n→∀k,ln i≤k→F i k=0)(hz':∀i,n≤i→∀k,F i k=0)(h1:1≤L):ru L (mq n ln F) F:=by
 refine⟨fun i v e=>?_,fun i hi=>hz' i (by rwa[eE]at hi),h1⟩
 have hi:i<n:=by have:=(List.getElem?_eq_some_iff.1 e).1;rwa[eE]at this
 rw[kU hi]at e
 cases e
 exact nW (hf i hi) (hz i hi) h1
def Jy(m:List (List Qr))(i:Nat):Nat→Rat:=DZ (m.getD i [])
theorem Sa{L:Nat}{m:List (List Qr)}(h:∀v∈m,cW L v (DZ v))(h1:1≤L):ru L m (Jy m):=by
 refine⟨fun i v e=>?_,fun i hi k=>?_,h1⟩
 ·have:Jy m i=DZ v:=by unfold Jy;rw[List.getD_eq_getElem?_getD,e];rfl
  rw[this];exact h v (List.mem_of_getElem? e)
 ·unfold Jy
  rw[List.getD_eq_getElem?_getD,List.getElem?_eq_none hi]
  exact(cW.nil (L:=1) (by decide)).val k |>.symm
theorem mkm{n:Nat}(h:n≤1000000):AT 24 ((n:Nat):Int) ([]:List Qr)=some (List.replicate n []):=sI (by decide) (by omega)
theorem Iq(n:Nat)(h:n≤1000000):AT 64 ((n:Nat):Int) (⟨⟨false,[]⟩,⟨false,[]⟩⟩:Qr)=some (List.replicate n ⟨⟨false,[]⟩,⟨false,[]⟩⟩):=sI (by omega) (by omega)
theorem KF{L M N:Nat}{a b:List Qr}{f g:Nat→Rat}(ha:cW L a f)(hb:cW M b g)(h:min a.length b.length≤N):bf (fun i=>f i*g i) (min a.length b.length)=bf (fun i=>f i*g i) N:=by
 rw[PI h (fun i h1 _=>by
  rcases Nat.lt_or_ge i a.length with q|q
  ·rw[hb.z i (by omega)];grind
  ·rw[ha.z i q];grind)]
theorem Jz{E:Type}{body:Nat→Unit→Option (Unit⊕E)}{n:Nat}{p:Nat→Prop}[DecidablePred p]{e:E}(h:∀k,k<n→body k ()=some (if p k then .inl ()else .inr e)):oJ body n ()=some (if ∀k,k<n→p k then .inl ()else .inr e):=by
 induction n with
 |zero=>rw[oJ,if_pos (fun k hk=>by omega)]
 |succ n ih=>
  rw[oJ,ih (fun k hk=>h k (by omega))]
  by_cases h1:∀k,k<n→p k
  ·rw[if_pos h1]
   show body n ()=_
   rw[h n (by omega)]
   by_cases h2:p n
   ·rw[if_pos h2,if_pos]
    intro k hk
    rcases Nat.lt_or_ge k n with q|q
    ·exact h1 k q
    ·obtain rfl:k=n:=by omega
     exact h2
   ·rw[if_neg h2,if_neg (fun q=>h2 (q n (by omega)))]
  ·rw[if_neg h1,if_neg (fun q=>h1 (fun k hk=>q k (by omega)))];rfl
section ops
variable {K L M:Nat}{c:Qr}{k:Rat}{a b:List (List Qr)}{F G:Nat→Nat→Rat}{x:List Qr}{f:Nat→Rat}
theorem Sb(a:List (List Qr))(i:Nat):qP a (i:Int)=some (a.getD i []):=by
 unfold qP
 refine bD<|bind_eq (dF (by omega)) ?_
 by_cases h:i<a.length
 ·exact bind_eq (a:=false) (aP rfl<|bind_eq rfl<|bind_eq (dF (by omega)) rfl)<|aP rfl<|bind_eq (aQ (dZ h)) rfl
 ·rw[iy (by omega)]
  exact bind_eq (a:=true) (aP rfl<|bind_eq rfl<|bind_eq (dT (by omega)) rfl)<|bj rfl rfl
def pG(m:List (List Qr)):Nat:=m.foldl (fun n v=>max n v.length) 0
theorem nM{m:List (List Qr)}{n:Nat}:pG m≤n↔∀v∈m,v.length≤n:=by
 have key:∀(l:List (List Qr)) (s:Nat),l.foldl (fun n v=>max n v.length) s≤n↔s≤n∧∀v∈l,v.length≤n:=by
  intro l
  induction l with
  |nil=>intro s;simp
  |cons v l ih=>
   intro s
   rw[List.foldl_cons,ih];simp only[List.mem_cons,forall_eq_or_imp]
   constructor
   ·rintro⟨h1,h2⟩;exact⟨by omega,by omega,h2⟩
   ·rintro⟨h1,h2,h3⟩;exact⟨by omega,h3⟩
 unfold pG
 rw[key];simp
theorem KG(m:List (List Qr))(h:m.length≤9223372036854775806):kR m=some (pG m:Int):=by
 unfold kR
 refine bind_eq rfl ?_
 refine aU (fun j=>(((m.take j).foldl (fun n v=>max n v.length) 0:Nat),(j:Int))) m.length ((pG m:Nat):Int) (by simp) (fun j hj=>?_) ?_ rfl
 ·refine bind_eq (dT (by omega))<|bj rfl<|bind_eq (aQ (List.getElem?_eq_getElem hj))<|bind_eq rfl<|bind_eq rfl<|bind_eq (congrArg some (bt (by omega))) ?_
  rw[List.take_add_one,List.getElem?_eq_getElem hj,List.foldl_append]
  simp only[Option.toList_some,List.foldl_cons,List.foldl_nil]
  congr 3
  omega
 ·refine bind_eq (dF (by omega))<|aP rfl ?_
  rw[List.take_length];rfl
theorem Xv(h:ru L a F)(hL:L≤10000000000)(i j:Nat):uz a (i:Int) (j:Int)=some (qn (F i j)):=by
 unfold uz
 refine bind_eq (Sb a i)<|bD<|bind_eq (dF (by omega)) ?_
 have hr:=h.row i
 generalize a.getD i []=v at hr
 by_cases hj:j<v.length
 ·obtain⟨q,e1,r1⟩:=hr.get hj
  have e2:=(r1.canon hL).1
  exact bind_eq (a:=false) (aP rfl<|bind_eq rfl<|bind_eq (dF (by omega)) rfl)<|aP rfl<|bind_eq (aQ e1)<|bind_eq e2 rfl
 ·rw[hr.z j (by omega)]
  exact bind_eq (a:=true) (aP rfl<|bind_eq rfl<|bind_eq (dT (by omega)) rfl)<|bj rfl rfl
theorem aa1(h:ru L a F)(hx:cW M x f){N:Nat}(hN:∀v∈a,min v.length x.length≤N)(hL:(N+2)*(L+M+1)≤4000000000)(hn:a.length≤1000000):
  j0 a x=some (vq a.length (fun i=>bf (fun j=>F i j*f j) N))∧cW (N*(L+M+1)+1) (vq a.length (fun i=>bf (fun j=>F i j*f j) N)) (fun i=>bf (fun j=>F i j*f j) N):=by
 have row:∀i,i<a.length→jX (a.getD i []) x=some (qn (bf (fun j=>F i j*f j) N))∧kJ (N*(L+M+1)+1) (qn (bf (fun j=>F i j*f j) N)) (bf (fun j=>F i j*f j) N):=fun i hi=>by
  have hm:=hN _ (List.mem_of_getElem? (dZ (d:=[]) hi))
  have h1:=aaV (h.row i) hx (Nat.le_trans (Nat.mul_le_mul_right _ (by omega)) hL)
  rw[KF (h.row i) hx hm]at h1
  exact⟨h1.1,h1.2.mono (Nat.add_le_add_right (Nat.mul_le_mul_right _ hm) 1)⟩
 constructor
 ·unfold j0
  refine bind_eq rfl<|bind_eq (Iq _ hn)<|bind_eq rfl ?_
  refine aU (fun j=>((j:Int),pE (fun i=>qn (bf (fun j=>F i j*f j) N)) a.length j ⟨⟨false,[]⟩,⟨false,[]⟩⟩)) a.length (vq a.length (fun i=>bf (fun j=>F i j*f j) N)) (by rw[C9];rfl) (fun j hj=>?_) ?_ rfl
  ·have e1:=(row j hj).1
   have hl:(pE (fun i=>qn (bf (fun j=>F i j*f j) N)) a.length j ⟨⟨false,[]⟩,⟨false,[]⟩⟩).length=a.length:=EH (by omega)
   have hst:∀q,qn (bf (fun i=>F j i*f i) N)=q→(pE (fun i=>qn (bf (fun j=>F i j*f j) N)) a.length j ⟨⟨false,[]⟩,⟨false,[]⟩⟩).set j q=pE (fun i=>qn (bf (fun j=>F i j*f j) N)) a.length (j+1) ⟨⟨false,[]⟩,⟨false,[]⟩⟩:=by rintro q rfl;exact EJ hj
   generalize hq:qn (bf (fun i=>F j i*f i) N)=q at e1
   have hst:=hst q hq
   refine bind_eq (dT (by omega))<|bj rfl<|bind_eq (aQ (dZ (d:=[]) hj))<|bind_eq e1<|bind_eq (cg (show j<_ by rw[hl];exact hj))<|bind_eq (fL (show j<_ by rw[hl];exact hj))<|bind_eq (congrArg some (bt (by omega))) ?_
   rw[←hst]
  ·refine bind_eq (dF (by omega))<|aP rfl ?_
   rw[EI];rfl
 ·refine nW (fun i hi=>(row i hi).2.fq) (fun i hi=>?_) (by omega)
  rw[cD (k:=fun _=>0) (fun j _=>by rw[h.z i hi j];grind),kn]
theorem TW{l:List (List Int)}(hl:∀v∈l,v.length≤1000∧∀y∈v,fu y)(hn:l.length≤1000):iq l=some (mq l.length (fun i=>(l.getD i []).length) (fun i j=>(((l.getD i []).getD j 0:Int):Rat)))∧ru 2 (mq l.length (fun i=>(l.getD i []).length) (fun i j=>(((l.getD i []).getD j 0:Int):Rat))) (fun i j=>(((l.getD i []).getD j 0:Int):Rat)):=by
 have hw:∀i,(l.getD i []).length≤1000∧∀y∈l.getD i [],fu y:=fun i=>by
  by_cases hi:i<l.length
  ·exact hl _ (List.mem_of_getElem? (dZ (d:=[]) hi))
  ·rw[iy (by omega)];simp
 constructor
 ·unfold iq
  refine bind_eq rfl<|bind_eq (mkm (by omega))<|bind_eq rfl ?_
  refine aU (fun j=>((j:Int),pE (fun i=>vq (l.getD i []).length (fun j=>(((l.getD i []).getD j 0:Int):Rat))) l.length j [])) l.length (mq l.length (fun i=>(l.getD i []).length) (fun i j=>(((l.getD i []).getD j 0:Int):Rat))) (by rw[C9];rfl) (fun j hj=>?_) ?_ rfl
  ·have e1:=(yD (hw j).2 (by have:=(hw j).1;omega)).1
   have hl:(pE (fun i=>vq (l.getD i []).length (fun j=>(((l.getD i []).getD j 0:Int):Rat))) l.length j []).length=l.length:=EH (by omega)
   refine bind_eq (dT (by omega))<|bj rfl<|bind_eq (aQ (dZ (d:=[]) hj))<|bind_eq e1<|bind_eq (cg (show j<_ by rw[hl];exact hj))<|bind_eq (fL (show j<_ by rw[hl];exact hj))<|bind_eq (congrArg some (bt (by omega))) ?_
   rw[←EJ hj]
  ·refine bind_eq (dF (by omega))<|aP rfl ?_
   rw[EI];rfl
 ·refine PR (fun i hi j hj=>(yD (hw i).2 (by have:=(hw i).1;omega)).2.fq j) (fun i hi j hj=>by rw[iy hj];rfl) (fun i hi j=>by rw[iy hi];rfl) (by decide)
end ops
end Go.Proofs.YtningmnklfpfjaaGreat
namespace Go.Proofs.YtningmnklfpfjaaGreat
open Go.Fw
theorem Ir{α:Type}{b:Bool}{x y r:α}(ht:b=true→x=r)(hf:b=false→y=r):(bif b then x else y)=r:=by
 cases b
 ·rw[jT];exact hf rfl
 ·rw[jn];exact ht rfl
theorem zL{E:Type}{body:Int→Option (Int⊕(Unit⊕E))}{n:Nat}{p:Nat→Prop}[DecidablePred p]{e:E}(h:∀k:Nat,k<n→body (k:Int)=some (if p k then .inl ((k+1:Nat):Int)else .inr (.inr e)))(hn:body (n:Int)=some (.inr (.inl ()))):
  bU body 0=some (if ∀k,k<n→p k then .inl ()else .inr e):=by
 obtain⟨r,h1,h2⟩:=yQ (body:=body) (s:=0) (fun s=>∃k:Nat,s=(k:Int)∧k≤n∧∀i,i<k→p i) (fun r=>(r=.inl ()∧∀k,k<n→p k)∨(r=.inr e∧¬∀k,k<n→p k)) (fun s=>n-s.toNat) (by
  rintro _ ⟨k,rfl,hk,hp⟩
  by_cases hlt:k<n
  ·by_cases hpk:p k
   ·refine .inl ⟨_,by rw[h k hlt,if_pos hpk],⟨k+1,rfl,hlt,fun i hi=>?_⟩,by simp only[Int.toNat_natCast];omega⟩
    rcases Nat.lt_or_ge i k with q|q
    ·exact hp i q
    ·obtain rfl:i=k:=by omega
     exact hpk
   ·exact .inr ⟨_,by rw[h k hlt,if_neg hpk],.inr ⟨rfl,fun q=>hpk (q k hlt)⟩⟩
  ·obtain rfl:k=n:=by omega
   exact .inr ⟨_,hn,.inl ⟨rfl,hp⟩⟩) ⟨0,rfl,by omega,fun i hi=>by omega⟩
 rw[h1]
 rcases h2 with⟨rfl,h2⟩|⟨rfl,h2⟩
 ·rw[if_pos h2]
 ·rw[if_neg h2]
def yE(n:Nat)(f:Nat→Rat)(i:Nat):Rat:=if i<n then f i else 0
theorem vF{n i:Nat}{f:Nat→Rat}(h:i<n):yE n f i=f i:=if_pos h
theorem KH{n i:Nat}{f:Nat→Rat}(h:n≤i):yE n f i=0:=if_neg (by omega)
theorem Xw(n:Nat)(f:Nat→Rat):vq n f=vq n (yE n f):=fF (fun i hi=>(vF hi).symm)
theorem yF{L n:Nat}{f:Nat→Rat}(h:∀i,i<n→FQ L (f i))(h1:1≤L):cW L (vq n f) (yE n f):=by
 rw[Xw]
 exact nW (fun i hi=>by rw[vF hi];exact h i hi) (fun i hi=>KH hi) h1
def Is(n:Int)(ob rw:List (List Qr))(bd:List Qr):Prop:=0≤n∧n≤64∧1≤ob.length∧ob.length≤4∧rw.length≤128∧bd.length=rw.length∧(pG ob:Int)≤n∧(pG rw:Int)≤n
instance(n:Int)(ob rw:List (List Qr))(bd:List Qr):Decidable (Is n ob rw bd):=by unfold Is;exact inferInstance
theorem It{n:Int}{ob rw:List (List Qr)}{bd:List Qr}(h1:ob.length≤9223372036854775806)(h2:rw.length≤9223372036854775806):iL ⟨n,ob,rw,bd⟩=some (decide (Is n ob rw bd)):=by
 unfold iL ot
 refine bind_eq (bind_eq rfl<|bind_eq rfl<|bind_eq rfl rfl)<|bD<|bind_eq rfl<|EG (fun _=>bind_eq rfl rfl)<|EG (fun _=>bind_eq rfl rfl)<|EG (fun _=>bind_eq rfl rfl)<|Ir (fun h=>?_) (fun h=>bD<|bind_eq rfl<|EG (fun _=>bind_eq rfl rfl)<|Ir (fun h'=>?_) (fun h'=>bD<|bind_eq (KG ob h1)<|bind_eq rfl<|R9 (fun _=>bind_eq (KG rw h2)<|bind_eq rfl rfl) ?_))
 ·congr 1;symm;rw[decide_eq_false_iff_not]
  simp only[Bool.or_eq_true,decide_eq_true_eq]at h
  unfold Is;omega
 ·congr 1;symm;rw[decide_eq_false_iff_not]
  simp only[Bool.or_eq_true,decide_eq_true_eq]at h'
  unfold Is;omega
 ·congr 1
  simp only[Bool.or_eq_false_iff,decide_eq_false_iff_not]at h h'
  rw[←Bool.decide_and,decide_eq_decide]
  unfold Is;omega
section lps
variable {K L M N:Nat}{n:Int}{ob rw:List (List Qr)}{bd x y:List Qr}{O F:Nat→Nat→Rat}{g f:Nat→Rat}
theorem eval_eq(ho:ru L ob O)(hx:cW M x f)(hN:∀v∈ob,min v.length x.length≤N)(hL:(N+2)*(L+M+1)≤4000000000)(hn:ob.length≤1000000):
  wz ⟨n,ob,rw,bd⟩ x=some (vq ob.length (fun i=>bf (fun j=>O i j*f j) N))∧cW (N*(L+M+1)+1) (vq ob.length (fun i=>bf (fun j=>O i j*f j) N)) (fun i=>bf (fun j=>O i j*f j) N):=by
 obtain⟨h1,h2⟩:=aa1 ho hx hN hL hn
 exact⟨bind_eq h1 rfl,h2⟩
theorem PS(hr:ru L rw F)(hb:cW K bd g)(hx:cW M x f)(hN:∀v∈rw,min v.length x.length≤N)(hL:(N+2)*(L+M+1)≤2000000000)(hK:K≤1000000000)(h2:rw.length≤1000000):
  oY ⟨n,ob,rw,bd⟩ x=some (vq rw.length (fun i=>g i-bf (fun j=>F i j*f j) N))∧∀i,i<rw.length→FQ (K+(N*(L+M+1)+1)+1) (g i-bf (fun j=>F i j*f j) N):=by
 have row:∀i,i<rw.length→∃q,jX (rw.getD i []) x=some q∧kJ (N*(L+M+1)+1) q (bf (fun j=>F i j*f j) N):=fun i hi=>by
  have hm:=hN _ (List.mem_of_getElem? (dZ (d:=[]) hi))
  have h1:=aaV (hr.row i) hx (Nat.le_trans (Nat.mul_le_mul_right _ (show min (rw.getD i []).length x.length+2≤N+2 by omega)) (by omega))
  rw[KF (hr.row i) hx hm]at h1
  exact⟨_,h1.1,h1.2.mono (Nat.add_le_add_right (Nat.mul_le_mul_right _ hm) 1)⟩
 have hsz:K+(N*(L+M+1)+1)≤4000000000:=by rw[Nat.add_mul]at hL;omega
 refine⟨?_,fun i hi=>?_⟩
 ·unfold oY
  refine mX (fun j=>vq j (fun i=>g i-bf (fun j=>F i j*f j) N)) rfl (fun i hi=>?_) rfl
  obtain⟨q,e1,r1⟩:=row i hi
  have rb:=hb.gd i
  have e2:=(rb.sub r1 hsz).1
  generalize hbq:bd.getD i (⟨⟨false,[]⟩,⟨false,[]⟩⟩:Qr)=bq at e2
  have e3:xy 64 (vq i (fun i=>g i-bf (fun j=>F i j*f j) N)) [qn (g i-bf (fun j=>F i j*f j) N)]=some (vq (i+1) (fun i=>g i-bf (fun j=>F i j*f j) N)):=by rw[AI (by decide) (by rw[bu];have:i<rw.length:=hi;omega),yB]
  generalize qn (g i-bf (fun j=>F i j*f j) N)=q2 at e2 e3
  exact bind_eq rfl<|bind_eq (a:=bq) (by first|rfl|exact congrArg some hbq)<|bind_eq e1<|bind_eq e2<|bind_eq e3 rfl
 ·obtain⟨q,e1,r1⟩:=row i hi
  exact((hb.gd i).sub r1 hsz).2.fq
end lps
end Go.Proofs.YtningmnklfpfjaaGreat
namespace Go.Proofs.YtningmnklfpfjaaGreat
open Go.Fw
def bq(m:Nat)(b:Nat→Nat):List Int:=(List.range m).map fun j=>((b j:Nat):Int)
theorem xq(m:Nat)(b:Nat→Nat):(bq m b).length=m:=by simp[bq]
theorem xu{m j:Nat}{b:Nat→Nat}(h:j<m):(bq m b)[j]? =some ((b j:Nat):Int):=by simp[bq,h]
theorem Sc(m:Nat)(b:Nat→Nat):bq (m+1) b=bq m b++[((b m:Nat):Int)]:=by simp[bq,List.range_succ]
theorem Xx{m r c:Nat}{b:Nat→Nat}(hr:r<m):(bq m b).set r (c:Int)=bq m (fun j=>if j=r then c else b j):=by
 apply List.ext_getElem?
 intro j
 rw[List.getElem?_set,xq]
 by_cases hj:j<m
 ·rw[xu hj]
  by_cases e:r=j
  ·subst e;rw[if_pos rfl,if_pos hr,xu hr,if_pos rfl]
  ·rw[if_neg e,xu hj,if_neg (fun q=>e q.symm)]
 ·rw[List.getElem?_eq_none (l:=bq m _) (by rw[xq];omega),List.getElem?_eq_none (l:=bq m _) (by rw[xq];omega)]
  by_cases e:r=j
  ·rw[if_pos e,if_neg (by omega)]
  ·rw[if_neg e]
abbrev Ge(n m p:Nat)(O F:Nat→Nat→Rat)(b:Nat→Nat):Tb:=⟨true,(n:Int),mq p (fun _=>n) O,bq m b,mq m (fun _=>n+m+1) F⟩
structure qw (L n m p:Nat) (O F:Nat→Nat→Rat) (b:Nat→Nat):Prop where
 f:∀i,i<m→∀k,FQ L (F i k)
 o:∀i,i<p→∀k,FQ L (O i k)
 z:∀i,i<m→∀k,n+m+1≤k→F i k=0
 l1:1≤L
 hn:n≤64
 hm:m≤128
 hp:p≤4
 hb:∀j,j<m→b j<n+m
section tab
variable {L n m p:Nat}{O F:Nat→Nat→Rat}{b:Nat→Nat}
theorem jU(n m p:Nat)(O F:Nat→Nat→Rat)(b:Nat→Nat):bV (Ge n m p O F b)=some false:=by
 unfold bV
 exact bD<|bind_eq (a:=false) (aP rfl<|bind_eq rfl rfl) rfl
theorem Da(hn:n≤64)(hm:m≤128):ew (Ge n m p O F b)=some ((n+m:Nat):Int):=by
 unfold ew
 refine bind_eq rfl<|bind_eq (congrArg some ?_) rfl
 rw[eE,cq (by omega) (by omega)];omega
theorem Xy{i:Nat}(h:qw L n m p O F b)(hi:i<m):cW L (vq (n+m+1) (F i)) (F i):=nW (fun k _=>h.f i hi k) (fun k hk=>h.z i hi k hk) h.l1
theorem KI(h:qw L n m p O F b)(hL:L≤4000000000){c:Nat}(hc:c<n+m+1):gM (Ge n m p O F b) (c:Int)=some (vq m (fun i=>F i c)):=by
 have hm:=h.hm
 unfold gM
 show(some ((mq m (fun _=>n+m+1) F).length:Int)).bind _=_
 refine bind_eq rfl ?_
 rw[eE]
 refine bind_eq (Iq m (by omega))<|bind_eq rfl ?_
 refine aU (fun k=>((k:Int),vq k (fun i=>F i c)++List.replicate (m-k) qz)) m (vq m (fun i=>F i c)) rfl (fun k hk=>?_) ?_ rfl
 ·have g1:(mq m (fun _=>n+m+1) F)[k]? =some (vq (n+m+1) (F k)):=kU hk
  have g2:(vq (n+m+1) (F k))[c]? =some (qn (F k c)):=mA hc
  have e:=(((h.f k hk c).rep h.l1).canon (by omega)).1
  have s:=Gc (h:=fun i=>F i c) hk
  have hl:(vq k (fun i=>F i c)++List.replicate (m-k) qz).length=m:=sN (by omega)
  rw[←s]
  generalize vq k (fun i=>F i c)++List.replicate (m-k) qz=l at*
  clear s
  show(some (decide ((k:Int)<(m:Int)))).bind _=_
  generalize qn (F k c)=q at*
  obtain⟨⟨_,_⟩,⟨_,_⟩⟩:=q
  exact bind_eq (dT (by omega))<|bj rfl<|bind_eq (aQ g1)<|bind_eq (aQ g2)<|bind_eq e<|bind_eq (cg (by omega))<|bind_eq (fL (by omega))<|bind_eq (congrArg some (bt (by omega))) rfl
 ·simp only[Nat.sub_self,List.replicate_zero,List.append_nil]
  exact bind_eq (dF (by omega))<|aP rfl rfl
def lA(n p:Nat)(O:Nat→Nat→Rat)(c:Nat)(i:Nat):Rat:=if c<n then(if i<p then O i c else if i=p+c then-1 else 0)else 0
theorem rA{k j:Nat}{h:Nat→Rat}{x:Rat}(hj:j<k):(vq k h).set j (qn x)=vq k (fun i=>if i=j then x else h i):=by
 apply List.ext_getElem?
 intro i
 rw[List.getElem?_set,bu]
 by_cases hi:i<k
 ·rw[mA hi]
  by_cases e:j=i
  ·subst e;rw[if_pos rfl,if_pos hj,mA hj,if_pos rfl]
  ·rw[if_neg e,mA hi,if_neg (fun q=>e q.symm)]
 ·rw[List.getElem?_eq_none (l:=vq k _) (by rw[bu];omega),List.getElem?_eq_none (l:=vq k _) (by rw[bu];omega)]
  by_cases e:j=i
  ·rw[if_pos e,if_neg (by omega)]
  ·rw[if_neg e]
theorem yG(k:Nat):List.replicate k (⟨⟨false,[]⟩,⟨false,[]⟩⟩:Qr)=vq k (fun _=>0):=by
 apply List.ext_getElem?
 intro i
 by_cases hi:i<k
 ·rw[mA hi,List.getElem?_replicate,if_pos hi];rfl
 ·rw[List.getElem?_eq_none (by simp;omega),List.getElem?_eq_none (by rw[bu];omega)]
theorem Se:cA (-1)=some (qn (-1)):=(mz (n:=-1) (by decide)).1
theorem one_eq:cA 1=some (qn 1)∧kJ 2 (qn 1) 1:=mz (n:=1) (by decide)
theorem PT(h:qw L n m p O F b){c:Nat}(hc:c<n+m):iZ (Ge n m p O F b) (c:Int)=some (vq (p+n) (lA n p O c)):=by
 have hm:=h.hm
 have hn:=h.hn
 have hp:=h.hp
 unfold iZ
 show(some ((mq p (fun _=>n) O).length:Int)).bind _=_
 refine bind_eq rfl ?_
 rw[eE]
 refine bind_eq (congrArg some (show IntKind.i64.wrap ((p:Int)+(n:Int))=((p+n:Nat):Int) by rw[cq (by omega) (by omega)];omega))<|bind_eq (Iq (p+n) (by omega))<|bind_eq rfl<|bD ?_
 rw[yG]
 by_cases hcn:c<n
 ·refine bj (decide_eq_true (show(c:Int)<(n:Int) by omega))<|bind_eq rfl ?_
  refine aU (fun k=>((k:Int),vq (p+n) (fun i=>if i<k then O i c else 0))) p (vq (p+n) (fun i=>if i<p then O i c else 0)) (by simp) (fun k hk=>?_) ?_ ?_
  ·have g1:(mq p (fun _=>n) O)[k]? =some (vq n (O k)):=kU hk
   have g2:(vq n (O k))[c]? =some (qn (O k c)):=mA hcn
   have s:=rA (k:=p+n) (j:=k) (h:=fun i=>if i<k then O i c else 0) (x:=O k c) (by omega)
   have s2:vq (p+n) (fun i=>if i=k then O k c else if i<k then O i c else 0)=vq (p+n) (fun i=>if i<k+1 then O i c else 0):=fF (fun i _=>by
    by_cases e:i=k
    ·subst e;simp
    ·rw[if_neg e]
     by_cases e2:i<k
     ·rw[if_pos e2,if_pos (by omega)]
     ·rw[if_neg e2,if_neg (by omega)])
   rw[s2]at s
   have hl:=bu (p+n) (fun i=>if i<k then O i c else 0)
   rw[←s]
   generalize vq (p+n) (fun i=>if i<k then O i c else 0)=l at*
   clear s s2
   show(some (decide ((k:Int)<(p:Int)))).bind _=_
   generalize qn (O k c)=q at*
   obtain⟨⟨_,_⟩,⟨_,_⟩⟩:=q
   exact bind_eq (dT (by omega))<|bj rfl<|bind_eq (aQ g1)<|bind_eq (aQ g2)<|bind_eq (cg (by omega))<|bind_eq (fL (by omega))<|bind_eq (congrArg some (bt (by omega))) rfl
  ·exact bind_eq (dF (by omega))<|aP rfl rfl
  ·have s:=rA (k:=p+n) (j:=p+c) (h:=fun i=>if i<p then O i c else 0) (x:=-1) (by omega)
   have s2:vq (p+n) (fun i=>if i=p+c then(-1:Rat)else if i<p then O i c else 0)=vq (p+n) (lA n p O c):=fF (fun i _=>by
    unfold lA
    rw[if_pos hcn]
    by_cases e:i=p+c
    ·rw[if_pos e,if_neg (by omega),if_pos e]
    ·rw[if_neg e,if_neg e])
   rw[s2]at s
   have hl:=bu (p+n) (fun i=>if i<p then O i c else 0)
   have e1:=Se
   rw[←s]
   generalize vq (p+n) (fun i=>if i<p then O i c else 0)=l at*
   clear s s2
   generalize qn (-1)=q at*
   obtain⟨⟨_,_⟩,⟨_,_⟩⟩:=q
   exact bind_eq rfl<|bind_eq (congrArg some (show IntKind.i64.wrap ((p:Int)+(c:Int))=((p+c:Nat):Int) by rw[cq (by omega) (by omega)];omega))<|bind_eq e1<|bind_eq (cg (by omega))<|bind_eq (fL (by omega)) rfl
 ·refine aP (decide_eq_false (show ¬(c:Int)<(n:Int) by omega)) ?_
  exact congrArg some (fF (fun i _=>by unfold lA;rw[if_neg hcn]))
theorem PU(h:qw L n m p O F b)(c i:Nat):FQ L (lA n p O c i):=by
 unfold lA
 have hl:=h.l1
 split
 ·split
  ·exact h.o _ (by assumption) _
  ·split
   ·exact(FQ.int (i:=-1) (L:=L) (by unfold Fit;exact Nat.lt_of_lt_of_le (by decide:(-1:Int).natAbs<4294967296^1) (Nat.pow_le_pow_right (by decide) hl)) hl)
   ·exact vE hl
 ·exact vE hl
theorem KJ(h:qw L n m p O F b)(c:Nat):cW L (vq (p+n) (lA n p O c)) (lA n p O c):=nW (fun i _=>PU h c i) (fun i hi=>by
 unfold lA
 split
 ·rw[if_neg (by omega),if_neg (by omega)]
 ·rfl) h.l1
def pN(n p:Nat)(O:Nat→Nat→Rat)(b:Nat→Nat)(g:Nat→Rat)(m:Nat)(i:Nat):Rat:=bf (fun j=>g j*lA n p O (b j) i) m
theorem Xz{g:Nat→Rat}{k i:Nat}(hi:p+n≤i):pN n p O b g k i=0:=by
 unfold pN
 rw[cD (k:=fun _=>0) (fun j _=>?_),kn]
 unfold lA
 split
 ·rw[if_neg (by omega),if_neg (by omega)];grind
 ·grind
theorem Be(h:qw L n m p O F b){g:Nat→Rat}(hg:∀j,j<m→FQ L (g j)):∀k,k≤m→∀i,FQ (k*(L+L+1)+1) (pN n p O b g k i)
 |0,_,i=>by show FQ (0*(L+L+1)+1) (0:Rat);rw[Nat.zero_mul];exact vE (by decide)
 |k+1,hk,i=>by
  have e:=(Be h hg k (by omega) i).add ((hg k (by omega)).mul (PU h (b k) i))
  exact e.mono (by rw[Nat.succ_mul];generalize k*(L+L+1)=q;omega)
theorem Db(h:qw L n m p O F b){g:Nat→Rat}(hg:∀j,j<m→FQ L (g j)){k:Nat}(hk:k≤m):cW (k*(L+L+1)+1) (vq (p+n) (pN n p O b g k)) (pN n p O b g k):=nW (fun i _=>Be h hg k hk i) (fun i hi=>Xz hi) (by omega)
theorem EK(h:qw L n m p O F b)(hL:(m+1)*(L+L+1)≤2000000000){g:Nat→Rat}(hg:∀j,j<m→FQ L (g j)):e9 (Ge n m p O F b) (vq m g)=some (vq (p+n) (pN n p O b g m)):=by
 have hX:m*(L+L+1)+(L+L+1)≤2000000000:=by rw[←Nat.succ_mul];exact hL
 have hm:=h.hm
 have hn:=h.hn
 have hp:=h.hp
 have h1:=h.l1
 unfold e9
 show(some ((mq p (fun _=>n) O).length:Int)).bind _=_
 refine bind_eq rfl ?_
 rw[eE]
 refine bind_eq (congrArg some (show IntKind.i64.wrap ((p:Int)+(n:Int))=((p+n:Nat):Int) by rw[cq (by omega) (by omega)];omega))<|bind_eq (Iq (p+n) (by omega))<|bind_eq (congrArg some (show((vq m g).length:Int)=(m:Int) by rw[bu])) ?_
 rw[yG]
 refine aU (fun k=>(vq (p+n) (pN n p O b g k),(k:Int))) m (vq (p+n) (pN n p O b g m)) rfl (fun k hk=>?_) ?_ rfl
 ·have g1:(vq m g)[k]? =some (qn (g k)):=mA hk
  have g2:=xu (b:=b) hk
  have rg:=(hg k hk).rep h1
  have sg:=rg.sign (by omega)
  have Ui:=h.hb k hk
  have tv:=PT h Ui
  have va:=PJ rg (KJ h (b k)) (Db h hg (Nat.le_of_lt hk)) (by have:=Nat.mul_le_mul_right (L+L+1) (show k≤m by omega);omega) (by rw[bu];omega) (by rw[bu];omega)
  have e0:vq (max (vq (p+n) (lA n p O (b k))).length (vq (p+n) (pN n p O b g k)).length) (fun i=>g k*lA n p O (b k) i+pN n p O b g k i)=vq (p+n) (pN n p O b g (k+1)):=by
   rw[bu,bu,Nat.max_self]
   refine fF (fun i _=>?_)
   show _=bf _ k+_
   unfold pN;grind
  rw[e0]at va
  have same:g k*lA n p O (b k) 0=g k*lA n p O (b k) 0:=rfl
  have skip:(¬(b k<n)∨g k=0)→vq (p+n) (pN n p O b g k)=vq (p+n) (pN n p O b g (k+1)):=fun q=>fF (fun i _=>by
   show pN n p O b g k i=bf _ k+_
   have:g k*lA n p O (b k) i=0:=by
    rcases q with q|q
    ·unfold lA;rw[if_neg q];grind
    ·rw[q];grind
   show pN n p O b g k i=pN n p O b g k i+g k*lA n p O (b k) i
   rw[this];grind)
  replace va:=va.1
  show(some (decide ((k:Int)<(m:Int)))).bind _=_
  have sgd:(some (decide (pB (g k) 0≠0)):Option Bool)=some (decide (g k≠0)):=by
   congr 1
   by_cases q:g k=0
   ·rw[decide_eq_false (by rw[q,vD];simp),decide_eq_false (by simp[q])]
   ·rw[decide_eq_true (show pB (g k) 0≠0 from fun e=>q (jd.1 e)),decide_eq_true q]
  generalize hq:qn (g k)=q at*
  obtain⟨⟨q1,q2⟩,⟨q3,q4⟩⟩:=q
  refine bind_eq (dT (by omega))<|bj rfl<|bind_eq (aQ g1)<|bD<|bind_eq (aQ g2)<|bind_eq rfl ?_
  by_cases Ut:b k<n
  ·refine bind_eq (a:=decide (g k≠0)) (bj (decide_eq_true (show((b k:Nat):Int)<(n:Int) by omega))<|bind_eq sg<|bind_eq sgd rfl)<|bD ?_
   by_cases h0:g k=0
   ·refine aP (by simp[h0]) ?_
    rw[skip (.inr h0)]
    exact bind_eq (congrArg some (bt (by omega))) rfl
   ·refine bj (by simp[h0]) ?_
    exact bind_eq (aQ g2)<|bind_eq tv<|bind_eq va<|bind_eq (congrArg some (bt (by omega))) rfl
  ·refine bind_eq (a:=false) (aP (decide_eq_false (show ¬((b k:Nat):Int)<(n:Int) by omega)) rfl)<|bD<|aP rfl ?_
   rw[skip (.inl Ut)]
   exact bind_eq (congrArg some (bt (by omega))) rfl
 ·exact bind_eq (dF (by omega))<|aP rfl rfl
theorem JA(h:qw L n m p O F b)(hL:L≤4000000000):fo (Ge n m p O F b)=some (vq m (fun i=>F i (n+m))):=by
 unfold fo
 exact bind_eq (jU n m p O F b)<|aP rfl<|bind_eq (Da h.hn h.hm)<|bind_eq (KI h hL (by omega)) rfl
def u0(n m p:Nat)(O F:Nat→Nat→Rat)(b:Nat→Nat)(c:Nat)(i:Nat):Rat:=pN n p O b (fun j=>F j c) m i-lA n p O c i
theorem Iu(h:qw L n m p O F b)(hL:(m+1)*(L+L+1)≤2000000000){c:Nat}(hc:c<n+m):cE (Ge n m p O F b) (c:Int)=some (vq (p+n) (u0 n m p O F b c))∧cW (m*(L+L+1)+1+L+1) (vq (p+n) (u0 n m p O F b c)) (u0 n m p O F b c):=by
 have hX:m*(L+L+1)+(L+L+1)≤2000000000:=by rw[←Nat.succ_mul];exact hL
 have hm:=h.hm
 have hn:=h.hn
 have hp:=h.hp
 have w:=EK h hL (g:=fun j=>F j c) (fun j hj=>h.f j hj c)
 have s:=aaU (Db h (g:=fun j=>F j c) (fun j hj=>h.f j hj c) (Nat.le_refl m)) (KJ h c) (by omega) (by rw[bu];omega) (by rw[bu];omega)
 rw[bu,bu,Nat.max_self]at s
 refine⟨?_,s.2⟩
 unfold cE
 exact bD<|bind_eq (jU n m p O F b)<|bind_eq (a:=false) (aP rfl<|bind_eq (dF (by omega)) rfl)<|bind_eq (a:=false) (aP rfl<|bind_eq (Da hn hm)<|bind_eq (dF (by omega)) rfl)<|aP rfl<|bind_eq (KI h (by omega) (by omega))<|bind_eq w<|bind_eq (PT h hc)<|bind_eq s.1 rfl
theorem Gf(h:qw L n m p O F b)(hL:(m+1)*(L+L+1)≤2000000000):iB (Ge n m p O F b)=some (vq (p+n) (pN n p O b (fun j=>F j (n+m)) m)):=by
 have hX:m*(L+L+1)+(L+L+1)≤2000000000:=by rw[←Nat.succ_mul];exact hL
 unfold iB
 exact bind_eq (jU n m p O F b)<|aP rfl<|bind_eq (JA h (by omega))<|bind_eq (EK h hL (g:=fun j=>F j (n+m)) (fun j hj=>h.f j hj _)) rfl
def AL(n m:Nat)(F:Nat→Nat→Rat)(b:Nat→Nat):Nat→Nat→Rat
 |0,_=>0
 |j+1,i=>if b j<n∧i=b j then F j (n+m)else AL n m F b j i
theorem LQ(h:qw L n m p O F b)(hL:L≤4000000000):ir (Ge n m p O F b)=some (vq n (AL n m F b m)):=by
 have hm:=h.hm
 have hn:=h.hn
 unfold ir
 refine bind_eq (jU n m p O F b)<|aP rfl<|bind_eq (Iq n (by omega))<|bind_eq (JA h hL)<|bind_eq (congrArg some (show((vq m _).length:Int)=(m:Int) by rw[bu])) ?_
 rw[yG]
 refine aU (fun k=>((k:Int),vq n (AL n m F b k))) m (vq n (AL n m F b m)) rfl (fun k hk=>?_) ?_ rfl
 ·have g1:(vq m (fun i=>F i (n+m)))[k]? =some (qn (F k (n+m))):=mA hk
  have g2:=xu (b:=b) hk
  have hl:=bu n (AL n m F b k)
  show(some (decide ((k:Int)<(m:Int)))).bind _=_
  by_cases Ut:b k<n
  ·have s:=rA (k:=n) (j:=b k) (h:=AL n m F b k) (x:=F k (n+m)) Ut
   have s2:vq n (fun i=>if i=b k then F k (n+m)else AL n m F b k i)=vq n (AL n m F b (k+1)):=fF (fun i _=>by
    show _=if b k<n∧i=b k then _ else _
    by_cases e:i=b k
    ·rw[if_pos e,if_pos ⟨Ut,e⟩]
    ·rw[if_neg e,if_neg (fun q=>e q.2)])
   rw[s2]at s
   rw[←s]
   clear s s2
   generalize vq n (AL n m F b k)=l at*
   generalize qn (F k (n+m))=q at*
   obtain⟨⟨_,_⟩,⟨_,_⟩⟩:=q
   exact bind_eq (dT (by omega))<|bj rfl<|bind_eq (aQ g1)<|bind_eq (aQ g2)<|bind_eq rfl<|bD<|bj (decide_eq_true (show((b k:Nat):Int)<(n:Int) by omega))<|bind_eq (aQ g2)<|bind_eq (cg (by omega))<|bind_eq (fL (by omega))<|bind_eq (congrArg some (bt (by omega))) rfl
  ·have s2:vq n (AL n m F b k)=vq n (AL n m F b (k+1)):=fF (fun i _=>by
    show _=if b k<n∧i=b k then _ else _
    rw[if_neg (fun q=>Ut q.1)])
   rw[←s2]
   generalize qn (F k (n+m))=q at*
   obtain⟨⟨_,_⟩,⟨_,_⟩⟩:=q
   exact bind_eq (dT (by omega))<|bj rfl<|bind_eq (aQ g1)<|bind_eq (aQ g2)<|bind_eq rfl<|bD<|aP (decide_eq_false (show ¬((b k:Nat):Int)<(n:Int) by omega))<|bind_eq (congrArg some (bt (by omega))) rfl
 ·exact bind_eq (dF (by omega))<|aP rfl rfl
theorem LR(h:qw L n m p O F b)(hL:L≤4000000000):iu (Ge n m p O F b)=some (decide (∀i,i<m→0≤F i (n+m))):=by
 have hm:=h.hm
 unfold iu
 refine bind_eq (jU n m p O F b)<|aP rfl<|bind_eq (JA h hL)<|bind_eq (congrArg some (show((vq m _).length:Int)=(m:Int) by rw[bu])) ?_
 refine bind_eq (zL (n:=m) (p:=fun i=>0≤F i (n+m)) (e:=false) (fun k hk=>?_) (bind_eq (dF (by omega))<|aP rfl rfl)) ?_
 ·have g1:(vq m (fun i=>F i (n+m)))[k]? =some (qn (F k (n+m))):=mA hk
  have sg:=((h.f k hk (n+m)).rep h.l1).sign (by omega)
  generalize qn (F k (n+m))=q at*
  obtain⟨⟨_,_⟩,⟨_,_⟩⟩:=q
  refine bind_eq (dT (by omega))<|bj rfl<|bind_eq (aQ g1)<|bind_eq sg<|bind_eq rfl ?_
  by_cases q:F k (n+m)<0
  ·rw[if_neg (by grind)]
   exact bj (decide_eq_true (Im.2 q)) rfl
  ·rw[if_pos (by grind)]
   exact aP (decide_eq_false (fun e=>q (Im.1 e)))<|bind_eq (congrArg some (bt (by omega))) rfl
 ·by_cases q:∀i,i<m→0≤F i (n+m)
  ·rw[if_pos q,decide_eq_true q]
  ·rw[if_neg q,decide_eq_false q]
theorem Iv(h:qw L n m p O F b)(hL:(m+1)*(L+L+1)≤2000000000):gW (Ge n m p O F b)=some (decide (∀c,c<n+m→0≤pD (u0 n m p O F b c) (fun _=>0) (p+n))):=by
 have hX:m*(L+L+1)+(L+L+1)≤2000000000:=by rw[←Nat.succ_mul];exact hL
 have hm:=h.hm
 have hn:=h.hn
 unfold gW
 refine bind_eq (jU n m p O F b)<|aP rfl ?_
 have hw:(IntKind.i64.wrap (Tb.vars (Ge n m p O F b)+((Tb.rows (Ge n m p O F b)).length:Int))).toNat=n+m:=by
  show(IntKind.i64.wrap ((n:Int)+((mq m (fun _=>n+m+1) F).length:Int))).toNat=_
  rw[eE,cq (by omega) (by omega)];omega
 refine bind_eq (a:=if ∀c,c<n+m→0≤pD (u0 n m p O F b c) (fun _=>0) (p+n)then .inl ()else .inr false) ?_ ?_
 ·refine Eq.trans (congrArg (fun k=>oJ _ k ()) hw) ?_
  refine Jz (n:=n+m) (p:=fun c=>0≤pD (u0 n m p O F b c) (fun _=>0) (p+n)) (e:=false) (fun k hk=>?_)
  obtain⟨e,r⟩:=Iu h hL hk
  have sg:=aaX r (by omega)
  rw[bu]at sg
  refine bind_eq rfl<|bind_eq e<|bind_eq sg<|bind_eq rfl ?_
  by_cases q:0≤pD (u0 n m p O F b k) (fun _=>0) (p+n)
  ·rw[if_pos q];exact aP (decide_eq_false (by omega)) rfl
  ·rw[if_neg q];exact bj (decide_eq_true (by omega)) rfl
 ·by_cases q:∀c,c<n+m→0≤pD (u0 n m p O F b c) (fun _=>0) (p+n)
  ·rw[if_pos q,decide_eq_true q]
  ·rw[if_neg q,decide_eq_false q]
end tab
end Go.Proofs.YtningmnklfpfjaaGreat
namespace Go.Proofs.YtningmnklfpfjaaGreat
open Go.Fw
def mH(F:Nat→Nat→Rat)(r c i k:Nat):Rat:=if i=r then F r k/F r c else F i k-F i c*(F r k/F r c)
section tab
variable {L n m p:Nat}{O F:Nat→Nat→Rat}{b:Nat→Nat}
theorem PW(h:qw L n m p O F b){r c:Nat}(hr:r<m)(h0:F r c≠0){i:Nat}(hi:i<m)(k:Nat):FQ (4*L+1) (mH F r c i k):=by
 have e:=(h.f r hr k).div (h.f r hr c) h0
 unfold mH
 split
 ·exact e.mono (by omega)
 ·exact((h.f i hi k).sub ((h.f i hi c).mul e)).mono (by omega)
theorem TX(h:qw L n m p O F b){r i:Nat}(hr:r<m)(c:Nat)(hi:i<m){k:Nat}(hk:n+m+1≤k):mH F r c i k=0:=by
 unfold mH
 rw[h.z r hr k hk,h.z i hi k hk]
 have e:(0:Rat)/F r c=0:=by rw[Rat.div_def,Rat.zero_mul]
 rw[e]
 split
 ·rfl
 ·grind
theorem Gg(h:qw L n m p O F b){r c:Nat}(hr:r<m)(hc:c<n+m)(h0:F r c≠0):qw (4*L+1) n m p O (mH F r c) (fun j=>if j=r then c else b j):=
 ⟨fun i hi k=>PW h hr h0 hi k,fun i hi k=>(h.o i hi k).mono (by omega),fun i hi k hk=>TX h hr c hi hk,by omega,h.hn,h.hm,h.hp,fun j hj=>by
  show(if j=r then c else b j)<n+m
  split
  ·exact hc
  ·exact h.hb j hj⟩
theorem Sf(h:qw L n m p O F b)(hL:L≤100000000){r c:Nat}(hr:r<m)(hc:c<n+m+1)(h0:F r c≠0){o0:Bool}{o1:Int}{o2 rows:List (List Qr)}{o3:List Int}(hrow:rows[r]? =some (vq (n+m+1) (mH F r c r))){i:Nat}(hi:i<m)(hne:i≠r):
  ke o0 o1 o2 o3 rows (vq (n+m+1) (F i)) c r=some (vq (n+m+1) (mH F r c i)):=by
 have hm:=h.hm
 have hn:=h.hn
 have h1:=h.l1
 have g1:(vq (n+m+1) (F i))[c]? =some (qn (F i c)):=mA hc
 have rq:=(h.f i hi c).rep h1
 have sg:=rq.sign (by omega)
 have ng:=rq.neg (by omega)
 have PE:r<rows.length:=(List.getElem?_eq_some_iff.1 hrow).1
 have va:=PJ ng.2 (nW (n:=n+m+1) (h:=mH F r c r) (fun k _=>PW h hr h0 hr k) (fun k hk=>TX h hr c hr hk) (show 1≤4*L+1 by omega)) (Xy h hi) (by omega) (by rw[bu];omega) (by rw[bu];omega)
 have e0:vq (max (vq (n+m+1) (mH F r c r)).length (vq (n+m+1) (F i)).length) (fun k=>-F i c*mH F r c r k+F i k)=vq (n+m+1) (mH F r c i):=by
  rw[bu,bu,Nat.max_self]
  refine fF (fun k _=>?_)
  unfold mH
  rw[if_pos rfl,if_neg hne];grind
 rw[e0]at va
 replace va:=va.1
 have same:F i c=0→vq (n+m+1) (F i)=vq (n+m+1) (mH F r c i):=fun q=>fF (fun k _=>by
  unfold mH
  rw[if_neg hne,q];grind)
 have sgd:(some (decide (pB (F i c) 0=0)):Option Bool)=some (decide (F i c=0)):=by
  congr 1
  by_cases q:F i c=0
  ·rw[decide_eq_true (show pB (F i c) 0=0 from jd.2 q),decide_eq_true q]
  ·rw[decide_eq_false (show ¬pB (F i c) 0=0 from fun e=>q (jd.1 e)),decide_eq_false q]
 unfold ke
 replace ng:=ng.1
 generalize qn (F i c)=q at*
 generalize qn (-F i c)=q' at*
 obtain⟨⟨_,_⟩,⟨_,_⟩⟩:=q
 obtain⟨⟨_,_⟩,⟨_,_⟩⟩:=q'
 refine bind_eq (aQ g1)<|bind_eq sg<|bind_eq sgd ?_
 by_cases q:F i c=0
 ·rw[←same q]
  exact bj (decide_eq_true q) rfl
 ·exact aP (decide_eq_false q)<|bind_eq (aQ g1)<|bind_eq ng<|bind_eq (cg PE)<|bind_eq hrow<|bind_eq va rfl
theorem PX{w r:Nat}{G:Nat→Nat→Rat}{f:Nat→Rat}(hr:r<m):(mq m (fun _=>w) G).set r (vq w f)=mq m (fun _=>w) (fun i=>if i=r then f else G i):=by
 apply List.ext_getElem?
 intro j
 rw[List.getElem?_set,eE]
 by_cases hj:j<m
 ·rw[kU hj]
  by_cases e:r=j
  ·subst e;rw[if_pos rfl,if_pos hr,kU hr,if_pos rfl]
  ·rw[if_neg e,kU hj,if_neg (fun q=>e q.symm)]
 ·rw[List.getElem?_eq_none (l:=mq m _ _) (by rw[eE];omega),List.getElem?_eq_none (l:=mq m _ _) (by rw[eE];omega)]
  by_cases e:r=j
  ·rw[if_pos e,if_neg (by omega)]
  ·rw[if_neg e]
theorem XA(h:qw L n m p O F b)(hL:L≤100000000){r c:Nat}(hr:r<m)(hc:c<n+m+1)(h0:F r c≠0){o0:Bool}{o1:Int}{o2:List (List Qr)}{o3:List Int}:
  c6 o0 o1 o2 o3 (mq m (fun _=>n+m+1) F) r c=some (o2,o3,mq m (fun _=>n+m+1) (mH F r c)):=by
 have hm:=h.hm
 have hn:=h.hn
 have h1:=h.l1
 have g1:(mq m (fun _=>n+m+1) F)[r]? =some (vq (n+m+1) (F r)):=kU hr
 have PE:r<(mq m (fun _=>n+m+1) F).length:=by rw[eE];exact hr
 have g2:(vq (n+m+1) (F r))[c]? =some (qn (F r c)):=mA hc
 have dv:=one_eq.2.div ((h.f r hr c).rep h1) (by omega) h0
 have sc:=(PK dv.2 (Xy h hr) (by omega) (by rw[bu];omega)).1
 rw[bu]at sc
 have e0:vq (n+m+1) (fun k=>1/F r c*F r k)=vq (n+m+1) (mH F r c r):=fF (fun k _=>by
  unfold mH
  rw[if_pos rfl,Rat.div_def,Rat.div_def];grind)
 rw[e0]at sc
 have st:=fL (y:=vq (n+m+1) (mH F r c r)) PE
 rw[PX hr]at st
 have e1:=one_eq.1
 replace dv:=dv.1
 have loop:∀(o:List (List Qr)→Option ((List (List Qr))×(List Int)×(List (List Qr)))),o (mq m (fun _=>n+m+1) (mH F r c))=some (o2,o3,mq m (fun _=>n+m+1) (mH F r c))→((bU (fun(xN:Int×(List (List Qr)))=>match xN with|⟨qb,gp⟩=>(show Option ((Int×(List (List Qr)))⊕((List (List Qr))))from(some (decide ((qb:Int)<(m:Int)))).bind fun Tu=>(bif Tu then(pI gp qb).bind fun xz=>(gp[xz]?).bind fun Fb=>(some (decide ((qb:Int)≠(r:Int)))).bind fun IU=>cm (fun(uM:(List (List Qr)))=>(some (IntKind.i64.wrap (qb+1))).bind fun M6=>some (.inl (M6,uM))) fun WC=>(bif IU then(ke o0 o1 o2 o3 gp Fb c r).bind fun L3=>(pI gp qb).bind fun MY=>(stM gp MY L3).bind fun ZY=>WC ZY else WC gp)else some (.inr gp)))) (0,mq m (fun _=>n+m+1) (fun i=>if i=r then mH F r c r else F i))).bind o)=some (o2,o3,mq m (fun _=>n+m+1) (mH F r c)):=fun o ho=>by
  refine aU (fun k=>((k:Int),mq m (fun _=>n+m+1) (fun i=>if i=r∨i<k then mH F r c i else F i))) m (mq m (fun _=>n+m+1) (mH F r c)) ?_ (fun k hk=>?_) ?_ ho
  ·refine Prod.ext rfl (uZ (fun i hi=>⟨rfl,fun k _=>?_⟩))
   by_cases e:i=r
   ·subst e;simp
   ·simp[e]
  ·have gk:(mq m (fun _=>n+m+1) (fun i=>if i=r∨i<k then mH F r c i else F i))[k]? =some (vq (n+m+1) (if k=r then mH F r c k else F k)):=by
    rw[kU hk]
    congr 2
    by_cases e:k=r
    ·rw[if_pos (.inl e),if_pos e]
    ·rw[if_neg (by omega),if_neg e]
   have hl:(mq m (fun _=>n+m+1) (fun i=>if i=r∨i<k then mH F r c i else F i)).length=m:=eE _ _ _
   have gr:(mq m (fun _=>n+m+1) (fun i=>if i=r∨i<k then mH F r c i else F i))[r]? =some (vq (n+m+1) (mH F r c r)):=by
    rw[kU hr,if_pos (.inl rfl)]
   by_cases e:k=r
   ·have s:mq m (fun _=>n+m+1) (fun i=>if i=r∨i<k then mH F r c i else F i)=mq m (fun _=>n+m+1) (fun i=>if i=r∨i<k+1 then mH F r c i else F i):=uZ (fun i _=>⟨rfl,fun _ _=>by
     by_cases q:i=r∨i<k
     ·rw[if_pos q,if_pos (by omega)]
     ·rw[if_neg q,if_neg (by omega)]⟩)
    show(some (decide ((k:Int)<(m:Int)))).bind _=_
    refine bind_eq (dT (by omega))<|bj rfl<|bind_eq (cg (by omega))<|bind_eq gk<|bind_eq (dF (by omega))<|bD<|aP rfl<|bind_eq (congrArg some (bt (by omega))) ?_
    rw[s]
   ·rw[if_neg e]at gk
    have rm:=Sf h hL hr hc h0 (o0:=o0) (o1:=o1) (o2:=o2) (o3:=o3) gr hk e
    have s:(mq m (fun _=>n+m+1) (fun i=>if i=r∨i<k then mH F r c i else F i)).set k (vq (n+m+1) (mH F r c k))=mq m (fun _=>n+m+1) (fun i=>if i=r∨i<k+1 then mH F r c i else F i):=by
     rw[PX hk]
     refine uZ (fun i _=>⟨rfl,fun _ _=>?_⟩)
     by_cases q:i=k
     ·subst q;rw[if_pos rfl,if_pos (.inr (by omega))]
     ·rw[if_neg q]
      by_cases q2:i=r∨i<k
      ·rw[if_pos q2,if_pos (by omega)]
      ·rw[if_neg q2,if_neg (by omega)]
    rw[←s]
    generalize mq m (fun _=>n+m+1) (fun i=>if i=r∨i<k then mH F r c i else F i)=rows at*
    show(some (decide ((k:Int)<(m:Int)))).bind _=_
    exact bind_eq (dT (by omega))<|bj rfl<|bind_eq (cg (by omega))<|bind_eq gk<|bind_eq (dT (by omega))<|bD<|bj rfl<|bind_eq rm<|bind_eq (cg (by omega))<|bind_eq (fL (by omega))<|bind_eq (congrArg some (bt (by omega))) rfl
  ·have s:mq m (fun _=>n+m+1) (fun i=>if i=r∨i<m then mH F r c i else F i)=mq m (fun _=>n+m+1) (mH F r c):=uZ (fun i hi=>⟨rfl,fun _ _=>by rw[if_pos (.inr hi)]⟩)
   show(some (decide ((m:Int)<(m:Int)))).bind _=_
   rw[s]
   exact bind_eq (dF (by omega))<|aP rfl rfl
 unfold c6
 have scM:nJ (vq (n+m+1) (F r)) (qn (1/F r c))=some (vq (n+m+1) (mH F r c r)):=by
  unfold nJ
  generalize qn (1/F r c)=q at*
  obtain⟨⟨_,_⟩,⟨_,_⟩⟩:=q
  exact bind_eq sc rfl
 generalize qn (1/F r c)=q3 at*
 generalize qn (F r c)=q2 at*
 generalize qn 1=q1 at*
 obtain⟨⟨_,_⟩,⟨_,_⟩⟩:=q1
 obtain⟨⟨_,_⟩,⟨_,_⟩⟩:=q2
 obtain⟨⟨_,_⟩,⟨_,_⟩⟩:=q3
 refine bind_eq e1<|bind_eq (cg PE)<|bind_eq g1<|bind_eq (aQ g2)<|bind_eq dv<|bind_eq (cg PE)<|bind_eq g1<|bind_eq scM<|bind_eq (cg PE)<|bind_eq st<|bind_eq (congrArg some (by rw[eE])) ?_
 refine Eq.trans (congrArg (fun G=>(bU _ ((0:Int),mq m (fun _=>n+m+1) G)).bind _) ?_) (loop _ rfl)
 funext i
 by_cases e:i=r
 ·rw[if_pos e]
 ·rw[if_neg e]
theorem JB(h:qw L n m p O F b)(hL:L≤100000000){r c:Nat}(hr:r<m)(hc:c<n+m)(hb:∀j,j<m→b j≠c)(h0:F r c≠0):
  aM true n (mq p (fun _=>n) O) (bq m b) (mq m (fun _=>n+m+1) F) r c=some (0,mq p (fun _=>n) O,bq m (fun j=>if j=r then c else b j),mq m (fun _=>n+m+1) (mH F r c)):=by
 have hm:=h.hm
 have hn:=h.hn
 have sv:=XA h hL hr (show c<n+m+1 by omega) h0 (o0:=true) (o1:=(n:Int)) (o2:=mq p (fun _=>n) O) (o3:=bq m b)
 have g1:(mq m (fun _=>n+m+1) F)[r]? =some (vq (n+m+1) (F r)):=kU hr
 have g2:(vq (n+m+1) (F r))[c]? =some (qn (F r c)):=mA (by omega)
 have sg:=((h.f r hr c).rep h.l1).sign (by omega)
 have PE:r<(mq m (fun _=>n+m+1) F).length:=by rw[eE];exact hr
 have QA:=xq m b
 have bs:=Xx (b:=b) (c:=c) hr
 have bg:∀j,j<m→(bq m b)[j]? =some ((b j:Nat):Int):=fun j hj=>xu hj
 have wd:ew (⟨true,(n:Int),mq p (fun _=>n) O,bq m b,mq m (fun _=>n+m+1) F⟩:Tb)=some ((n+m:Nat):Int):=Da hn hm
 have ms:bV (⟨true,(n:Int),mq p (fun _=>n) O,bq m b,mq m (fun _=>n+m+1) F⟩:Tb)=some false:=jU n m p O F b
 have rl:=eE m (fun _=>n+m+1) F
 unfold aM
 rw[←bs]
 generalize bq m b=B at*
 generalize mq m (fun _=>n+m+1) F=rows at*
 refine bind_eq ms<|aP rfl<|bD<|bind_eq (dF (by omega))<|bind_eq (a:=false) (aP rfl<|bind_eq rfl<|bind_eq (dF (by omega)) rfl)<|bind_eq (a:=false) (aP rfl<|bind_eq (dF (by omega)) rfl)<|bind_eq (a:=false) (aP rfl<|bind_eq wd<|bind_eq (dF (by omega)) rfl)<|aP rfl<|bind_eq rfl ?_
 refine aU (fun k=>(k:Int)) m (.inl ()) rfl (fun k hk=>?_) ?_ ?_
 ·exact bind_eq (dT (by omega))<|bj rfl<|bind_eq (cg (by omega))<|bind_eq (bg k hk)<|bind_eq (dF (by have:=hb k hk;omega))<|aP rfl<|bind_eq (congrArg some (bt (by omega))) rfl
 ·exact bind_eq (dF (by omega))<|aP rfl rfl
 ·generalize qn (F r c)=q at*
  obtain⟨⟨_,_⟩,⟨_,_⟩⟩:=q
  exact bind_eq (cg PE)<|bind_eq g1<|bind_eq (aQ g2)<|bind_eq sg<|bind_eq (dF (fun e=>h0 (jd.1 e)))<|aP rfl<|bind_eq sv<|bind_eq (cg (by omega))<|bind_eq (fL (by omega)) rfl
end tab
def nX(n m:Nat)(R:Nat→Nat→Rat)(g:Nat→Rat)(i k:Nat):Rat:=if k<n then R i k else if k=n+i then 1 else if k=n+m then g i else 0
theorem Bf(k w:Nat)(G:Nat→Nat→Rat):mq (k+1) (fun _=>w) G=mq k (fun _=>w) G++[vq w (G k)]:=by simp[mq,List.range_succ]
section new
variable {L M K n:Nat}{ob rw:List (List Qr)}{bd:List Qr}{O R:Nat→Nat→Rat}{g:Nat→Rat}
theorem PY{m i:Nat}(hi:i<m):(fun j=>if j=n+m then g i else if j=n+i then(1:Rat)else if j<n then R i j else 0)=nX n m R g i:=by
 funext j
 unfold nX
 by_cases h1:j<n
 ·rw[if_neg (by omega),if_neg (by omega),if_pos h1,if_pos h1]
 ·rw[if_neg h1,if_neg h1]
  by_cases h2:j=n+i
  ·rw[if_neg (by omega),if_pos h2,if_pos h2]
  ·rw[if_neg h2,if_neg h2]
theorem agp(ho:ru M ob O)(hr:ru L rw R)(hb:cW K bd g)(hM:M≤4000000000)(hL:L≤4000000000)(hK:K≤4000000000)(hv:Is n ob rw bd):
  dQ ⟨(n:Int),ob,rw,bd⟩=some (true,(n:Int),mq ob.length (fun _=>n) O,bq rw.length (fun j=>n+j),mq rw.length (fun _=>n+rw.length+1) (nX n rw.length R g)):=by
 obtain⟨v1,v2,v3,v4,v5,v6,v7,v8⟩:=hv
 have n64:n≤64:=by omega
 have agq:∀v∈ob,v.length≤n:=nM.1 (by omega)
 unfold dQ
 refine bind_eq rfl ?_
 refine aU (fun k=>((k:Int),mq k (fun _=>n) O)) ob.length (mq ob.length (fun _=>n) O) rfl (fun k hk=>?_) ?_ ?_
 ·have g1:=dZ (d:=[]) hk
  have rs:=Bd (ho.row k) (by omega) (by have:=agq _ (List.mem_of_getElem? g1);omega) (n:Int)
  rw[show(min (n:Int) 65536).toNat=n by omega]at rs
  refine bind_eq (dT (by omega))<|bj rfl<|bind_eq (aQ g1)<|bind_eq rs<|bind_eq (AI (by decide) (by rw[eE];omega))<|bind_eq (congrArg some (bt (by omega))) ?_
  rw[Bf]
 ·exact bind_eq (dF (by omega))<|aP rfl rfl
 refine bind_eq rfl ?_
 refine aU (fun k=>((k:Int),bq k (fun j=>n+j),mq k (fun _=>n+rw.length+1) (nX n rw.length R g))) rw.length (bq rw.length (fun j=>n+j),mq rw.length (fun _=>n+rw.length+1) (nX n rw.length R g)) rfl (fun i hi=>?_) (bind_eq (dF (by omega))<|aP rfl rfl) rfl
 obtain⟨q,hq,rq⟩:=hb.get (i:=i) (by omega)
 have cn:=(rq.canon (by omega)).1
 have e1:=one_eq.1
 have wl:IntKind.i64.wrap ((n:Int)+(rw.length:Int))=((n+rw.length:Nat):Int):=by rw[cq (by omega) (by omega)];omega
 have wl2:IntKind.i64.wrap (((n+rw.length:Nat):Int)+1)=((n+rw.length+1:Nat):Int):=bt (by omega)
 have wi:IntKind.i64.wrap ((n:Int)+(i:Int))=((n+i:Nat):Int):=by rw[cq (by omega) (by omega)];omega
 refine bind_eq (dT (by omega))<|bj rfl<|bind_eq rfl<|bind_eq (congrArg some wl)<|bind_eq (congrArg some wl2)<|bind_eq (Iq (n+rw.length+1) (by omega)) ?_
 rw[yG]
 refine aU (fun k=>((k:Int),vq (n+rw.length+1) (fun j=>if j<k then R i j else 0))) n (vq (n+rw.length+1) (fun j=>if j<n then R i j else 0)) (by simp) (fun k hk=>?_) (bind_eq (dF (by omega))<|aP rfl rfl) ?_
 ·have at_:=Xv hr (by omega) i k
  have s:=rA (k:=n+rw.length+1) (j:=k) (h:=fun j=>if j<k then R i j else 0) (x:=R i k) (by omega)
  have s2:vq (n+rw.length+1) (fun j=>if j=k then R i k else if j<k then R i j else 0)=vq (n+rw.length+1) (fun j=>if j<k+1 then R i j else 0):=fF (fun j _=>by
   by_cases e:j=k
   ·subst e;simp
   ·rw[if_neg e]
    by_cases e2:j<k
    ·rw[if_pos e2,if_pos (by omega)]
    ·rw[if_neg e2,if_neg (by omega)])
  rw[s2]at s
  have hl:=bu (n+rw.length+1) (fun j=>if j<k then R i j else 0)
  rw[←s]
  generalize vq (n+rw.length+1) (fun j=>if j<k then R i j else 0)=l at*
  clear s s2
  generalize qn (R i k)=q at*
  obtain⟨⟨_,_⟩,⟨_,_⟩⟩:=q
  exact bind_eq (dT (by omega))<|bj rfl<|bind_eq at_<|bind_eq (cg (by omega))<|bind_eq (fL (by omega))<|bind_eq (congrArg some (bt (by omega))) rfl
 ·have s1:=rA (k:=n+rw.length+1) (j:=n+i) (h:=fun j=>if j<n then R i j else 0) (x:=1) (by omega)
  have s2:=rA (k:=n+rw.length+1) (j:=n+rw.length) (h:=fun j=>if j=n+i then 1 else if j<n then R i j else 0) (x:=g i) (by omega)
  rw[PY hi]at s2
  have Ua:=bu (n+rw.length+1) (fun j=>if j<n then R i j else 0)
  have hl2:=bu (n+rw.length+1) (fun j=>if j=n+i then 1 else if j<n then R i j else 0)
  have b1:=xq i (fun j=>n+j)
  have b2:=Sc i (fun j=>n+j)
  have m1:=eE i (fun _=>n+rw.length+1) (nX n rw.length R g)
  have m2:=Bf i (n+rw.length+1) (nX n rw.length R g)
  have st1:=fL (y:=qn 1) (show n+i<(vq (n+rw.length+1) (fun j=>if j<n then R i j else 0)).length by omega)
  have st2:=fL (y:=qn (g i)) (show n+rw.length<(vq (n+rw.length+1) (fun j=>if j=n+i then 1 else if j<n then R i j else 0)).length by omega)
  rw[s1]at st1
  rw[s2]at st2
  generalize vq (n+rw.length+1) (fun j=>if j<n then R i j else 0)=l1 at*
  generalize vq (n+rw.length+1) (fun j=>if j=n+i then 1 else if j<n then R i j else 0)=l2 at*
  generalize vq (n+rw.length+1) (nX n rw.length R g i)=l3 at*
  generalize qn (g i)=q' at*
  generalize qn 1=q1 at*
  obtain⟨⟨_,_⟩,⟨_,_⟩⟩:=q
  obtain⟨⟨_,_⟩,⟨_,_⟩⟩:=q'
  obtain⟨⟨_,_⟩,⟨_,_⟩⟩:=q1
  refine bind_eq (congrArg some wi)<|bind_eq e1<|bind_eq (cg (by omega))<|bind_eq st1<|bind_eq rfl<|bind_eq (congrArg some (show IntKind.i64.wrap ((l2.length:Int)-1)=((n+rw.length:Nat):Int) by rw[hl2,cq (by omega) (by omega)];omega))<|bind_eq (aQ hq)<|bind_eq cn<|bind_eq (cg (by omega))<|bind_eq st2<|bind_eq (AI (by decide) (by omega))<|bind_eq (congrArg some wi)<|bind_eq (AI (by decide) (by omega))<|bind_eq (congrArg some (bt (by omega))) ?_
  rw[b2,m2]
theorem KK(ho:ru L ob O)(hr:ru L rw R)(hb:cW L bd g)(hL:2≤L)(hv:Is n ob rw bd):qw L n rw.length ob.length O (nX n rw.length R g) (fun j=>n+j):=by
 obtain⟨v1,v2,v3,v4,v5,v6,v7,v8⟩:=hv
 refine⟨fun i hi k=>?_,fun i hi k=>(ho.row i).fq k,fun i hi k hk=>?_,by omega,by omega,by omega,by omega,fun j hj=>by show n+j<_;omega⟩
 ·unfold nX
  split
  ·exact(hr.row i).fq k
  ·split
   ·exact one_eq.2.fq.mono hL
   ·split
    ·exact hb.fq i
    ·exact vE (by omega)
 ·unfold nX
  rw[if_neg (by omega),if_neg (by omega),if_neg (by omega)]
theorem aa4(ho:ru M ob O)(hr:ru L rw R)(hb:cW K bd g)(hM:M≤4000000000)(hL:L≤4000000000)(hK:K≤4000000000)(hv:Is n ob rw bd):
  gX ⟨(n:Int),ob,rw,bd⟩=some (true,(n:Int),mq ob.length (fun _=>n) O,bq rw.length (fun j=>n+j),mq rw.length (fun _=>n+rw.length+1) (nX n rw.length R g)):=by
 have v:=It (n:=(n:Int)) (ob:=ob) (rw:=rw) (bd:=bd) (by obtain⟨_,_,_,h,_⟩:=hv;omega) (by obtain⟨_,_,_,_,h,_⟩:=hv;omega)
 rw[decide_eq_true hv]at v
 unfold gX
 exact bind_eq v<|bind_eq rfl<|aP rfl<|bind_eq (agp ho hr hb hM hL hK hv) rfl
end new
end Go.Proofs.YtningmnklfpfjaaGreat
namespace Go.Proofs.YtningmnklfpfjaaGreat
open Go.Fw
theorem xw(h:Nat→Rat)(n:Nat):∀m,bf h (n+m)=bf h n+bf (fun j=>h (n+j)) m
 |0=>by show bf h n=bf h n+0;grind
 |m+1=>by
  show bf h (n+m)+h (n+m)=bf h n+(bf (fun j=>h (n+j)) m+h (n+m))
  rw[xw h n m];grind
theorem zM(h:Nat→Nat→Rat)(m:Nat):∀n,bf (fun i=>bf (fun j=>h i j) m) n=bf (fun j=>bf (fun i=>h i j) n) m
 |0=>by
  show(0:Rat)=bf (fun j=>(0:Rat)) m
  rw[kn]
 |n+1=>by
  show bf (fun i=>bf (fun j=>h i j) m) n+bf (fun j=>h n j) m=bf (fun j=>bf (fun i=>h i j) n+h n j) m
  rw[zM h m n,C7]
def zN(n m:Nat)(F:Nat→Nat→Rat)(z:Nat→Rat):Prop:=∀i,i<m→bf (fun k=>F i k*z k) (n+m)=F i (n+m)
def Uc(m:Nat)(F:Nat→Nat→Rat)(b:Nat→Nat):Prop:=∀i j,i<m→j<m→F i (b j)=if i=j then 1 else 0
section mH
variable {n m r c:Nat}{F:Nat→Nat→Rat}{b:Nat→Nat}{z:Nat→Rat}
theorem EM(N:Nat):bf (fun k=>mH F r c r k*z k) N=(F r c)⁻¹*bf (fun k=>F r k*z k) N:=by
 rw[←pC]
 refine cD (fun k _=>?_)
 unfold mH
 rw[if_pos rfl,Rat.div_def];grind
theorem EN{i:Nat}(hne:i≠r)(N:Nat):bf (fun k=>mH F r c i k*z k) N=bf (fun k=>F i k*z k) N-F i c*((F r c)⁻¹*bf (fun k=>F r k*z k) N):=by
 rw[←pC,←pC,←yC]
 refine cD (fun k _=>?_)
 unfold mH
 rw[if_neg hne,Rat.div_def];grind
theorem KL(hr:r<m)(h0:F r c≠0):zN n m (mH F r c) z↔zN n m F z:=by
 have hi:F r c*(F r c)⁻¹=1:=Rat.mul_inv_cancel _ h0
 have pr:mH F r c r (n+m)=(F r c)⁻¹*F r (n+m):=by unfold mH;rw[if_pos rfl,Rat.div_def];grind
 have pi:∀i,i≠r→mH F r c i (n+m)=F i (n+m)-F i c*((F r c)⁻¹*F r (n+m)):=fun i h=>by unfold mH;rw[if_neg h,Rat.div_def];grind
 constructor
 ·intro h
  have e:=h r hr
  rw[EM,pr]at e
  have er:bf (fun k=>F r k*z k) (n+m)=F r (n+m):=by
   have:=congrArg (fun x=>F r c*x) e
   simp only[←Rat.mul_assoc,hi,Rat.one_mul]at this
   exact this
  intro i hi'
  by_cases q:i=r
  ·subst q;exact er
  ·have e2:=h i hi'
   rw[EN q,pi i q,er]at e2
   grind
 ·intro h i hi'
  by_cases q:i=r
  ·subst q;rw[EM,pr,h _ hi']
  ·rw[EN q,pi i q,h i hi',h r hr]
theorem Iw(hr:r<m)(h0:F r c≠0)(hu:Uc m F b):Uc m (mH F r c) (fun j=>if j=r then c else b j):=by
 have hi:F r c*(F r c)⁻¹=1:=Rat.mul_inv_cancel _ h0
 intro i j hi' hj
 show mH F r c i (if j=r then c else b j)=_
 by_cases e:j=r
 ·subst e
  rw[if_pos rfl]
  unfold mH
  by_cases q:i=j
  ·subst q;rw[if_pos rfl,if_pos rfl,Rat.div_def];exact hi
  ·rw[if_neg q,if_neg q,Rat.div_def,hi];grind
 ·rw[if_neg e]
  have z0:F r (b j)=0:=by rw[hu r j hr hj,if_neg (fun q=>e q.symm)]
  unfold mH
  rw[z0]
  by_cases q:i=r
  ·subst q;rw[if_pos rfl,if_neg (fun q=>e q.symm),Rat.div_def];grind
  ·rw[if_neg q,hu i j hi' hj,Rat.div_def];grind
theorem XB(hu:Uc m F b){i j:Nat}(hi:i<m)(hj:j<m)(e:b i=b j):i=j:=by
 by_cases q:i=j
 ·exact q
 ·have h1:=hu i i hi hi
  have h2:=hu i j hi hj
  rw[if_pos rfl]at h1
  rw[if_neg q,←e,h1]at h2
  exact absurd h2 (by decide)
end mH
theorem qw.mono{L M n m p:Nat}{O F:Nat→Nat→Rat}{b:Nat→Nat}(h:qw L n m p O F b)(hl:L≤M):qw M n m p O F b:=
 ⟨fun i hi k=>(h.f i hi k).mono hl,fun i hi k=>(h.o i hi k).mono hl,h.z,Nat.le_trans h.l1 hl,h.hn,h.hm,h.hp,h.hb⟩
theorem JC{L n m p:Nat}{O F:Nat→Nat→Rat}{b:Nat→Nat}(h:qw L n m p O F b)(hL:L≤100000000)(hu:Uc m F b)(r c:Int):∃e F' b',
  aM true n (mq p (fun _=>n) O) (bq m b) (mq m (fun _=>n+m+1) F) r c=some (e,mq p (fun _=>n) O,bq m b',mq m (fun _=>n+m+1) F')∧qw (4*L+1) n m p O F' b'∧Uc m F' b'∧∀z,zN n m F' z↔zN n m F z:=by
 have hm:=h.hm
 have hn:=h.hn
 have same:∀e,aM true n (mq p (fun _=>n) O) (bq m b) (mq m (fun _=>n+m+1) F) r c=some (e,mq p (fun _=>n) O,bq m b,mq m (fun _=>n+m+1) F)→∃e F' b',aM true n (mq p (fun _=>n) O) (bq m b) (mq m (fun _=>n+m+1) F) r c=some (e,mq p (fun _=>n) O,bq m b',mq m (fun _=>n+m+1) F')∧qw (4*L+1) n m p O F' b'∧Uc m F' b'∧∀z,zN n m F' z↔zN n m F z:=
  fun e he=>⟨e,F,b,he,h.mono (by omega),hu,fun _=>Iff.rfl⟩
 have wd:ew (⟨true,(n:Int),mq p (fun _=>n) O,bq m b,mq m (fun _=>n+m+1) F⟩:Tb)=some ((n+m:Nat):Int):=Da hn hm
 have ms:bV (⟨true,(n:Int),mq p (fun _=>n) O,bq m b,mq m (fun _=>n+m+1) F⟩:Tb)=some false:=jU n m p O F b
 have rl:=eE m (fun _=>n+m+1) F
 by_cases h1:r<0
 ·refine same 1 ?_
  unfold aM
  exact bind_eq ms<|aP rfl<|bD<|bind_eq (dT h1)<|bind_eq (a:=true) (bj rfl rfl)<|bind_eq (a:=true) (bj rfl rfl)<|bind_eq (a:=true) (bj rfl rfl)<|bj rfl rfl
 by_cases h2:(m:Int)≤r
 ·refine same 1 ?_
  unfold aM
  exact bind_eq ms<|aP rfl<|bD<|bind_eq (dF h1)<|bind_eq (a:=true) (aP rfl<|bind_eq rfl<|bind_eq (dT (by omega)) rfl)<|bind_eq (a:=true) (bj rfl rfl)<|bind_eq (a:=true) (bj rfl rfl)<|bj rfl rfl
 by_cases h3:c<0
 ·refine same 1 ?_
  unfold aM
  exact bind_eq ms<|aP rfl<|bD<|bind_eq (dF h1)<|bind_eq (a:=false) (aP rfl<|bind_eq rfl<|bind_eq (dF (by omega)) rfl)<|bind_eq (a:=true) (aP rfl<|bind_eq (dT h3) rfl)<|bind_eq (a:=true) (bj rfl rfl)<|bj rfl rfl
 by_cases h4:((n+m:Nat):Int)≤c
 ·refine same 1 ?_
  unfold aM
  exact bind_eq ms<|aP rfl<|bD<|bind_eq (dF h1)<|bind_eq (a:=false) (aP rfl<|bind_eq rfl<|bind_eq (dF (by omega)) rfl)<|bind_eq (a:=false) (aP rfl<|bind_eq (dF h3) rfl)<|bind_eq (a:=true) (aP rfl<|bind_eq wd<|bind_eq (dT h4) rfl)<|bj rfl rfl
 obtain⟨r,rfl⟩:∃k:Nat,r=(k:Int):=⟨r.toNat,by omega⟩
 obtain⟨c,rfl⟩:∃k:Nat,c=(k:Int):=⟨c.toNat,by omega⟩
 have hr:r<m:=by omega
 have hc:c<n+m:=by omega
 have g1:(mq m (fun _=>n+m+1) F)[r]? =some (vq (n+m+1) (F r)):=kU hr
 have g2:(vq (n+m+1) (F r))[c]? =some (qn (F r c)):=mA (by omega)
 have sg:=((h.f r hr c).rep h.l1).sign (by omega)
 have PE:r<(mq m (fun _=>n+m+1) F).length:=by rw[eE];exact hr
 have QA:=xq m b
 have bg:∀j,j<m→(bq m b)[j]? =some ((b j:Nat):Int):=fun j hj=>xu hj
 by_cases h5:∀j,j<m→b j≠c
 ·by_cases h6:F r c=0
  ·refine same 7 ?_
   unfold aM
   generalize bq m b=B at*
   generalize mq m (fun _=>n+m+1) F=rows at*
   refine bind_eq ms<|aP rfl<|bD<|bind_eq (dF (by omega))<|bind_eq (a:=false) (aP rfl<|bind_eq rfl<|bind_eq (dF (by omega)) rfl)<|bind_eq (a:=false) (aP rfl<|bind_eq (dF (by omega)) rfl)<|bind_eq (a:=false) (aP rfl<|bind_eq wd<|bind_eq (dF (by omega)) rfl)<|aP rfl<|bind_eq rfl ?_
   refine aU (fun k=>(k:Int)) m (.inl ()) rfl (fun k hk=>?_) ?_ ?_
   ·exact bind_eq (dT (by omega))<|bj rfl<|bind_eq (cg (by omega))<|bind_eq (bg k hk)<|bind_eq (dF (by have:=h5 k hk;omega))<|aP rfl<|bind_eq (congrArg some (bt (by omega))) rfl
   ·exact bind_eq (dF (by omega))<|aP rfl rfl
   ·generalize qn (F r c)=q at*
    obtain⟨⟨_,_⟩,⟨_,_⟩⟩:=q
    exact bind_eq (cg PE)<|bind_eq g1<|bind_eq (aQ g2)<|bind_eq sg<|bind_eq (dT (jd.2 h6))<|bj rfl rfl
  ·exact⟨0,_,_,JB h hL hr hc h5 h6,Gg h hr hc h6,Iw hr h6 hu,fun z=>KL hr h6⟩
 ·refine same 1 ?_
  unfold aM
  generalize bq m b=B at*
  generalize mq m (fun _=>n+m+1) F=rows at*
  refine bind_eq ms<|aP rfl<|bD<|bind_eq (dF (by omega))<|bind_eq (a:=false) (aP rfl<|bind_eq rfl<|bind_eq (dF (by omega)) rfl)<|bind_eq (a:=false) (aP rfl<|bind_eq (dF (by omega)) rfl)<|bind_eq (a:=false) (aP rfl<|bind_eq wd<|bind_eq (dF (by omega)) rfl)<|aP rfl<|bind_eq rfl ?_
  refine bind_eq (zL (n:=m) (p:=fun j=>b j≠c) (e:=(1,mq p (fun _=>n) O,B,rows)) (fun k hk=>?_) (bind_eq (dF (by omega))<|aP rfl rfl)) ?_
  ·refine bind_eq (dT (by omega))<|bj rfl<|bind_eq (cg (by omega))<|bind_eq (bg k hk)<|bind_eq rfl ?_
   by_cases q:b k=c
   ·rw[if_neg (fun e=>e q)];exact bj (decide_eq_true (show((b k:Nat):Int)=(c:Int) by omega)) rfl
   ·rw[if_pos q];exact aP (decide_eq_false (show ¬((b k:Nat):Int)=(c:Int) by omega))<|bind_eq (congrArg some (bt (by omega))) rfl
  ·rw[if_neg h5]
end Go.Proofs.YtningmnklfpfjaaGreat
namespace Go.Proofs.YtningmnklfpfjaaGreat
open Go.Fw
theorem PZ(k:List Int):Gl (List.replicate k.length 0) k=k:=by unfold Gl;simp
theorem XC{n m p:Nat}{O F:Nat→Nat→Rat}{b:Nat→Nat}(hm:m≤128):jS (Ge n m p O F b)=some (bq m b):=by
 unfold jS
 refine bind_eq (jU n m p O F b)<|aP rfl<|bind_eq rfl<|bind_eq (sI (n:=(bq m b).length) (by decide) (by rw[xq];omega)) ?_
 show some (Gl (List.replicate (bq m b).length 0) (bq m b))=_
 rw[PZ]
theorem LS(l:List Int)(h:l.length≤1000000):l9 l l=some true:=by
 unfold l9
 refine bind_eq rfl<|bind_eq rfl<|bind_eq (dF (by simp))<|aP rfl ?_
 refine aU (fun k=>(k:Int)) l.length (.inl ()) rfl (fun k hk=>?_) (bind_eq rfl<|bind_eq (dF (by omega))<|aP rfl rfl) rfl
 have g:=List.getElem?_eq_getElem hk
 exact bind_eq rfl<|bind_eq (dT (by omega))<|bj rfl<|bind_eq (aQ g)<|bind_eq (aQ g)<|bind_eq (dF (by simp))<|aP rfl<|bind_eq (congrArg some (bt (by omega))) rfl
def Sg(i j:Nat):Rat:=(((([[3,5]]:List (List Int)).getD i []).getD j 0:Int):Rat)
def exR(i j:Nat):Rat:=(((([[1,0],[0,2],[3,2]]:List (List Int)).getD i []).getD j 0:Int):Rat)
def exG(i:Nat):Rat:=((([4,12,18]:List Int).getD i 0:Int):Rat)
def LU:Nat→Nat→Rat:=nX 2 3 exR exG
def P0:Nat→Nat→Rat:=mH LU 1 1
def XD:Nat→Nat→Rat:=mH P0 2 0
def P1(j:Nat):Nat:=2+j
def Sh(j:Nat):Nat:=if j=1 then 1 else P1 j
def XE(j:Nat):Nat:=if j=2 then 0 else Sh j
theorem vh{L n:Nat}{f:Nat→Rat}{v:List Qr}{k:Nat→Rat}(h:∀i,i<n→FQ L (f i))(h1:1≤L)(hL:L≤1000000000)(hv:cW 2 v k)(hn:v.length=n)(e:∀i,i<n→f i=k i):cU (vq n f) v=some true:=by
 have:=veq (yF h h1) hv (by omega)
 rw[this,bu,hn,Nat.max_self,decide_eq_true (fun i hi=>by rw[vF hi];exact e i hi)]
theorem Gk{L n:Nat}{f:Nat→Rat}{v:List Qr}{k:Nat→Rat}(h:∀i,i<n→FQ L (f i))(h1:1≤L)(hL:L≤1000000000)(hv:cW 2 v k)(hn:v.length=n):cU (vq n f) v=some (decide (∀i,i<n→f i=k i)):=by
 have:=veq (yF h h1) hv (by omega)
 rw[this,bu,hn,Nat.max_self]
 congr 1
 exact decide_eq_decide.2 ⟨fun q i hi=>by have:=q i hi;rw[vF hi]at this;exact this,fun q i hi=>by rw[vF hi];exact q i hi⟩
set_option maxRecDepth 100000 in
theorem XF:dW=some true:=by
 obtain⟨eo,ro⟩:=TW (l:=[[3,5]]) (by decide) (by decide)
 obtain⟨er,rr⟩:=TW (l:=[[1,0],[0,2],[3,2]]) (by decide) (by decide)
 obtain⟨eb,rb⟩:=yD (l:=[4,12,18]) (by decide) (by decide)
 obtain⟨i1,q1⟩:=yD (l:=[-3,1,0]) (by decide) (by decide)
 obtain⟨i2,q2⟩:=yD (l:=[4,6,6]) (by decide) (by decide)
 obtain⟨i3,q3⟩:=yD (l:=[30,0,-6]) (by decide) (by decide)
 obtain⟨i4,q4⟩:=yD (l:=[2,6,2]) (by decide) (by decide)
 obtain⟨i5,q5⟩:=yD (l:=[2,6]) (by decide) (by decide)
 obtain⟨i6,q6⟩:=yD (l:=[36,-2,-6]) (by decide) (by decide)
 have l0:(vq [(4:Int),12,18].length (fun i=>(([(4:Int),12,18].getD i 0:Int):Rat))).length=3:=bu _ _
 have l1:(vq [(-3:Int),1,0].length (fun i=>(([(-3:Int),1,0].getD i 0:Int):Rat))).length=3:=bu _ _
 have l2:(vq [(4:Int),6,6].length (fun i=>(([(4:Int),6,6].getD i 0:Int):Rat))).length=3:=bu _ _
 have l3:(vq [(30:Int),0,-6].length (fun i=>(([(30:Int),0,-6].getD i 0:Int):Rat))).length=3:=bu _ _
 have l4:(vq [(2:Int),6,2].length (fun i=>(([(2:Int),6,2].getD i 0:Int):Rat))).length=3:=bu _ _
 have l5:(vq [(2:Int),6].length (fun i=>(([(2:Int),6].getD i 0:Int):Rat))).length=2:=bu _ _
 have l6:(vq [(36:Int),-2,-6].length (fun i=>(([(36:Int),-2,-6].getD i 0:Int):Rat))).length=3:=bu _ _
 generalize hmo:mq [[(3:Int),5]].length _ _=mo at eo ro
 generalize hmr:mq [[(1:Int),0],[0,2],[3,2]].length _ _=mr at er rr
 generalize vq [(4:Int),12,18].length _=vb at eb rb l0
 generalize vq [(-3:Int),1,0].length _=v1 at i1 q1 l1
 generalize vq [(4:Int),6,6].length _=v2 at i2 q2 l2
 generalize vq [(30:Int),0,-6].length _=v3 at i3 q3 l3
 generalize vq [(2:Int),6,2].length _=v4 at i4 q4 l4
 generalize vq [(2:Int),6].length _=v5 at i5 q5 l5
 generalize vq [(36:Int),-2,-6].length _=v6 at i6 q6 l6
 have lo:mo.length=1:=by rw[←hmo,eE];rfl
 have lr:mr.length=3:=by rw[←hmr,eE];rfl
 have wo:∀v∈mo,v.length≤2:=by rw[←hmo];decide+kernel
 have wr:∀v∈mr,v.length≤2:=by rw[←hmr];decide+kernel
 have co:pG mo≤2:=nM.2 wo
 have cr:pG mr≤2:=nM.2 wr
 have hv:Is ((2:Nat):Int) mo mr vb:=⟨by decide,by decide,by omega,by omega,by omega,by omega,by omega,by omega⟩
 have eN:=aa4 (n:=2) ro rr rb (by decide) (by decide) (by decide) hv
 have k0:=KK (n:=2) ro rr rb (by decide) hv
 rw[lo,lr]at eN k0
 have k0:qw 2 2 3 1 Sg LU P1:=k0
 have eN:gX ⟨2,mo,mr,vb⟩=some (true,2,mq 1 (fun _=>2) Sg,bq 3 P1,mq 3 (fun _=>6) LU):=eN
 have p1:LU 1 1≠0:=by decide+kernel
 have p2:P0 2 0≠0:=by decide+kernel
 have k1:qw 9 2 3 1 Sg P0 Sh:=Gg k0 (r:=1) (c:=1) (by decide) (by decide) p1
 have k2:qw 37 2 3 1 Sg XD XE:=Gg k1 (r:=2) (c:=0) (by decide) (by decide) p2
 have t1:aM true 2 (mq 1 (fun _=>2) Sg) (bq 3 P1) (mq 3 (fun _=>6) LU) 1 1=some (0,mq 1 (fun _=>2) Sg,bq 3 Sh,mq 3 (fun _=>6) P0):=JB k0 (by decide) (r:=1) (c:=1) (by decide) (by decide) (by decide+kernel) p1
 have t2:aM true 2 (mq 1 (fun _=>2) Sg) (bq 3 Sh) (mq 3 (fun _=>6) P0) 2 0=some (0,mq 1 (fun _=>2) Sg,bq 3 XE,mq 3 (fun _=>6) XD):=JB k1 (by decide) (r:=2) (c:=0) (by decide) (by decide) (by decide+kernel) p2
 have a0:jS (Ge 2 3 1 Sg LU P1)=some [2,3,4]:=XC (by decide)
 have a0':=LS [2,3,4] (by decide)
 have a1:=JA k0 (by decide)
 have b1:=vh (fun i hi=>k0.f i hi 5) (by decide) (by decide) rb l0 (by decide+kernel)
 have a2:=(Iu k0 (by decide) (c:=0) (by decide)).1
 have b2:=vh (fun i (_:i<3)=>(Iu k0 (by decide) (c:=0) (by decide)).2.fq i) (by decide) (by decide) q1 l1 (by decide+kernel)
 have a3:=JA k1 (by decide)
 have b3:=vh (fun i hi=>k1.f i hi 5) (by decide) (by decide) q2 l2 (by decide+kernel)
 have a4:=Gf k1 (by decide)
 have b4:=vh (fun i (_:i<3)=>Be k1 (fun j hj=>k1.f j hj 5) 3 (Nat.le_refl _) i) (by decide) (by decide) q3 l3 (by decide+kernel)
 have a5:=Iv k1 (by decide)
 rw[decide_eq_false (by decide+kernel)]at a5
 have a6:=JA k2 (by decide)
 have b6:=vh (fun i hi=>k2.f i hi 5) (by decide) (by decide) q4 l4 (by decide+kernel)
 have a7:=LQ k2 (by decide)
 have s7:∀i,i<2→FQ 37 (AL 2 3 XD XE 3 i):=fun i hi=>by
  match i,hi with
  |0,_=>exact k2.f 2 (by decide) 5
  |1,_=>exact k2.f 1 (by decide) 5
 have b7:=vh s7 (by decide) (by decide) q5 l5 (by decide+kernel)
 have a8:=Gf k2 (by decide)
 have b8:=vh (fun i (_:i<3)=>Be k2 (fun j hj=>k2.f j hj 5) 3 (Nat.le_refl _) i) (by decide) (by decide) q6 l6 (by decide+kernel)
 have a9:=Iv k2 (by decide)
 rw[decide_eq_true (by decide+kernel)]at a9
 have a10:=LR k2 (by decide)
 rw[decide_eq_true (by decide+kernel)]at a10
 unfold dW nh
 refine bind_eq (bind_eq eo<|bind_eq er<|bind_eq eb rfl)<|bind_eq eN<|bD ?_
 refine bind_eq (a:=false) (aP rfl rfl)<|bind_eq (a:=false) (aP rfl<|bind_eq a0<|bind_eq a0'<|bind_eq rfl rfl)<|bind_eq (a:=false) (aP rfl<|bind_eq a1<|bind_eq eb<|bind_eq b1<|bind_eq rfl rfl)<|bind_eq (a:=false) (aP rfl<|bind_eq a2<|bind_eq i1<|bind_eq b2<|bind_eq rfl rfl)<|aP rfl<|bind_eq t1<|bD ?_
 refine bind_eq (dF (by decide))<|bind_eq (a:=false) (aP rfl<|bind_eq a3<|bind_eq i2<|bind_eq b3<|bind_eq rfl rfl)<|bind_eq (a:=false) (aP rfl<|bind_eq a4<|bind_eq i3<|bind_eq b4<|bind_eq rfl rfl)<|bind_eq (a:=false) (aP rfl<|bind_eq a5 rfl)<|aP rfl<|bind_eq t2<|bD ?_
 exact bind_eq (dT rfl)<|PO (bind_eq a6<|bind_eq i4<|bind_eq b6 rfl)<|PO (bind_eq a7<|bind_eq i5<|bind_eq b7 rfl)<|PO (bind_eq a8<|bind_eq i6<|bind_eq b8 rfl)<|PO (bind_eq a9 rfl)<|PO (bind_eq a10 rfl) rfl
end Go.Proofs.YtningmnklfpfjaaGreat
namespace Go.Proofs.YtningmnklfpfjaaGreat
open Go.Fw
theorem P2{l:List (List Qr)}{i:Nat}{P:List Qr→Prop}(hi:i<l.length)(ht:∀v∈l.take i,P v)(hp:P l[i]):∀v∈l.take (i+1),P v:=by
 rw[List.take_add_one,List.getElem?_eq_getElem hi]
 intro u hu
 rcases List.mem_append.1 hu with h|h
 ·exact ht u h
 ·simp at h;rw[h];exact hp
abbrev Sml(v:List Qr):Prop:=v.length≤20∧∀q∈v,q.num.w.length≤6∧q.den.w.length≤6
abbrev Sm8(v:List Qr):Prop:=v.length≤8∧∀q∈v,q.num.w.length≤6∧q.den.w.length≤6
theorem Dc(l:List (List Qr))(hl:l.length≤9223372036854775807):∃b,gN l=some b∧(b=false→∀v∈l,Sml v):=by
 unfold gN
 refine oz (fun y=>∃i:Nat,y=(i:Int)∧i≤l.length∧∀v∈l.take i,Sml v) (fun e=>(∃c,e=.inl c∧∀v∈l,Sml v)∨e=.inr true) (fun y=>l.length-y.toNat) ?_ ⟨0,rfl,by omega,by simp⟩ ?_
 ·rintro _ ⟨i,rfl,hi,ht⟩
  by_cases hlt:i<l.length
  ·have g:=List.getElem?_eq_getElem hlt
   by_cases h1:20<l[i].length
   ·exact .inr ⟨.inr true,bind_eq rfl<|bind_eq (dT (by omega))<|bj rfl<|bD<|bind_eq (aQ g)<|bind_eq rfl<|bind_eq (dT (by omega))<|bind_eq (a:=true) (bj rfl rfl) rfl,.inr rfl⟩
   ·obtain⟨b,hb,hs⟩:=PM l[i] (by omega)
    cases b
    ·refine .inl ⟨((i+1:Nat):Int),?_,⟨i+1,rfl,hlt,P2 hlt ht ⟨by omega,hs rfl⟩⟩,by simp only[Int.toNat_natCast];omega⟩
     exact bind_eq rfl<|bind_eq (dT (by omega))<|bj rfl<|bD<|bind_eq (aQ g)<|bind_eq rfl<|bind_eq (dF (by omega))<|bind_eq (a:=false) (aP rfl<|bind_eq (aQ g)<|bind_eq hb rfl)<|aP rfl<|bind_eq (congrArg some (bt (by omega))) rfl
    ·exact .inr ⟨.inr true,bind_eq rfl<|bind_eq (dT (by omega))<|bj rfl<|bD<|bind_eq (aQ g)<|bind_eq rfl<|bind_eq (dF (by omega))<|bind_eq (a:=true) (aP rfl<|bind_eq (aQ g)<|bind_eq hb rfl) rfl,.inr rfl⟩
  ·refine .inr ⟨.inl (),?_,.inl ⟨(),rfl,?_⟩⟩
   ·exact bind_eq rfl<|bind_eq (dF (by omega))<|aP rfl rfl
   ·rw[List.take_of_length_le (by omega)]at ht;exact ht
 ·rintro e (⟨c,rfl,he⟩|rfl)
  ·exact⟨false,rfl,fun _=>he⟩
  ·exact⟨true,rfl,fun h=>by cases h⟩
theorem KM(m:List (List Qr))(h:m.length≤9223372036854775806):kf m=some (pG m:Int):=by
 unfold kf
 refine aU (fun j=>(((m.take j).foldl (fun n v=>max n v.length) 0:Nat),(j:Int))) m.length ((pG m:Nat):Int) (by simp) (fun j hj=>?_) ?_ rfl
 ·refine bind_eq rfl<|bind_eq (dT (by omega))<|bj rfl<|bind_eq (aQ (List.getElem?_eq_getElem hj))<|bind_eq rfl<|bind_eq rfl<|bind_eq (congrArg some (bt (by omega))) ?_
  rw[List.take_add_one,List.getElem?_eq_getElem hj,List.foldl_append]
  simp only[Option.toList_some,List.foldl_cons,List.foldl_nil]
  congr 3
  omega
 ·refine bind_eq rfl<|bind_eq (dF (by omega))<|aP rfl ?_
  rw[List.take_length];rfl
theorem Iy(m:List (List Qr)):∃b,kg [m]=some b∧(b=false→m.length≤8∧∀v∈m,Sm8 v):=by
 unfold kg
 have hg:cy [m] (0:Int)=some m:=rfl
 by_cases h8:8<m.length
 ·refine⟨true,?_,fun h=>by cases h⟩
  refine aU (fun j=>(j:Int)) 0 (.inr true) rfl (fun j hj=>by omega) ?_ rfl
  exact bind_eq rfl<|bind_eq (dT (by simp))<|bj rfl<|bD<|bind_eq hg<|bind_eq rfl<|bind_eq (dT (by omega))<|bind_eq (a:=true) (bj rfl rfl)<|bind_eq (a:=true) (bj rfl rfl) rfl
 by_cases hc:8<pG m
 ·refine⟨true,?_,fun h=>by cases h⟩
  refine aU (fun j=>(j:Int)) 0 (.inr true) rfl (fun j hj=>by omega) ?_ rfl
  exact bind_eq rfl<|bind_eq (dT (by simp))<|bj rfl<|bD<|bind_eq hg<|bind_eq rfl<|bind_eq (dF (by omega))<|bind_eq (a:=true) (aP rfl<|bind_eq hg<|bind_eq (KM m (by omega))<|bind_eq (dT (by omega)) rfl)<|bind_eq (a:=true) (bj rfl rfl) rfl
 obtain⟨b,hb,hs⟩:=Dc m (by omega)
 cases b
 ·refine⟨false,?_,fun _=>⟨by omega,fun v hv=>⟨?_,(hs rfl v hv).2⟩⟩⟩
  ·refine aU (fun j=>(j:Int)) 1 (.inl ()) rfl (fun j hj=>?_) (bind_eq rfl<|bind_eq (dF (by simp))<|aP rfl rfl) rfl
   obtain rfl:j=0:=by omega
   exact bind_eq rfl<|bind_eq (dT (by simp))<|bj rfl<|bD<|bind_eq hg<|bind_eq rfl<|bind_eq (dF (by omega))<|bind_eq (a:=false) (aP rfl<|bind_eq hg<|bind_eq (KM m (by omega))<|bind_eq (dF (by omega)) rfl)<|bind_eq (a:=false) (aP rfl<|bind_eq hg<|bind_eq hb rfl)<|aP rfl<|bind_eq (congrArg some (bt (by omega))) rfl
  ·have:=nM.1 (Nat.le_refl (pG m)) v hv;omega
 ·refine⟨true,?_,fun h=>by cases h⟩
  refine aU (fun j=>(j:Int)) 0 (.inr true) rfl (fun j hj=>by omega) ?_ rfl
  exact bind_eq rfl<|bind_eq (dT (by simp))<|bj rfl<|bD<|bind_eq hg<|bind_eq rfl<|bind_eq (dF (by omega))<|bind_eq (a:=false) (aP rfl<|bind_eq hg<|bind_eq (KM m (by omega))<|bind_eq (dF (by omega)) rfl)<|bind_eq (a:=true) (aP rfl<|bind_eq hg<|bind_eq hb rfl)<|bj rfl rfl
theorem Si(m:List (List Qr))(h:m.length≤1000):l7 m=some (decide (∀i,i<m.length→(m.getD i []).length=0)):=by
 unfold l7
 refine bind_eq (zL (p:=fun i=>(m.getD i []).length=0) (e:=false) (n:=m.length) (fun i hi=>?_) (bind_eq rfl<|bind_eq (dF (by omega))<|aP rfl rfl)) ?_
 ·refine bind_eq rfl<|bind_eq (dT (by omega))<|bj rfl<|bind_eq (aQ (dZ (d:=[]) hi))<|bind_eq rfl<|bind_eq rfl ?_
  by_cases hz:(m.getD i []).length=0
  ·rw[if_pos hz];exact aP (decide_eq_false (by omega))<|bind_eq (congrArg some (bt (by omega))) rfl
  ·rw[if_neg hz];exact bj (decide_eq_true (by omega)) rfl
 ·by_cases hp:∀i,i<m.length→(m.getD i []).length=0
  ·rw[if_pos hp,decide_eq_true hp]
  ·rw[if_neg hp,decide_eq_false hp]
structure Sm6 (ob rw:List (List Qr)) (bd:List Qr):Prop where
 lo:ob.length≤6
 lr:rw.length≤140
 lb:bd.length≤140
 so:∀v∈ob,Sm8 v
 sr:∀v∈rw,Sm8 v
 sb:Sml (bd.take (min bd.length 20))
theorem P3{n:Int}{ob rw:List (List Qr)}{bd:List Qr}(h1:ob.length≤9223372036854775806)(h2:rw.length≤9223372036854775806)(h3:bd.length≤9223372036854775806):∃b,l8 ⟨n,ob,rw,bd⟩=some b∧(b=false→Sm6 ob rw bd):=by
 unfold l8
 obtain⟨b1,e1,s1⟩:=Iy rw
 obtain⟨b2,e2,s2⟩:=Iy ob
 have aa6:nK bd=some (bd.take (min bd.length 20)):=by
  unfold nK
  have hm:min (bd.length:Int) 20=((min bd.length 20:Nat):Int):=by omega
  refine bind_eq rfl<|bind_eq (congrArg some hm)<|bind_eq (oD (by omega)) rfl
 obtain⟨b3,e3,s3⟩:=Dc [bd.take (min bd.length 20)] (by simp)
 by_cases c1:6<ob.length
 ·exact⟨true,bD<|bind_eq rfl<|bind_eq (dT (by omega))<|bind_eq (a:=true) (bj rfl rfl)<|bind_eq (a:=true) (bj rfl rfl)<|bind_eq (a:=true) (bj rfl rfl)<|bind_eq (a:=true) (bj rfl rfl)<|bind_eq (a:=true) (bj rfl rfl)<|bind_eq (a:=true) (bj rfl rfl) rfl,fun h=>by cases h⟩
 by_cases c2:140<rw.length
 ·exact⟨true,bD<|bind_eq rfl<|bind_eq (dF (by omega))<|bind_eq (a:=true) (aP rfl<|bind_eq rfl<|bind_eq (dT (by omega)) rfl)<|bind_eq (a:=true) (bj rfl rfl)<|bind_eq (a:=true) (bj rfl rfl)<|bind_eq (a:=true) (bj rfl rfl)<|bind_eq (a:=true) (bj rfl rfl)<|bind_eq (a:=true) (bj rfl rfl) rfl,fun h=>by cases h⟩
 by_cases c3:140<bd.length
 ·exact⟨true,bD<|bind_eq rfl<|bind_eq (dF (by omega))<|bind_eq (a:=false) (aP rfl<|bind_eq rfl<|bind_eq (dF (by omega)) rfl)<|bind_eq (a:=true) (aP rfl<|bind_eq rfl<|bind_eq (dT (by omega)) rfl)<|bind_eq (a:=true) (bj rfl rfl)<|bind_eq (a:=true) (bj rfl rfl)<|bind_eq (a:=true) (bj rfl rfl)<|bind_eq (a:=true) (bj rfl rfl) rfl,fun h=>by cases h⟩
 have eb:=Si rw (by omega)
 by_cases c4:8<rw.length
 ·by_cases c5:∀i,i<rw.length→(rw.getD i []).length=0
  ·rw[decide_eq_true c5]at eb
   refine⟨_,bD<|bind_eq rfl<|bind_eq (dF (by omega))<|bind_eq (a:=false) (aP rfl<|bind_eq rfl<|bind_eq (dF (by omega)) rfl)<|bind_eq (a:=false) (aP rfl<|bind_eq rfl<|bind_eq (dF (by omega)) rfl)<|bind_eq (a:=false) (aP rfl<|bind_eq rfl<|bind_eq (dT (by omega))<|bind_eq (a:=false) (bj rfl<|bind_eq eb<|bind_eq rfl rfl) rfl)<|bind_eq (a:=false) (aP rfl<|bind_eq rfl<|bind_eq (dF (by omega))<|bind_eq (a:=false) (aP rfl rfl) rfl)<|EG (fun _=>bind_eq e2 rfl)<|EG (fun _=>bind_eq aa6<|bind_eq e3 rfl) rfl,fun h=>?_⟩
   simp only[Bool.false_or,Bool.or_eq_false_iff]at h
   refine⟨by omega,by omega,by omega,(s2 h.1).2,fun v hv=>?_,s3 h.2 _ (by simp)⟩
   obtain⟨i,hi,rfl⟩:=List.getElem_of_mem hv
   have:=c5 i hi
   rw[List.getD_eq_getElem?_getD,List.getElem?_eq_getElem hi]at this
   have h0:rw[i]=[]:=List.eq_nil_of_length_eq_zero this
   rw[h0];exact⟨by decide,by simp⟩
  ·rw[decide_eq_false c5]at eb
   exact⟨true,bD<|bind_eq rfl<|bind_eq (dF (by omega))<|bind_eq (a:=false) (aP rfl<|bind_eq rfl<|bind_eq (dF (by omega)) rfl)<|bind_eq (a:=false) (aP rfl<|bind_eq rfl<|bind_eq (dF (by omega)) rfl)<|bind_eq (a:=true) (aP rfl<|bind_eq rfl<|bind_eq (dT (by omega))<|bind_eq (a:=true) (bj rfl<|bind_eq eb<|bind_eq rfl rfl) rfl)<|bind_eq (a:=true) (bj rfl rfl)<|bind_eq (a:=true) (bj rfl rfl)<|bind_eq (a:=true) (bj rfl rfl) rfl,fun h=>by cases h⟩
 ·refine⟨_,bD<|bind_eq rfl<|bind_eq (dF (by omega))<|bind_eq (a:=false) (aP rfl<|bind_eq rfl<|bind_eq (dF (by omega)) rfl)<|bind_eq (a:=false) (aP rfl<|bind_eq rfl<|bind_eq (dF (by omega)) rfl)<|bind_eq (a:=false) (aP rfl<|bind_eq rfl<|bind_eq (dF (by omega))<|bind_eq (a:=false) (aP rfl rfl) rfl)<|EG (c:=b1) (fun _=>bind_eq rfl<|bind_eq (dT (by omega))<|bind_eq (a:=b1) (bj rfl<|bind_eq e1 rfl) rfl)<|EG (fun _=>bind_eq e2 rfl)<|EG (fun _=>bind_eq aa6<|bind_eq e3 rfl) rfl,fun h=>?_⟩
  simp only[Bool.false_or,Bool.or_eq_false_iff]at h
  exact⟨by omega,by omega,by omega,(s2 h.1.2).2,(s1 h.1.1).2,s3 h.2 _ (by simp)⟩
end Go.Proofs.YtningmnklfpfjaaGreat
namespace Go.Proofs.YtningmnklfpfjaaGreat
open Go.Fw
abbrev OkM(m:List (List Qr)):Prop:=m.length≤9223372036854775807∧∀v∈m,OkV v
abbrev OkL(p:Lr):Prop:=fu p.vars∧OkM p.pK∧OkM p.rows∧OkV p.bounds
abbrev szL(p:Lr):Nat:=1+szM p.pK+szM p.rows+Xu p.bounds+1
theorem Gh{α:Type}(f:α→Nat)(h:∀x,1≤f x):∀l:List α,l.length≤(l.map f).sum
 |[]=>Nat.le_refl _
 |x::l=>by rw[List.map_cons,List.sum_cons,List.length_cons];have:=Gh f h l;have:=h x;omega
theorem KN(m:List (List Qr)):m.length≤szM m:=by have:=Gh (fun x=>Xu x) (fun x=>by show 1≤_+1;omega) m;show _≤_+1;omega
theorem Sj(v:List Qr):v.length≤Xu v:=by have:=Gh (fun x=>szQ x) (fun x=>by show 1≤_+1;omega) v;show _≤_+1;omega
theorem TY{m:List (List Qr)}(h:OkM m)(s:∀v∈m,Sm8 v):ru 6 m (Jy m):=
 Sa (fun v hv=>KB (fun q hq=>PN ((h.2 v hv).2 q hq) ((s v hv).2 q hq).1 ((s v hv).2 q hq).2 (by decide)) (by decide)) (by decide)
theorem TZ{v:List Qr}(h:OkV v)(s:Sml v):cW 6 v (DZ v):=KB (fun q hq=>PN (h.2 q hq) (s.2 q hq).1 (s.2 q hq).2 (by decide)) (by decide)
theorem P4{L:Nat}{u v:List Qr}{f h:Nat→Rat}(hu:cW L u f)(hv:cW L v h):cW L (u++v) (fun i=>if i<u.length then f i else h (i-u.length)):=by
 refine⟨fun i hi=>?_,fun i hi=>?_,hu.l1⟩
 ·show kJ L (u++v)[i] (if i<u.length then f i else h (i-u.length))
  by_cases q:i<u.length
  ·rw[if_pos q,List.getElem_append_left q];exact hu.e i q
  ·rw[if_neg q,List.getElem_append_right (by omega)];exact hv.e _ (by rw[List.length_append]at hi;omega)
 ·show(if i<u.length then f i else h (i-u.length))=0
  rw[List.length_append]at hi
  rw[if_neg (by omega)];exact hv.z _ (by omega)
section refs
variable {n:Int}{ob rw:List (List Qr)}{bd:List Qr}
theorem XG(h1:ob.length≤9223372036854775806)(h2:rw.length≤9223372036854775806):lj ⟨n,ob,rw,bd⟩=some (decide (Is n ob rw bd)):=by
 have sh:∀(m:List (List Qr)),m.length≤9223372036854775806→ja m n=some (decide ((pG m:Int)≤n)):=fun m hm=>by
  unfold ja
  exact bind_eq (KM m hm)<|bind_eq rfl rfl
 unfold lj
 refine bD<|bind_eq rfl<|EG (fun _=>bind_eq rfl rfl)<|EG (fun _=>bind_eq rfl<|bind_eq rfl rfl)<|EG (fun _=>bind_eq rfl<|bind_eq rfl rfl)<|EG (fun _=>bind_eq rfl<|bind_eq rfl rfl)<|EG (fun _=>bind_eq rfl<|bind_eq rfl<|bind_eq rfl rfl)<|Ir (fun h=>?_) (fun h=>bD<|bind_eq (sh ob h1)<|R9 (fun _=>bind_eq (sh rw h2) rfl) ?_)
 ·congr 1;symm;rw[decide_eq_false_iff_not]
  simp only[Bool.or_eq_true,decide_eq_true_eq]at h
  unfold Is;omega
 ·congr 1
  simp only[Bool.or_eq_false_iff,decide_eq_false_iff_not]at h
  rw[←Bool.decide_and,decide_eq_decide]
  unfold Is;omega
end refs
end Go.Proofs.YtningmnklfpfjaaGreat
namespace Go.Proofs.YtningmnklfpfjaaGreat
open Go.Fw
def wpt(n m p:Nat)(O:Nat→Nat→Rat)(z:Nat→Rat)(i:Nat):Rat:=bf (fun k=>z k*lA n p O k i) (n+m)
section sol
variable {L n m p:Nat}{O F:Nat→Nat→Rat}{b:Nat→Nat}{z:Nat→Rat}
theorem XH(i:Nat):wpt n m p O z i=if i<p then bf (fun k=>O i k*z k) n else if i<p+n then-z (i-p)else 0:=by
 unfold wpt
 rw[xw,cD (h:=fun j=>z (n+j)*lA n p O (n+j) i) (k:=fun _=>0) (fun j _=>by unfold lA;rw[if_neg (by omega)];grind),kn]
 by_cases h1:i<p
 ·rw[if_pos h1,cD (k:=fun k=>O i k*z k) (fun k hk=>by unfold lA;rw[if_pos hk,if_pos h1,Rat.mul_comm])];grind
 ·rw[if_neg h1]
  by_cases h2:i<p+n
  ·rw[if_pos h2,lp (k:=i-p) (by omega) (fun k hk hne=>by unfold lA;rw[if_pos hk,if_neg h1,if_neg (by omega)];grind)]
   unfold lA
   rw[if_pos (by omega),if_neg h1,if_pos (by omega)];grind
  ·rw[if_neg h2,cD (k:=fun _=>0) (fun k hk=>by unfold lA;rw[if_pos hk,if_neg h1,if_neg (by omega)];grind),kn];grind
theorem P5(h:zN n m F z)(i:Nat):bf (fun k=>z k*u0 n m p O F b k i) (n+m)=pN n p O b (fun j=>F j (n+m)) m i-wpt n m p O z i:=by
 have e:∀k,z k*u0 n m p O F b k i=bf (fun j=>lA n p O (b j) i*(F j k*z k)) m-z k*lA n p O k i:=fun k=>by
  unfold u0 pN
  have:z k*bf (fun j=>F j k*lA n p O (b j) i) m=bf (fun j=>lA n p O (b j) i*(F j k*z k)) m:=by
   rw[←pC];exact cD (fun j _=>by grind)
  rw[←this];grind
 rw[cD (fun k _=>e k),yC,zM]
 unfold pN wpt
 congr 1
 refine cD (fun j hj=>?_)
 rw[pC,h j hj];exact Rat.mul_comm _ _
theorem agr{R:Nat→Nat→Rat}{g:Nat→Rat}:zN n m (nX n m R g) z↔∀i,i<m→bf (fun k=>R i k*z k) n+z (n+i)=g i:=by
 refine forall_congr' fun i=>forall_congr' fun hi=>?_
 rw[xw,cD (h:=fun k=>nX n m R g i k*z k) (k:=fun k=>R i k*z k) (fun k hk=>by unfold nX;rw[if_pos hk]),lp (h:=fun j=>nX n m R g i (n+j)*z (n+j)) hi (fun j hj hne=>by unfold nX;rw[if_neg (by omega),if_neg (by omega),if_neg (by omega)];grind)]
 have e1:nX n m R g i (n+i)=1:=by unfold nX;rw[if_neg (by omega),if_pos rfl]
 have e2:nX n m R g i (n+m)=g i:=by unfold nX;rw[if_neg (by omega),if_neg (by omega),if_pos rfl]
 rw[e1,e2,Rat.one_mul]
theorem EO{R:Nat→Nat→Rat}{g:Nat→Rat}:Uc m (nX n m R g) (fun j=>n+j):=fun i j hi hj=>by
 show nX n m R g i (n+j)=_
 unfold nX
 rw[if_neg (by omega)]
 by_cases e:i=j
 ·rw[if_pos (by omega),if_pos e]
 ·rw[if_neg (by omega),if_neg (by omega),if_neg e]
end sol
def Dd(f:Nat→Rat)(N:Nat):Prop:=(∀i,i<N→f i=0)∨∃i,i<N∧(∀j,j<i→f j=0)∧0<f i
theorem Dd.add{f g:Nat→Rat}{N:Nat}(hf:Dd f N)(hg:Dd g N):Dd (fun i=>f i+g i) N:=by
 rcases hf with h1|⟨i,h1,h2,h3⟩<;>rcases hg with k1|⟨j,k1,k2,k3⟩
 ·exact .inl (fun i hi=>by show f i+g i=0;rw[h1 i hi,k1 i hi];exact Rat.add_zero 0)
 ·exact .inr ⟨j,k1,fun q hq=>by show f q+g q=0;rw[h1 q (by omega),k2 q hq];exact Rat.add_zero 0,by show 0<f j+g j;rw[h1 j k1];grind⟩
 ·exact .inr ⟨i,h1,fun q hq=>by show f q+g q=0;rw[h2 q hq,k1 q (by omega)];exact Rat.add_zero 0,by show 0<f i+g i;rw[k1 i h1];grind⟩
 ·rcases Nat.lt_trichotomy i j with e|e|e
  ·exact .inr ⟨i,h1,fun q hq=>by show f q+g q=0;rw[h2 q hq,k2 q (by omega)];exact Rat.add_zero 0,by show 0<f i+g i;rw[k2 i e];grind⟩
  ·subst e;exact .inr ⟨i,h1,fun q hq=>by show f q+g q=0;rw[h2 q hq,k2 q hq];exact Rat.add_zero 0,by show 0<f i+g i;grind⟩
  ·exact .inr ⟨j,k1,fun q hq=>by show f q+g q=0;rw[h2 q (by omega),k2 q hq];exact Rat.add_zero 0,by show 0<f j+g j;rw[h2 j e];grind⟩
theorem Dd.mul{f:Nat→Rat}{N:Nat}{c:Rat}(hc:0≤c)(hf:Dd f N):Dd (fun i=>c*f i) N:=by
 by_cases e:c=0
 ·exact .inl (fun i _=>by show c*f i=0;rw[e];grind)
 ·have hp:0<c:=by grind
  rcases hf with h1|⟨i,h1,h2,h3⟩
  ·exact .inl (fun i hi=>by show c*f i=0;rw[h1 i hi];grind)
  ·exact .inr ⟨i,h1,fun q hq=>by show c*f q=0;rw[h2 q hq];grind,Rat.mul_pos hp h3⟩
theorem Dd.sum{h:Nat→Nat→Rat}{N:Nat}:∀{K:Nat},(∀k,k<K→Dd (h k) N)→Dd (fun i=>bf (fun k=>h k i) K) N
 |0,_=>.inl (fun _ _=>rfl)
 |K+1,hk=>(Dd.sum (K:=K) (fun k q=>hk k (by omega))).add (hk K (by omega))
def Sk:Nat→Nat
 |0=>6
 |k+1=>4*Sk k+1
theorem aa8:∀k,k<13→Sk k≤106255701:=by decide
theorem aa9:∀k,k<12→Sk k≤100000000:=by decide
abbrev ags(v:Pv):Prop:=(-9223372036854775808≤v.row∧v.row≤9223372036854775807)∧(-9223372036854775808≤v.col∧v.col≤9223372036854775807)
abbrev aba(l:List Pv):Nat:=(l.map fun _=>1+1+1).sum+1
theorem al7:(dW.bind fun x=>some x)=some true:=bind_eq XF rfl
theorem P6{n:Int}{ob rw:List (List Qr)}{bd:List Qr}(h1:ob.length≤9223372036854775806)(h2:rw.length≤9223372036854775806)(h3:bd.length≤9223372036854775806):∃b,kj ⟨n,ob,rw,bd⟩=some b∧(b=false→Sm6 ob rw bd∧(Is n ob rw bd→rw.length≤5∧n≤6)):=by
 obtain⟨b1,e1,s1⟩:=P3 (n:=n) h1 h2 h3
 have my:=XG (n:=n) (bd:=bd) h1 h2
 unfold kj
 refine⟨_,bD<|bind_eq e1<|EG (c:=decide (5<rw.length)&&decide (Is n ob rw bd)) (fun _=>bind_eq rfl<|bind_eq (congrArg some (decide_eq_decide.2 (show(5:Int)<(rw.length:Int)↔5<rw.length by omega)))<|R9 (fun _=>bind_eq my rfl) rfl)<|EG (c:=decide (6<n)&&decide (Is n ob rw bd)) (fun _=>bind_eq rfl<|R9 (fun _=>bind_eq my rfl) rfl) rfl,fun h=>?_⟩
 simp only[Bool.or_eq_false_iff,Bool.and_eq_false_iff,decide_eq_false_iff_not]at h
 refine⟨s1 h.1.1,fun hv=>⟨?_,?_⟩⟩
 ·rcases h.1.2 with q|q
  ·omega
  ·exact absurd hv q
 ·rcases h.2 with q|q
  ·omega
  ·exact absurd hv q
theorem abb{n:Int}{ob rw:List (List Qr)}{bd:List Qr}(v:iL ⟨n,ob,rw,bd⟩=some false):o7 ⟨n,ob,rw,bd⟩=some ():=by
 unfold o7
 exact bind_eq v<|bind_eq rfl<|bj rfl rfl
theorem LV{n m p:Nat}{O F0:Nat→Nat→Rat}{b0:Nat→Nat}{l:List Pv}(hl:l.length≤12)(h:qw 6 n m p O F0 b0)(hu:Uc m F0 b0){R:Type}{f:List (List Qr)×List Int×List (List Qr)→Option R}{r:R}
  (hf:∀F b,qw 106255701 n m p O F b→Uc m F b→(∀z,zN n m F z↔zN n m F0 z)→f (mq p (fun _=>n) O,bq m b,mq m (fun _=>n+m+1) F)=some r):
  ((bU (fun(Qj:Int×(List (List Qr))×(List Int)×(List (List Qr)))=>match Qj with|⟨wF,sF,sG,sH⟩=>(show Option ((Int×(List (List Qr))×(List Int)×(List (List Qr)))⊕((List (List Qr))×(List Int)×(List (List Qr))))from(some (l.length:Int)).bind fun tQ=>(some (decide ((wF:Int)<tQ))).bind fun sO=>(bif sO then(cy l wF).bind fun⟨abc,ahr⟩=>(cy l wF).bind fun⟨Kj,HL⟩=>(aM true n sF sG sH abc HL).bind fun⟨x62,l37,IA,l39⟩=>(some (IntKind.i64.wrap (wF+1))).bind fun vo=>some (.inl (vo,l37,IA,l39))else some (.inr (sF,sG,sH))))) (0,mq p (fun _=>n) O,bq m b0,mq m (fun _=>n+m+1) F0)).bind f)=some r:=by
 refine oE (fun s=>∃(k:Nat) (F:Nat→Nat→Rat) (b:Nat→Nat),s=((k:Int),mq p (fun _=>n) O,bq m b,mq m (fun _=>n+m+1) F)∧k≤l.length∧qw (Sk k) n m p O F b∧Uc m F b∧∀z,zN n m F z↔zN n m F0 z) (fun e=>∃(F:Nat→Nat→Rat) (b:Nat→Nat),e=(mq p (fun _=>n) O,bq m b,mq m (fun _=>n+m+1) F)∧qw 106255701 n m p O F b∧Uc m F b∧∀z,zN n m F z↔zN n m F0 z) (fun s=>l.length-s.1.toNat) ?_ ⟨0,F0,b0,rfl,Nat.zero_le _,h,hu,fun _=>Iff.rfl⟩ ?_
 ·rintro _ ⟨k,F,b,rfl,hk,ht,hu,hz⟩
  by_cases hlt:k<l.length
  ·have g:=List.getElem?_eq_getElem hlt
   generalize l[k]=v at g
   obtain⟨r,c⟩:=v
   obtain⟨e,F',b',hp,ht',hu',hz'⟩:=JC ht (aa9 k (by omega)) hu r c
   refine .inl ⟨(((k+1:Nat):Int),mq p (fun _=>n) O,bq m b',mq m (fun _=>n+m+1) F'),?_,⟨k+1,F',b',rfl,hlt,ht',hu',fun z=>(hz' z).trans (hz z)⟩,by simp only[Int.toNat_natCast];omega⟩
   exact bind_eq rfl<|bind_eq (dT (by omega))<|bj rfl<|bind_eq (aQ g)<|bind_eq (aQ g)<|bind_eq hp<|bind_eq (congrArg some (bt (by omega))) rfl
  ·exact .inr ⟨_,bind_eq rfl<|bind_eq (dF (by omega))<|aP rfl rfl,F,b,rfl,ht.mono (aa8 k (by omega)),hu,hz⟩
 ·rintro _ ⟨F,b,rfl,ht,hu,hz⟩
  exact hf F b ht hu hz
end Go.Proofs.YtningmnklfpfjaaGreat
namespace Go.Proofs.YtningmnklfpfjaaGreat
open Go.Fw
section two
variable {L K n m p:Nat}{O F G:Nat→Nat→Rat}{b c:Nat→Nat}
theorem Bg(hb:∀j,j<m→b j<n+m)(f h:Nat→Rat):bf (fun l=>f l*bf (fun j=>if b j=l then h j else 0) m) (n+m)=bf (fun j=>f (b j)*h j) m:=by
 rw[show(fun l=>f l*bf (fun j=>if b j=l then h j else 0) m)=fun l=>bf (fun j=>f l*(if b j=l then h j else 0)) m from funext fun l=>(pC _ _ _).symm,zM]
 refine cD (fun j hj=>?_)
 rw[lp (hb j hj) (fun i _ hne=>by rw[if_neg (fun q=>hne q.symm)];grind),if_pos rfl]
theorem EP(hb:∀j,j<m→b j<n+m)(hu:Uc m F b)(hs:∀z,zN n m F z→zN n m G z){i k:Nat}(hi:i<m)(hk:k≤n+m):G i k=bf (fun s=>G i (b s)*F s k) m:=by
 have one:∀(h:Nat→Rat) (i:Nat),i<m→bf (fun j=>F i (b j)*h j) m=h i:=fun h i hi=>by
  rw[lp hi (fun j hj hne=>by rw[hu i j hi hj,if_neg (fun q=>hne q.symm)];grind),hu i i hi hi,if_pos rfl];grind
 have s0:zN n m F (fun l=>bf (fun j=>if b j=l then F j (n+m)else 0) m):=fun i hi=>by rw[Bg hb,one _ i hi]
 have g0:=hs _ s0 i hi
 rw[Bg hb]at g0
 by_cases e:k=n+m
 ·rw[e,←g0]
 have hk':k<n+m:=by omega
 have pt:∀(f:Nat→Rat),bf (fun l=>f l*(bf (fun j=>if b j=l then F j (n+m)else 0) m+((if l=k then 1 else 0)-bf (fun j=>if b j=l then F j k else 0) m))) (n+m)=bf (fun j=>f (b j)*F j (n+m)) m+(f k-bf (fun j=>f (b j)*F j k) m):=fun f=>by
  rw[←Bg hb f (fun j=>F j (n+m)),←Bg hb f (fun j=>F j k)]
  have e1:f k=bf (fun l=>f l*(if l=k then 1 else 0)) (n+m):=by
   rw[lp hk' (fun i _ hne=>by rw[if_neg hne];grind),if_pos rfl];grind
  rw[e1,←yC,←C7]
  exact cD (fun l _=>by grind)
 have s1:zN n m F (fun l=>bf (fun j=>if b j=l then F j (n+m)else 0) m+((if l=k then 1 else 0)-bf (fun j=>if b j=l then F j k else 0) m)):=fun i hi=>by
  rw[pt (F i),one _ i hi,one _ i hi];grind
 have g1:=hs _ s1 i hi
 rw[pt (G i),g0]at g1
 grind
theorem P7(hb:∀j,j<m→b j<n+m)(hu:Uc m F b)(hv:Uc m G c)(hs:∀z,zN n m F z→zN n m G z)(hc:∀s,s<m→∃j,j<m∧c j=b s){i j k:Nat}(hi:i<m)(hj:j<m)(e:c j=b i)(hk:k≤n+m):F i k=G j k:=by
 rw[EP hb hu hs hj hk,lp hi (fun s hs' hne=>?_),←e,hv j j hj hj,if_pos rfl]
 ·grind
 ·obtain⟨t,ht,et⟩:=hc s hs'
  rw[←et,hv j t hj ht,if_neg (fun q=>?_)]
  ·grind
  ·subst q
   exact hne (XB hu hs' hi (et.symm.trans e))
theorem reach(h:qw L n m p O F b)(hu:Uc m F b){G:Nat→Nat→Rat}{c:Nat→Nat}(hg:qw (Sk 0) n m p O G c)(hv:Uc m G c)(hs:∀z,zN n m F z↔zN n m G z):∀t,t≤m→∃G' c',qw (Sk t) n m p O G' c'∧Uc m G' c'∧(∀z,zN n m F z↔zN n m G' z)∧∀s,s<t→∃j,j<m∧c' j=b s
 |0,_=>⟨G,c,hg,hv,hs,fun s hs=>by omega⟩
 |t+1,ht=>by
  obtain⟨G',c',h1,h2,h3,h4⟩:=reach h hu hg hv hs t (by omega)
  by_cases q:∃j,j<m∧c' j=b t
  ·refine⟨G',c',h1.mono (by show _≤4*Sk t+1;omega),h2,h3,fun s hs=>?_⟩
   by_cases e:s=t
   ·subst e;exact q
   ·exact h4 s (by omega)
  ·by_cases q2:∃r,r<m∧G' r (b t)≠0∧∀s,s<t→c' r≠b s
   ·obtain⟨r,hr,h0,hn⟩:=q2
    refine⟨_,_,Gg h1 hr (h.hb t (by omega)) h0,Iw hr h0 h2,fun z=>(h3 z).trans (KL hr h0).symm,fun s hs=>?_⟩
    by_cases e:s=t
    ·subst e;exact⟨r,hr,if_pos rfl⟩
    ·obtain⟨j,hj,ej⟩:=h4 s (by omega)
     refine⟨j,hj,?_⟩
     show(if j=r then _ else c' j)=_
     rw[if_neg (fun(q:j=r)=>hn s (by omega) (by rw[←q];exact ej))];exact ej
   ·exfalso
    have e:=EP h1.hb h2 (fun z=>(h3 z).2) (i:=t) (k:=b t) (show t<m by omega) (Nat.le_of_lt (h.hb t (by omega)))
    rw[hu t t (by omega) (by omega),if_pos rfl,cD (k:=fun _=>0) (fun s hs=>?_),kn]at e
    ·exact absurd e (by decide)
    ·by_cases w:G' s (b t)=0
     ·rw[w];grind
     ·by_cases w2:∃u,u<t∧c' s=b u
      ·obtain⟨u,XO,hu2⟩:=w2
       rw[hu2,hu t u (by omega) (by omega),if_neg (by omega)];grind
      ·exact absurd ⟨s,hs,w,fun u hu q=>w2 ⟨u,hu,q⟩⟩ q2
theorem short(h:qw L n m p O F b)(hu:Uc m F b){G:Nat→Nat→Rat}{c:Nat→Nat}(hg:qw 6 n m p O G c)(hv:Uc m G c)(hs:∀z,zN n m F z↔zN n m G z)(hm:m≤5):qw 6485 n m p O F b:=by
 obtain⟨G',c',h1,h2,h3,h4⟩:=reach h hu (G:=G) (c:=c) hg hv hs m (Nat.le_refl m)
 have sz:Sk m≤6485:=by
  have:∀k,k<6→Sk k≤6485:=by decide
  exact this m (by omega)
 have h1:=h1.mono sz
 refine⟨fun i hi k=>?_,h1.o,h.z,by decide,h.hn,h.hm,h.hp,h.hb⟩
 by_cases hk:k≤n+m
 ·obtain⟨j,hj,e⟩:=h4 i hi
  rw[P7 h.hb hu h2 (fun z=>(h3 z).1) h4 hi hj e hk]
  exact h1.f j hj k
 ·rw[h.z i hi k (by omega)];exact vE (by decide)
end two
end Go.Proofs.YtningmnklfpfjaaGreat
namespace Go.Proofs.YtningmnklfpfjaaGreat
open Go.Fw
theorem P8(p:Lr)(x:List Qr):lS p x=wz p x:=rfl
end Go.Proofs.YtningmnklfpfjaaGreat
namespace Go.Proofs.YtningmnklfpfjaaGreat
open Go.Fw
theorem LW(n m:Nat)(h k:Nat→Rat):vq n h++vq m k=vq (n+m) (fun i=>if i<n then h i else k (i-n)):=by
 unfold vq
 rw[List.range_add,List.map_append,List.map_map]
 congr 1
 ·exact List.map_congr_left (fun i hi=>by show qn (h i)=qn (if i<n then h i else k (i-n));rw[if_pos (List.mem_range.1 hi)])
 ·exact List.map_congr_left (fun i _=>by show qn (k i)=qn (if n+i<n then h (n+i)else k (n+i-n));rw[if_neg (by omega),show n+i-n=i by omega])
theorem T1{α:Type}{l:List α}{x:α}(h:l.length≤1000):xy 24 l [x]=some (l++[x]):=AI (by decide) (by omega)
section tab
variable {L n m p:Nat}{O F:Nat→Nat→Rat}{b:Nat→Nat}
theorem abd(h:qw L n m p O F b)(hL:L≤4000000000):mW (Ge n m p O F b)=some (mq m (fun _=>n+m) F):=by
 have hm:=h.hm
 have hn:=h.hn
 unfold mW
 refine bind_eq (jU n m p O F b)<|aP rfl<|bind_eq (congrArg some (show((mq m (fun _=>n+m+1) F).length:Int)=(m:Int) by rw[eE])) ?_
 refine aU (fun k=>((k:Int),mq k (fun _=>n+m) F)) m (mq m (fun _=>n+m) F) rfl (fun k hk=>?_) ?_ rfl
 ·have g1:(mq m (fun _=>n+m+1) F)[k]? =some (vq (n+m+1) (F k)):=kU hk
  have rs:=Bd (Xy h hk) (by omega) (by rw[bu];omega) ((n+m:Nat):Int)
  rw[show(min (((n+m:Nat):Int)) 65536).toNat=n+m by omega]at rs
  have ap:=T1 (l:=mq k (fun _=>n+m) F) (x:=vq (n+m) (F k)) (by rw[eE];omega)
  rw[←Bf]at ap
  refine bind_eq (dT (by omega))<|bj rfl<|bind_eq (aQ g1)<|bind_eq (Da hn hm)<|bind_eq rs<|bind_eq ap<|bind_eq (congrArg some (bt (by omega))) rfl
 ·exact bind_eq (dF (by omega))<|aP rfl rfl
theorem XI(h:qw L n m p O F b)(hL:(m+1)*(L+L+1)≤2000000000):eK (Ge n m p O F b)=some (mq (n+m) (fun _=>p+n) (u0 n m p O F b)):=by
 have hm:=h.hm
 have hn:=h.hn
 unfold eK
 refine bind_eq (jU n m p O F b)<|aP rfl ?_
 have hw:(IntKind.i64.wrap (Tb.vars (Ge n m p O F b)+((Tb.rows (Ge n m p O F b)).length:Int))).toNat=n+m:=by
  show(IntKind.i64.wrap ((n:Int)+((mq m (fun _=>n+m+1) F).length:Int))).toNat=_
  rw[eE,cq (by omega) (by omega)];omega
 refine bind_eq (a:=mq (n+m) (fun _=>p+n) (u0 n m p O F b)) ?_ rfl
 refine Eq.trans (congrArg (fun k=>lH _ k []) hw) ?_
 refine yR (fun k=>mq k (fun _=>p+n) (u0 n m p O F b)) (n+m) (fun k hk=>?_)
 have ap:=T1 (l:=mq k (fun _=>p+n) (u0 n m p O F b)) (x:=vq (p+n) (u0 n m p O F b k)) (by rw[eE];omega)
 rw[←Bf]at ap
 exact bind_eq rfl<|bind_eq (Iu h hL hk).1<|bind_eq ap rfl
end tab
theorem XJ{L M N W:Nat}{f:Nat→Rat}{C:Nat→Nat→Rat}(hx:∀k,k<N→FQ M (f k))(hM:1≤M)(hC:∀k,k<N→cW L (vq W (C k)) (C k))(hL:(N+1)*(L+M+1)+1≤2000000000)(hN:N≤1000)(hW:W≤1000):
  ∃v,j1 (vq N f) (mq N (fun _=>W) C)=some v∧v.length≤W∧cW (N*(L+M+1)+1) v (fun i=>bf (fun k=>f k*C k i) N):=by
 have ln:=eE N (fun _=>W) C
 by_cases h0:N=0
 ·subst h0
  refine⟨[],?_,by simp,cW.nil (by omega)⟩
  unfold j1
  refine bind_eq (KG [] (by simp))<|bind_eq (Iq 0 (by omega))<|bind_eq (a:=(0:Int)) rfl<|bind_eq (a:=(0:Int)) rfl<|bind_eq (a:=(0:Int)) rfl<|bind_eq (a:=([]:List (List Qr))) rfl<|bind_eq (a:=(0:Int)) rfl ?_
  exact aU (fun k=>(([]:List Qr),(k:Int))) 0 [] rfl (fun k hk=>by omega) (bind_eq (dF (by decide))<|aP rfl rfl) rfl
 have cn:pG (mq N (fun _=>W) C)=W:=by
  refine Nat.le_antisymm (nM.2 (fun v hv=>?_)) ?_
  ·obtain⟨i,hi,rfl⟩:=List.getElem_of_mem hv
   have:=kU (n:=N) (i:=i) (ln:=fun _=>W) (F:=C) (by rwa[ln]at hi)
   rw[List.getElem?_eq_getElem hi]at this
   rw[Option.some.inj this,bu];exact Nat.le_refl _
  ·have:=nM.1 (Nat.le_refl (pG (mq N (fun _=>W) C))) (vq W (C 0)) (List.mem_of_getElem? (kU (i:=0) (by omega)))
   rwa[bu]at this
 have rp:∀k,k≤N→cW (k*(L+M+1)+1) (vq W (fun i=>bf (fun k=>f k*C k i) k)) (fun i=>bf (fun k=>f k*C k i) k):=fun k hk=>by
  refine nW (fun i _=>?_) (fun i hi=>?_) (by omega)
  ·exact(Gb (L:=L+M) (n:=k) (fun j hj=>((hC j (by omega)).fq i).mul (hx j (by omega)) |> fun e=>by rw[Rat.mul_comm]at e;exact e))
  ·rw[cD (k:=fun _=>0) (fun j hj=>by rw[(hC j (by omega)).z i (by rwa[bu])];grind),kn]
 refine⟨vq W (fun i=>bf (fun k=>f k*C k i) N),?_,by rw[bu];exact Nat.le_refl _,rp N (Nat.le_refl N)⟩
 unfold j1
 have mc:=KG (mq N (fun _=>W) C) (by rw[ln];omega)
 rw[cn]at mc
 have sm:xK (mq N (fun _=>W) C) 0 ((N:Nat):Int)=some (mq N (fun _=>W) C):=by rw[oD (by rw[ln];omega),List.take_of_length_le (by rw[ln];omega)]
 refine bind_eq mc<|bind_eq (Iq W (by omega))<|bind_eq (congrArg some (show((mq N (fun _=>W) C).length:Int)=(N:Int) by rw[ln]))<|bind_eq (congrArg some (show((vq N f).length:Int)=(N:Int) by rw[bu]))<|bind_eq (congrArg some (show min (N:Int) (N:Int)=(N:Int) by omega))<|bind_eq sm<|bind_eq (congrArg some (show((mq N (fun _=>W) C).length:Int)=(N:Int) by rw[ln])) ?_
 rw[yG]
 refine aU (fun k=>(vq W (fun i=>bf (fun k=>f k*C k i) k),(k:Int))) N (vq W (fun i=>bf (fun k=>f k*C k i) N)) rfl (fun k hk=>?_) ?_ rfl
 ·have g1:(mq N (fun _=>W) C)[k]? =some (vq W (C k)):=kU hk
  have g2:(vq N f)[k]? =some (qn (f k)):=mA hk
  have rg:=(hx k hk).rep hM
  have hB:k*(L+M+1)+(L+M+1)+1≤2000000000:=by
   have:=Nat.mul_le_mul_right (L+M+1) (show k+1≤N+1 by omega)
   rw[Nat.succ_mul]at this;omega
  have sg:=rg.sign (by omega)
  have va:=(PJ rg (hC k hk) (rp k (by omega)) (by generalize k*(L+M+1)=w at*;omega) (by rw[bu];omega) (by rw[bu];omega)).1
  have e0:vq (max (vq W (C k)).length (vq W (fun i=>bf (fun k=>f k*C k i) k)).length) (fun i=>f k*C k i+bf (fun k=>f k*C k i) k)=vq W (fun i=>bf (fun k=>f k*C k i) (k+1)):=by
   rw[bu,bu,Nat.max_self]
   exact fF (fun i _=>by show _=bf (fun k=>f k*C k i) k+f k*C k i;grind)
  rw[e0]at va
  have skip:f k=0→vq W (fun i=>bf (fun k=>f k*C k i) k)=vq W (fun i=>bf (fun k=>f k*C k i) (k+1)):=fun q=>fF (fun i _=>by
   show _=bf (fun k=>f k*C k i) k+f k*C k i
   rw[q];grind)
  have sgd:(some (decide (pB (f k) 0≠0)):Option Bool)=some (decide (f k≠0)):=by
   congr 1
   by_cases q:f k=0
   ·rw[decide_eq_false (by rw[q,vD];simp),decide_eq_false (by simp[q])]
   ·rw[decide_eq_true (show pB (f k) 0≠0 from fun e=>q (jd.1 e)),decide_eq_true q]
  generalize hq:qn (f k)=q at*
  obtain⟨⟨_,_⟩,⟨_,_⟩⟩:=q
  refine bind_eq (dT (by omega))<|bj rfl<|bind_eq (aQ g1)<|bind_eq (aQ g2)<|bind_eq sg<|bind_eq sgd<|bD ?_
  by_cases q0:f k=0
  ·refine aP (by simp[q0]) ?_
   rw[skip q0]
   exact bind_eq (congrArg some (bt (by omega))) rfl
  ·refine bj (by simp[q0]) ?_
   exact bind_eq (aQ g2)<|bind_eq va<|bind_eq (congrArg some (bt (by omega))) rfl
 ·exact bind_eq (dF (by omega))<|aP rfl rfl
theorem De(q:Lr)(l:List Pv)(x:List Qr)(op:OkL q)(ol:l.length≤9223372036854775807∧∀v∈l,ags v)(ox:OkV x)(hs:szL q+aba l+Xu x≤1048576):eP q l x=some true:=by
 obtain⟨n,ob,rw,bd⟩:=q
 obtain⟨on,oo,or_,ob_⟩:=op
 replace oo:OkM ob:=oo
 replace or_:OkM rw:=or_
 replace ob_:OkV bd:=ob_
 have z1:=KN ob
 have z2:=KN rw
 have z3:=Sj bd
 replace hs:1+szM ob+szM rw+Xu bd+1+aba l+Xu x≤1048576:=hs
 obtain⟨b1,e1,s1⟩:=P6 (n:=n) (ob:=ob) (rw:=rw) (bd:=bd) (by omega) (by omega) (by omega)
 obtain⟨b2,e2,s2⟩:=Dc [x] (by simp)
 have v:=It (n:=n) (ob:=ob) (rw:=rw) (bd:=bd) (by omega) (by omega)
 unfold eP
 by_cases hv:Is n ob rw bd
 ·rw[decide_eq_true hv]at v
  rw[if_pos v]
  unfold eG
  refine bD<|bind_eq e1<|EG (fun _=>bind_eq rfl<|bind_eq rfl rfl)<|EG (fun _=>bind_eq e2 rfl)<|Ir (fun _=>al7) (fun hb=>?_)
  simp only[Bool.or_eq_false_iff,decide_eq_false_iff_not]at hb
  obtain⟨⟨yM,Dg⟩,hb3⟩:=hb
  obtain⟨s6,s7⟩:=s1 yM
  obtain⟨hr5,hn6⟩:=s7 hv
  have sx:=s2 hb3 x (by simp)
  have lx:=sx.1
  obtain⟨v1,v2,v3,v4,v5,v6,v7,v8⟩:=id hv
  obtain⟨n,rfl⟩:∃k:Nat,n=(k:Int):=⟨n.toNat,by omega⟩
  have ro:=TY oo s6.so
  have rr:=TY or_ s6.sr
  have hbd:bd.take (min bd.length 20)=bd:=by rw[show min bd.length 20=bd.length by omega,List.take_length]
  have sb:=s6.sb
  rw[hbd]at sb
  have rb:=TZ ob_ sb
  have rx:=TZ ox sx
  have co:∀v∈ob,v.length≤n:=nM.1 (by omega)
  have cr:∀v∈rw,v.length≤n:=nM.1 (by omega)
  generalize Jy ob=O at ro
  generalize Jy rw=R at rr
  generalize DZ bd=g at rb
  generalize DZ x=f at rx
  have eN:=aa4 (n:=n) ro rr rb (by decide) (by decide) (by decide) hv
  have k0:=KK (n:=n) ro rr rb (by decide) hv
  have Fi:l.length≤12:=by omega
  refine bind_eq eN<|bD<|bind_eq (a:=false) (aP rfl rfl)<|aP rfl ?_
  refine LV Fi k0 EO ?_
  intro F b ht hu hz
  obtain⟨m,hm⟩:∃m,rw.length=m:=⟨_,rfl⟩
  obtain⟨p,hp⟩:∃p,ob.length=p:=⟨_,rfl⟩
  rw[hm,hp]at ht k0
  rw[hm]at hu hz
  rw[hm,hp]
  have m5:m≤5:=by omega
  have n6:n≤6:=by omega
  replace ht:=short ht hu k0 EO hz m5
  obtain⟨K,hK⟩:∃K,K=6485:=⟨_,rfl⟩
  obtain⟨D,hD⟩:∃D,D=90:=⟨_,rfl⟩
  obtain⟨E,hE⟩:∃E,E=80000:=⟨_,rfl⟩
  rw[←hK]at ht
  have hX5:m*(K+K+1)≤5*(K+K+1):=Nat.mul_le_mul_right _ m5
  have hX:(m+1)*(K+K+1)≤2000000000:=by have:=Nat.mul_le_mul_right (K+K+1) (show m+1≤6 by omega);omega
  have y0:=Bd rx (by decide) (by omega) (n:Int)
  rw[show(min ((n:Int)) 65536).toNat=n by omega]at y0
  have ry:=yF (L:=6) (n:=n) (f:=f) (fun i _=>rx.fq i) (by decide)
  have y1:=PL ry (by decide) (by rw[bu];omega) (n:Int)
  rw[show(min ((n:Int)) 65536).toNat=n by omega]at y1
  have ly:(vq n f).length=n:=bu _ _
  have hN8:(n+2)*(6+6+1)≤104:=by omega
  obtain⟨y2,y3⟩:=PS (n:=(n:Int)) (ob:=ob) (N:=n) rr rb ry (fun v hv=>by have:=cr v hv;omega) (by omega) (by decide) (by omega)
  rw[hm]at y2 y3
  have y4:=W5 (b:=64) (l:=vq n (yE n f)) (k:=vq m (fun i=>g i-bf (fun j=>R i j*yE n f j) n)) (by decide) (by rw[bu,bu];omega)
  rw[LW]at y4
  obtain⟨z,hzd⟩:∃z:Nat→Rat,z=fun k=>if k<n then yE n f k else g (k-n)-bf (fun j=>R (k-n) j*yE n f j) n:=⟨_,rfl⟩
  rw[←hzd]at y4
  have zf:∀k,k<n→z k=yE n f k:=fun k hk=>by rw[hzd];exact if_pos hk
  have zs:∀i,z (n+i)=g i-bf (fun j=>R i j*yE n f j) n:=fun i=>by rw[hzd];show(if n+i<n then _ else _)=_;rw[if_neg (by omega),show n+i-n=i by omega]
  have zq:∀k,k<n+m→FQ D (z k):=fun k hk=>by
   by_cases q:k<n
   ·rw[zf k q];exact(ry.fq k).mono (by omega)
   ·have e:=zs (k-n)
    rw[show n+(k-n)=k by omega]at e
    rw[e];exact(y3 (k-n) (by omega)).mono (by omega)
  have XK:zN n m F z:=(hz z).2 (agr.2 (fun i hi=>by
   rw[zs,cD (k:=fun k=>R i k*yE n f k) (fun k hk=>by rw[zf k hk])];grind))
  have rz:=yF (L:=D) (n:=n+m) (f:=z) zq (by omega)
  have lz:(vq (n+m) z).length=n+m:=bu _ _
  have a1:=abd ht (by omega)
  have eF:mq m (fun _=>n+m) F=mq m (fun _=>n+m) (fun i k=>if i<m∧k<n+m then F i k else 0):=uZ (fun i hi=>⟨rfl,fun k hk=>by rw[if_pos ⟨hi,hk⟩]⟩)
  have rF:ru K (mq m (fun _=>n+m) (fun i k=>if i<m∧k<n+m then F i k else 0)) (fun i k=>if i<m∧k<n+m then F i k else 0):=PR (fun i hi k hk=>by
   show FQ K (if i<m∧k<n+m then F i k else 0)
   rw[if_pos ⟨hi,hk⟩];exact ht.f i hi k) (fun i hi k hk=>if_neg (by omega)) (fun i hi k=>if_neg (by omega)) (by omega)
  have a2:=(aa1 (N:=n+m) rF rz (fun v _=>by omega) (by have:=Nat.mul_le_mul_right (K+D+1) (show n+m+2≤13 by omega);omega) (by rw[eE];omega)).1
  rw[←eF,eE,show vq m (fun i=>bf (fun j=>(if i<m∧j<n+m then F i j else 0)*yE (n+m) z j) (n+m))=vq m (fun i=>F i (n+m))from fF (fun i hi=>by
   rw[←XK i hi]
   exact cD (fun k hk=>by rw[if_pos ⟨hi,hk⟩,vF hk]))]at a2
  have a3:=JA ht (by omega)
  have r3:=yF (L:=K) (n:=m) (f:=fun i=>F i (n+m)) (fun i hi=>ht.f i hi _) (by omega)
  have a4:=aaY r3 r3 (by omega) (fun _=>rfl)
  obtain⟨a6,r6⟩:=eval_eq (n:=(n:Int)) (rw:=rw) (bd:=bd) (N:=n) ro ry (fun v hv=>by have:=co v hv;omega) (by omega) (by omega)
  rw[hp]at a6 r6
  have evn:=P8 ⟨(n:Int),ob,rw,bd⟩ (vq n f)
  rw[a6]at evn
  have one:=mz (n:=-1) (by decide)
  obtain⟨a7,r7⟩:=PK one.2 ry (by decide) (by omega)
  rw[ly]at a7 r7
  have a8:=W5 (b:=64) (l:=vq p (fun i=>bf (fun j=>O i j*yE n f j) n)) (k:=vq n (fun i=>((-1:Int):Rat)*yE n f i)) (by decide) (by rw[bu,bu];omega)
  have r8:=P4 (L:=D) (r6.mono (by omega)) (r7.mono (by omega))
  have b1:=Gf ht hX
  have b2:=XI ht hX
  have s3:=Db ht (g:=fun j=>F j (n+m)) (fun j hj=>ht.f j hj _) (Nat.le_refl m)
  obtain⟨w,b3,lw,rw3⟩:=XJ (L:=E) (M:=D) (N:=n+m) (W:=p+n) (f:=z) (C:=u0 n m p O F b) zq (by omega) (fun k hk=>(Iu ht hX hk).2.mono (by omega)) (by have:=Nat.mul_le_mul_right (E+D+1) (show n+m+1≤12 by omega);omega) (by omega) (by omega)
  obtain⟨b4,r9⟩:=aaU s3 rw3 (by have:=Nat.mul_le_mul_right (E+D+1) (show n+m≤11 by omega);omega) (by rw[bu];omega) (by omega)
  have b5:=aaY r8 r9 (by have:=Nat.mul_le_mul_right (E+D+1) (show n+m≤11 by omega);omega) (fun i=>by
   rw[P5 XK,bu]
   have e:∀a c:Rat,a-(a-c)=c:=fun a c=>by grind
   rw[e,XH]
   by_cases h1:i<p
   ·rw[if_pos h1,if_pos h1]
    exact cD (fun k hk=>by rw[zf k hk])
   ·rw[if_neg h1,if_neg h1]
    have en:((-1:Int):Rat)=-1:=by decide
    by_cases h2:i<p+n
    ·rw[if_pos h2,zf _ (by omega),en];grind
    ·rw[if_neg h2,KH (by omega)];grind)
  have o1:=one.1
  clear r8 r9 rw3 s3 r7 r6 r3 rF rz XK zq hzd zf zs y3 ry
  generalize qn ((-1:Int):Rat)=q1 at*
  obtain⟨⟨_,_⟩,⟨_,_⟩⟩:=q1
  refine bind_eq y0<|bind_eq y1<|bind_eq y2<|bind_eq y4<|bind_eq a1<|bind_eq a2<|bind_eq a3<|bind_eq a4<|bind_eq rfl<|aP rfl ?_
  refine bind_eq evn<|bind_eq o1<|bind_eq a7<|bind_eq a8<|bD<|bind_eq b1<|bind_eq b2<|bind_eq b3<|bind_eq b4<|bind_eq b5<|bind_eq (bj rfl al7) rfl
 ·rw[decide_eq_false hv]at v
  rw[if_neg (by rw[v];decide)]
  unfold eH
  refine bD<|bind_eq e1<|EG (fun _=>bind_eq rfl<|bind_eq rfl rfl)<|EG (fun _=>bind_eq e2 rfl)<|Ir (fun _=>al7) (fun _=>?_)
  exact bind_eq (abb v)<|bD<|bind_eq v<|bind_eq rfl<|bind_eq (bj rfl al7) rfl
end Go.Proofs.YtningmnklfpfjaaGreat
namespace Go.Proofs.YtningmnklfpfjaaGreat
open Go.Fw Go.RowKit Go.ChangeShapes Go.WideShapes Go.ChangeAt
set_option linter.unusedVariables false
set_option maxRecDepth 100000 in
theorem nN(H:Type)(enc:TypeId×Value→H)(W:World)(base:Nat)(args:Array Value)(ds gs:List (DataW H))(before:List MemPlace)
  (hval:∀(j:Nat) t v,Tryz.f8.params[j]? =some t→args[j]? =some v→Value.okWide Tryz.prog W .any base t v)
  (hW:DataW.Whole enc Tryz.prog Tryz.f8.params.toList Rows.tableauEquationsSpec.vars false W args.toList ds gs before) (hk:Rows.uptoSmall H (ds++gs)=true):
  Calls Tryz.prog 8 args W fun e W'=>∃v,e=.returned v∧Rows.tableauEquationsSpec.post enc Tryz.prog Tryz.f8 false true false false W args v W':=by
 have hW':=hW
 obtain⟨p,q,hA0,hV,rfl,hfz,hnd⟩:=hW
 have hA:DataW.TrodAll enc Tryz.prog W 0 (fun _=>true) true Tryz.f8.params.toList args.toList ds p:=hA0
 rw[Tryz.params8]at hA hval
 obtain⟨v0,LZ,d0,ds0,p0,q0,hargs,rfl,rfl,h0,r0⟩:=trodAll_cons hA
 obtain⟨v1,vs1,d1,ds1,p1,q1,rfl,rfl,rfl,h1,r1⟩:=trodAll_cons r0
 obtain⟨v2,vs2,d2,ds2,p2,q2,rfl,rfl,rfl,h2,r2⟩:=trodAll_cons r1
 obtain⟨rfl,rfl,rfl⟩:=trodAll_nil r2
 obtain rfl:args=#[v0,v1,v2]:=by cases args;simp_all
 obtain⟨rfl,rfl⟩:=trodVars_none hV
 have lt0:∀x∈p0,x.block<W.heap.size:=by obtain⟨m,hm⟩:=h0;exact DataW.trod_lt m _ _ _ hm
 obtain⟨x0,ok0,sz0,al0⟩:=QK (P:=Tryz.prog) (T:=25) (e:=Gm) (hval 0 25 v0 rfl rfl) h0
 have lt1:∀x∈p1,x.block<W.heap.size:=by obtain⟨m,hm⟩:=h1;exact DataW.trod_lt m _ _ _ hm
 obtain⟨x1,ok1,sz1,al1⟩:=JW (P:=Tryz.prog) (T:=26) (e:=(eS 2 Qa)) (hval 1 26 v1 rfl rfl) h1
 have lt2:∀x∈p2,x.block<W.heap.size:=by obtain⟨m,hm⟩:=h2;exact DataW.trod_lt m _ _ _ hm
 obtain⟨x2,ok2,sz2,al2⟩:=JW (P:=Tryz.prog) (T:=23) (e:=(eS 4 eQ)) (hval 2 23 v2 rfl rfl) h2
 have hsz:Rows.uptoBulk d0+Rows.uptoBulk d1+Rows.uptoBulk d2≤1048576:=by
  have:=of_decide_eq_true hk;simp only[List.cons_append,List.nil_append,List.append_nil,Rows.uptoBulkAll]at this;omega
 clear hA0
 refine(QL (pM (De x0 x1 x2 ok0 ok1 ok2 (Nat.le_trans (Nat.add_le_add (Nat.add_le_add sz0 sz1) sz2) hsz))) (W:=W) (vs:=[v0,v1,v2]) ⟨al0,al1.1,al2.1,trivial⟩).mono fun e W' ⟨he,bel⟩=>?_
 subst he
 exact⟨_,rfl,_,_,_,[],_,[],hW',trodAll_mk1 (shut_bool Tryz.underlying4 _),(trodAll_cons_mk (Below.trod BC (by kernel_rfl) (of_decide_eq_true (by kernel_rfl)) h0 bel lt0) (trodAll_cons_mk (Below.trod BC (by kernel_rfl) (of_decide_eq_true (by kernel_rfl)) h1 bel lt1) (trodAll_cons_mk (Below.trod BC (by kernel_rfl) (of_decide_eq_true (by kernel_rfl)) h2 bel lt2) trodAll_mk0))),rfl,bel.frame _,fun h=>by cases h⟩
set_option maxRecDepth 100000 in
theorem oA(os:Os)(started:os.Started)(H:Type)(enc:TypeId×Value→H)(F:Stop.Interp):
  ReturnsInHanded {} Tryz.checked os 8 .any ((Rows.OpenSpec.upto Rows.tableauEquationsSpec).pre6 enc Tryz.prog Tryz.f8 Rows.tableauEquationsUptoRow.domain false) (((Rows.OpenSpec.upto Rows.tableauEquationsSpec).at F).post enc Tryz.prog Tryz.f8 false true false false):=by
 refine returnsInHanded_of_cond (C:=Tryz.checked) (s:=Rows.OpenSpec.upto Rows.tableauEquationsSpec) (k:=Rows.uptoSmall) rfl acQ started (by kernel_rfl) Tryz.func8
  (OpenSpec.witness (enc:=enc) (C:=Tryz.checked) (s:=Rows.OpenSpec.upto Rows.tableauEquationsSpec) (k:=Rows.uptoSmall) rfl false ⟨#[],#[.agg #[.int .i64 0,.slice none 0 0,.slice none 0 0,.slice none 0 0],.slice none 0 0,.slice none 0 0],[]⟩ 8 (by kernel_rfl) (by kernel_rfl) (by kernel_rfl)
   (x:=([.agg [.lit (.int .i64 0),.nil,.nil,.nil],.nil,.nil],[],[])) (by kernel_rfl) rfl (by kernel_rfl)) ?_
 intro W base args ds gs before hval hW _ hk _
 exact nN H enc W base args ds gs before hval hW hk
theorem tableauEquationsUpto_holds:Rows.TableauEquationsUptoSaid:=
 OpenClaim.holds_of_cond 8 Tryz.f8 rfl rfl rfl rfl rfl rfl rfl ⟨rfl,rfl,rfl,rfl,rfl⟩ rfl rfl rfl rfl rfl (by kernel_rfl) Tryz.func8 (by kernel_rfl)
  (of_decide_eq_true (by kernel_rfl)) (by unfold Func.isWrapper;first|(rw[if_pos (by decide+kernel)];kernel_rfl)|(rw[if_neg (by decide+kernel)];exact⟨rfl,rfl⟩))
  (fun os started H enc _ F=>oA os started H enc F)
end Go.Proofs.YtningmnklfpfjaaGreat
