/- The law TableauOptimal answers true for every input, up to the size that the statement names. -/
import Derived.Test.YtningmnklfpfjaaGreatPTO4
set_option linter.unusedVariables false
set_option linter.unusedSimpArgs false
namespace Go.Proofs.YtningmnklfpfjaaGreat
open Go.Fw Go.Fw.Z Go.RowKit
set_option maxHeartbeats 4000000 in
theorem qk{x0:Lr}{x1:List Pv}{x2:List Qr}{r:Bool}(h:ff x0 x1 x2=some r):Pure Tryz.prog 6 [.agg (DO x0),slc 2 (List.map P6 x1),slc 4 (List.map eQ x2)] (.v (.bool r)):=by
 obtain⟨aA,aB,aK,aL⟩:=x0
 refine ay Tryz.func6 rfl (Nat.le_of_ble_eq_true rfl) (fun cE M vs hvs=>?_)
 unfold ff at h
 refine sr<|bx rfl<|ag rfl<|dn<|qq<|qq ?_
 refine aF h (fun j6=>AS.bG 120 [(1,.sv (slc 2 (List.map P6 x1))),(2,.sv (slc 4 (List.map eQ x2))),(3,.ptr 3 0),(22,.sv (.v (.bool j6)))] [(3,⟨25,[.sv (.v (.int .i64 aA)),.sv (slc 1 (List.map (eS 4 eQ) aB)),.sv (slc 1 (List.map (eS 4 eQ) aK)),.sv (slc 4 (List.map eQ aL))]⟩)] []) (fun h=>?_) (fun CG h=>?_)
 refine af<|ld rfl rfl (.cons rfl (.cons rfl (.cons rfl (.cons rfl (.nil)))))<|bE h fun dh ey h=>cl (vW ey) ⟨rfl,trivial⟩<|mv rfl<|bE h fun Pc LF h=>?_
 cases dh
 refine gm rfl<|lE (F LF) fun dQ fN LF=>gn rfl fN<|lE LF fun gy jA LF=>gg _ rfl rfl jA ?_
 obtain rfl:=O LF
 refine pF rfl<|mv rfl<|bE h fun agd Rx h=>?_
 cases gy
 refine gm rfl<|RT.eF (l:=[x2]) (e:=(eS 4 eQ)) (.some rfl rfl) (.one rfl (.nil)) T rfl rfl rfl rfl rfl rfl<|bE (F Rx) fun gz mH Rx=>gc (gR mH) ⟨rfl,trivial⟩ ?_
 obtain rfl:=O Rx
 exact pF rfl<|dn<|⟨gz,h,wR []⟩
 obtain rfl:=O (V Rx)
 exact ww<|ww<|ww<|pT rfl<|dn<|⟨true,h,wR []⟩
 obtain rfl:=O (V LF)
 refine ww<|ww<|ww<|pT rfl<|mv rfl<|bE h fun age agf h=>?_
 obtain rfl:=O (V agf)
 exact ww<|ww<|ww<|pT rfl<|dn<|⟨true,h,wR []⟩
 try dsimp only
 refine ae.n ?_
 cases CG
 refine fs<|sr<|ld rfl rfl (.cons rfl (.cons rfl (.cons rfl (.cons rfl (.nil))))) ?_
 obtain⟨⟨oL,oM,B5,B6,O6⟩,nY,h⟩:=bS (F h)
 refine RT.J1 .none (uF nY) [304,305,306] (by decide) rfl ⟨⟨rfl,T⟩,⟨rfl,T⟩,⟨rfl,T⟩,trivial⟩ rfl ⟨rfl,trivial⟩ T rfl rfl<|mo (s:=.cmp _ _) rfl<|RT.xM .none rfl rfl T<|RT.xM .none rfl rfl T<|an (s:=.ptr _ _) rfl<|ag rfl<|dn<|qq<|qq ?_
 refine aF h (fun j9=>AS.bG 120 [(1,.sv (slc 2 (List.map P6 x1))),(2,.sv (slc 4 (List.map eQ x2))),(3,.ptr 3 0),(7,.ptr 26 0),(8,.sv (.v (.int .i64 0))),(34,.sv (.v (.bool j9)))] [(26,⟨79,[.sv (.v (.bool oL)),.sv (.v (.int .i64 oM)),.row 304,.row 305,.row 306]⟩),(3,⟨25,[.sv (.v (.int .i64 aA)),.sv (slc 1 (List.map (eS 4 eQ) aB)),.sv (slc 1 (List.map (eS 4 eQ) aK)),.sv (slc 4 (List.map eQ aL))]⟩)] [(304,TR 23 1 (eS 4 eQ) B5),(305,TR 3 1 bU B6),(306,TR 23 1 (eS 4 eQ) O6)]) (fun h=>?_) (fun O7 h=>?_)
 refine af<|mv rfl<|ne false rfl rfl (by decide)<|mv rfl<|bE h fun Pb agh h=>RT.move (.some rfl rfl) (s:=.ptr _ _) rfl T<|RT.Oh (.some rfl rfl) rfl rfl T ?_
 obtain rfl:=O (F agh)
 exact pF rfl<|dn<|⟨false,h,wR []⟩
 try dsimp only
 refine ae.n ?_
 cases O7
 refine fs<|qq<|sr<|ag rfl<|dn<|bE (F h) fun e33 agi dH=>?_
 refine aV (fun(Jl:(List (List Qr))×(List Int)×(List (List Qr)))=>AS.bG 120 [(2,.sv (slc 4 (List.map eQ x2))),(3,.ptr 3 0),(7,.ptr 26 0)] [(26,⟨79,[.sv (.v (.bool oL)),.sv (.v (.int .i64 oM)),.row 313,.row 314,.row 315]⟩),(3,⟨25,[.sv (.v (.int .i64 aA)),.sv (slc 1 (List.map (eS 4 eQ) aB)),.sv (slc 1 (List.map (eS 4 eQ) aK)),.sv (slc 4 (List.map eQ aL))]⟩)] [(313,TR 23 1 (eS 4 eQ) Jl.1),(314,TR 3 1 bU Jl.2.1),(315,TR 23 1 (eS 4 eQ) Jl.2.2)]) (fun Jl=>Jl=e33) ?_ (fun Jl agj=>?_)
 refine aq ?_
 refine aW agi (fun Qe=>AS.bG 120 [(1,.sv (slc 2 (List.map P6 x1))),(2,.sv (slc 4 (List.map eQ x2))),(3,.ptr 3 0),(7,.ptr 26 0),(9,.sv (.v (.int .i64 Qe.1)))] [(26,⟨79,[.sv (.v (.bool oL)),.sv (.v (.int .i64 oM)),.row 313,.row 314,.row 315]⟩),(3,⟨25,[.sv (.v (.int .i64 aA)),.sv (slc 1 (List.map (eS 4 eQ) aB)),.sv (slc 1 (List.map (eS 4 eQ) aK)),.sv (slc 4 (List.map eQ aL))]⟩)] [(313,TR 23 1 (eS 4 eQ) Qe.2.1),(314,TR 3 1 bU Qe.2.2.1),(315,TR 23 1 (eS 4 eQ) Qe.2.2.2)]) (cS (fun i=>bif Nat.beq i 313 then 304 else bif Nat.beq i 314 then 305 else bif Nat.beq i 315 then 306 else i) rfl rfl rfl rfl rfl ⟨.sv (SV.aa _),.sv (SV.aa _),.ptr,.ptr,.sv (SV.aa _),trivial⟩ ⟨⟨_,rfl,⟨.sv (SV.aa _),.sv (SV.aa _),.row rfl,.row rfl,.row rfl,trivial⟩⟩,⟨_,rfl,⟨.sv (SV.aa _),.sv (SV.aa _),.sv (SV.aa _),.sv (SV.aa _),trivial⟩⟩,trivial⟩ ⟨⟨_,rfl,bV.refl _⟩,⟨_,rfl,bV.refl _⟩,⟨_,rfl,bV.refl _⟩,trivial⟩ (fun i hi=>by rw[bQ (show i≠313 by omega)];rw[bQ (show i≠314 by omega)];rw[bQ (show i≠315 by omega)];rfl)) (fun Qe y33 G33 h agk agl=>?_)
 obtain⟨vX,sn,sq,su⟩:=Qe
 try dsimp only
 refine qq<|sr<|mv rfl<|mv rfl<|lE h fun sL vo h=>ln rfl vo<|lE h fun rK h48 h=>ls _ rfl rfl h48<|dn ?_
 cases rK
 refine cF<|aZ<|ae.x<|ae.x<|aG.x<|ae.n ?_
 obtain rfl:=O (F h)
 exact⟨(sn,sq,su),agl _ rfl,wR []⟩
 refine cT<|aE<|ae.n<|qq<|aq<|ai mixed<|mo (s:=.ptr _ _) rfl<|mv rfl<|mv rfl ?_
 obtain⟨⟨Kg,TT⟩,Fo,h⟩:=bS (V h)
 refine ix rfl rfl Fo<|RT.aT .none rfl T rfl<|lr rfl rfl<|mv rfl<|mv rfl ?_
 obtain⟨⟨Ek,zJ⟩,NB,h⟩:=bS h
 refine ix rfl rfl NB<|RT.aT .none rfl T rfl<|lr rfl rfl ?_
 obtain⟨⟨x62,l37,Im,l39⟩,Zy,h⟩:=bS h
 refine RT.JY .none (gQ Zy) 26 [313,314,315] [325,326,327] rfl ⟨rfl,rfl,rfl,trivial⟩ (by decide) (by decide) rfl ⟨⟨rfl,T⟩,⟨rfl,T⟩,⟨rfl,T⟩,trivial⟩ rfl rfl (.cons rfl (.cons rfl (.cons rfl (.nil)))) T ?_
 refine RT.done ⟨by kernel_rfl,?_⟩
 refine aG.n<|ae.n<|af<|mv rfl<|lE h fun sM BA h=>ad _ rfl rfl BA<|ag rfl<|RT.done ?_
 obtain rfl:=O h
 exact ae.n ⟨(sM,l37,Im,l39),agk _ rfl,cS (fun i=>bif Nat.beq i 313 then 325 else bif Nat.beq i 314 then 326 else bif Nat.beq i 315 then 327 else i) rfl rfl rfl rfl rfl ⟨.sv (SV.aa _),.sv (SV.aa _),.ptr,.ptr,.sv (SV.aa _),trivial⟩ ⟨⟨_,rfl,⟨.sv (SV.aa _),.sv (SV.aa _),.row rfl,.row rfl,.row rfl,trivial⟩⟩,⟨_,rfl,⟨.sv (SV.aa _),.sv (SV.aa _),.sv (SV.aa _),.sv (SV.aa _),trivial⟩⟩,trivial⟩ ⟨⟨_,rfl,bV.refl _⟩,⟨_,rfl,bV.refl _⟩,⟨_,rfl,bV.refl _⟩,trivial⟩ (fun i hi=>by rw[bQ (show i≠313 by omega)];rw[bQ (show i≠314 by omega)];rw[bQ (show i≠315 by omega)];rfl)⟩
 subst agj
 obtain⟨sw,sy,sB⟩:=Jl
 try dsimp only
 refine ae.n<|sr<|mo (s:=.ptr _ _) rfl<|bE dH fun L5 h64 dH=>RT.jk .none (sS h64) 26 [313,314,315] rfl ⟨rfl,rfl,rfl,trivial⟩ (by decide) rfl rfl (.cons rfl (.nil)) T<|ag rfl<|dn<|qq<|qq ?_
 refine aF dH (fun j45=>AS.bG 120 [(2,.sv (slc 4 (List.map eQ x2))),(3,.ptr 3 0),(7,.ptr 26 0),(10,.sv (slc 4 (List.map eQ L5))),(90,.sv (.v (.bool j45)))] [(26,⟨79,[.sv (.v (.bool oL)),.sv (.v (.int .i64 oM)),.row 313,.row 314,.row 315]⟩),(3,⟨25,[.sv (.v (.int .i64 aA)),.sv (slc 1 (List.map (eS 4 eQ) aB)),.sv (slc 1 (List.map (eS 4 eQ) aK)),.sv (slc 4 (List.map eQ aL))]⟩)] [(313,TR 23 1 (eS 4 eQ) sw),(314,TR 3 1 bU sy),(315,TR 23 1 (eS 4 eQ) sB)]) (fun dH=>?_) (fun Jk dH=>?_)
 refine ai mixed<|mv rfl<|lE dH fun Il Vt dH=>ln rfl Vt<|fa rfl rfl<|lV rfl rfl rfl<|lE dH fun IL Vu dH=>ne _ rfl rfl (ER (p:=Il) (q:=aA) Vu)<|mv rfl<|bE dH fun Pa HP dH=>?_
 cases IL
 refine RT.move (.some rfl rfl) (s:=.ptr _ _) rfl T<|bE (F HP) fun IN QV HP=>RT.jk (.some rfl rfl) (nM QV) 26 [313,314,315] rfl ⟨rfl,rfl,rfl,trivial⟩ (by decide) rfl rfl (.cons rfl (.nil)) T<|gl rfl rfl (.cons rfl (.cons rfl (.cons rfl (.cons rfl (.nil)))))<|gm rfl<|bE HP fun x75 h75 HP=>gc (ux h75) ⟨rfl,rfl,trivial⟩<|lE HP fun Yw h76 HP=>RT.Ip (.some rfl rfl) _ rfl rfl T h76 ?_
 obtain rfl:=O HP
 refine pF rfl<|mv rfl<|bE dH fun agm vD dH=>?_
 cases Yw
 refine RT.move (.some rfl rfl) (s:=.ptr _ _) rfl T<|bE (F vD) fun x80 h80 vD=>RT.jk (.some rfl rfl) (si h80) 26 [313,314,315] rfl ⟨rfl,rfl,rfl,trivial⟩ (by decide) rfl rfl (.cons rfl (.nil)) T<|gl rfl rfl (.cons rfl (.cons rfl (.cons rfl (.cons rfl (.nil)))))<|gm rfl<|bE vD fun x83 h83 vD=>RT.SE (.some rfl rfl) (Ab h83) rfl ⟨rfl,rfl,trivial⟩ T rfl T ?_
 obtain⟨⟨⟨TV,TW⟩,⟨TX,TY⟩⟩,ZA,vD⟩:=bS vD
 refine gc (gC ZA) ⟨rfl,trivial⟩<|gm rfl<|bE vD fun M7 VH vD=>gc (xI VH) ⟨rfl,rfl,trivial⟩<|bE vD fun L3 VI vD=>RT.QA (k:=M7) (e:=eQ) (.some rfl rfl) rfl rfl rfl T rfl T VI<|bE vD fun x88 h88 vD=>gc (fC h88) ⟨rfl,rfl,trivial⟩<|lE vD fun QK ZC vD=>LZ rfl _ ZC ?_
 obtain rfl:=O vD
 refine pF rfl ?_
 refine RT.done ⟨by kernel_rfl,?_⟩
 exact ae.n<|⟨QK,dH,wR []⟩
 obtain rfl:=O (V vD)
 refine ww<|ww<|ww<|ww<|ww<|ww<|ww<|ww<|ww<|ww<|ww<|pT rfl ?_
 refine RT.done ⟨by kernel_rfl,?_⟩
 exact ae.n<|⟨true,dH,wR []⟩
 obtain rfl:=O (V HP)
 refine ww<|ww<|ww<|ww<|ww<|ww<|pT rfl<|mv rfl<|bE dH fun agn ago dH=>?_
 obtain rfl:=O (V ago)
 refine ww<|ww<|ww<|ww<|ww<|ww<|ww<|ww<|ww<|ww<|ww<|pT rfl ?_
 refine RT.done ⟨by kernel_rfl,?_⟩
 exact ae.n<|⟨true,dH,wR []⟩
 try dsimp only
 refine ae.n ?_
 cases Jk
 refine fs<|qq ?_
 refine aF (F dH) (fun j66=>AS.bG 120 [(6,.sv (.v (.bool j66)))] [] []) (fun dH=>?_) (fun TU dH=>?_)
 refine af<|mo (s:=.ptr _ _) rfl<|bE dH fun Yh ZE dH=>RT.jk .none (nM ZE) 26 [313,314,315] rfl ⟨rfl,rfl,rfl,trivial⟩ (by decide) rfl rfl (.cons rfl (.nil)) T<|lE dH fun QL ZF dH=>nt rfl _ ZF<|mv rfl<|bE dH fun O9 wZ dH=>?_
 cases QL
 refine RT.move (.some rfl rfl) (s:=.ptr _ _) rfl T<|bE (F wZ) fun x96 h96 wZ=>RT.jk (.some rfl rfl) (oT h96) 26 [313,314,315] rfl ⟨rfl,rfl,rfl,trivial⟩ (by decide) rfl rfl (.cons rfl (.nil)) T<|lE wZ fun UY ZG wZ=>LZ rfl _ ZG ?_
 obtain rfl:=O wZ
 refine pF rfl<|mv rfl<|bE dH fun ab2 DB dH=>?_
 cases UY
 refine gl rfl rfl (.cons rfl (.cons rfl (.cons rfl (.cons rfl (.nil)))))<|gm rfl<|bE (F DB) fun Lg NG DB=>gc (ux NG) ⟨rfl,rfl,trivial⟩<|lE DB fun Bo IX DB=>LZ rfl _ IX ?_
 obtain rfl:=O DB
 refine pF rfl<|mv rfl<|bE dH fun ab3 DA dH=>?_
 cases Bo
 refine gl rfl rfl (.cons rfl (.cons rfl (.cons rfl (.cons rfl (.nil)))))<|gm rfl<|gm rfl<|bE (F DA) fun aaK agp DA=>gc (Ds agp) ⟨rfl,rfl,rfl,trivial⟩<|lE DA fun Xn agq DA=>RT.lss (.some rfl rfl) _ rfl rfl T agq ?_
 obtain rfl:=O DA
 refine pF rfl<|mv rfl<|bE dH fun ab4 CF dH=>?_
 cases Xn
 refine gm rfl<|gm rfl<|bE (F CF) fun Xo agr CF=>gc (fC agr) ⟨rfl,rfl,trivial⟩ ?_
 obtain rfl:=O CF
 refine pF rfl<|mv rfl<|bE dH fun ab5 Ry dH=>?_
 cases Xo
 obtain rfl:=O (F Ry)
 exact ww<|pF rfl<|ag rfl<|dn<|⟨false,dH,wR []⟩
 refine bE (V Ry) fun CH F1 Ry=>gc (eV F1) trivial ?_
 obtain rfl:=O Ry
 exact pT rfl<|ag rfl<|dn<|⟨CH,dH,wR []⟩
 obtain rfl:=O (V CF)
 refine ww<|ww<|ww<|pT rfl<|mv rfl<|bE dH fun ab6 Xs dH=>bE (V Xs) fun CH F1 Xs=>gc (eV F1) trivial ?_
 obtain rfl:=O Xs
 exact pT rfl<|ag rfl<|dn<|⟨CH,dH,wR []⟩
 obtain rfl:=O (V DA)
 refine ww<|ww<|ww<|ww<|ww<|pT rfl<|mv rfl<|bE dH fun ab7 Al dH=>?_
 obtain rfl:=O (V Al)
 refine ww<|ww<|ww<|pT rfl<|mv rfl<|bE dH fun ab8 vA dH=>bE (V vA) fun CH F1 vA=>gc (eV F1) trivial ?_
 obtain rfl:=O vA
 exact pT rfl<|ag rfl<|dn<|⟨CH,dH,wR []⟩
 obtain rfl:=O (V DB)
 refine ww<|ww<|ww<|ww<|pT rfl<|mv rfl<|bE dH fun ab9 HK dH=>?_
 obtain rfl:=O (V HK)
 refine ww<|ww<|ww<|ww<|ww<|pT rfl<|mv rfl<|bE dH fun acd Ak dH=>?_
 obtain rfl:=O (V Ak)
 refine ww<|ww<|ww<|pT rfl<|mv rfl<|bE dH fun ace Dz dH=>bE (V Dz) fun CH F1 Dz=>gc (eV F1) trivial ?_
 obtain rfl:=O Dz
 exact pT rfl<|ag rfl<|dn<|⟨CH,dH,wR []⟩
 obtain rfl:=O (V wZ)
 refine ww<|ww<|ww<|pT rfl<|mv rfl<|bE dH fun acf HI dH=>?_
 obtain rfl:=O (V HI)
 refine ww<|ww<|ww<|ww<|pT rfl<|mv rfl<|bE dH fun acg HJ dH=>?_
 obtain rfl:=O (V HJ)
 refine ww<|ww<|ww<|ww<|ww<|pT rfl<|mv rfl<|bE dH fun ach Xa dH=>?_
 obtain rfl:=O (V Xa)
 refine ww<|ww<|ww<|pT rfl<|mv rfl<|bE dH fun aci FZ dH=>bE (V FZ) fun CH F1 FZ=>gc (eV F1) trivial ?_
 obtain rfl:=O FZ
 exact pT rfl<|ag rfl<|dn<|⟨CH,dH,wR []⟩
 try dsimp only
 refine ae.n<|aj ?_
 obtain rfl:=O dH
 exact R1 rfl
 refine cT<|sr<|ag rfl<|dn<|aj<|ae.r ?_
 obtain rfl:=O (V dH)
 exact R1 rfl
 refine cT<|qq ?_
 refine aF (V h) (fun j18=>AS.bG 120 [(6,.sv (.v (.bool j18)))] [] []) (fun h=>?_) (fun TS h=>?_)
 refine af<|mv rfl<|eq false rfl rfl (by decide)<|mv rfl<|bE h fun O8 vw h=>?_
 obtain rfl:=O (F vw)
 refine ww<|ww<|ww<|pF rfl<|mv rfl<|bE h fun ags Ls h=>?_
 obtain rfl:=O (F Ls)
 exact ww<|pF rfl<|ag rfl<|dn<|⟨false,h,wR []⟩
 try dsimp only
 refine ae.n<|aj<|ae.r ?_
 obtain rfl:=O h
 exact R1 rfl
 refine cT<|sr<|bE (V h) fun jw pz h=>cl (eV pz) trivial<|ag rfl<|dn<|aj<|ae.r ?_
 obtain rfl:=O h
 exact R1 rfl
end Go.Proofs.YtningmnklfpfjaaGreat
namespace Go.Proofs.YtningmnklfpfjaaGreat
open Go.Fw Go.Fw.Z Go.RowKit
theorem ql{x0:Lr}{x1:List Pv}{x2:List Qr}{r:Bool}(h:fg x0 x1 x2=some r):Pure Tryz.prog 6 [.agg (DO x0),slc 2 (List.map P6 x1),slc 4 (List.map eQ x2)] (.v (.bool r)):=by
 obtain⟨aA,aB,aK,aL⟩:=x0
 refine ay Tryz.func6 rfl (Nat.le_of_ble_eq_true rfl) (fun cE M vs hvs=>?_)
 unfold fg at h
 refine sr<|bx rfl<|ag rfl<|dn<|qq<|qq ?_
 refine aF h (fun j6=>AS.bG 120 [(1,.sv (slc 2 (List.map P6 x1))),(2,.sv (slc 4 (List.map eQ x2))),(3,.ptr 3 0),(22,.sv (.v (.bool j6)))] [(3,⟨25,[.sv (.v (.int .i64 aA)),.sv (slc 1 (List.map (eS 4 eQ) aB)),.sv (slc 1 (List.map (eS 4 eQ) aK)),.sv (slc 4 (List.map eQ aL))]⟩)] []) (fun h=>?_) (fun CG h=>?_)
 refine af<|ld rfl rfl (.cons rfl (.cons rfl (.cons rfl (.cons rfl (.nil)))))<|bE h fun dh ey h=>cl (vW ey) ⟨rfl,trivial⟩<|mv rfl<|bE h fun Pe ko h=>?_
 cases dh
 refine gm rfl<|lE (F ko) fun dQ fN ko=>gn rfl fN<|lE ko fun gy jA ko=>gg _ rfl rfl jA ?_
 obtain rfl:=O ko
 refine pF rfl<|mv rfl<|bE h fun Xl vw h=>?_
 cases gy
 refine gm rfl<|RT.eF (l:=[x2]) (e:=(eS 4 eQ)) (.some rfl rfl) (.one rfl (.nil)) T rfl rfl rfl rfl rfl rfl<|bE (F vw) fun gz mH vw=>gc (gR mH) ⟨rfl,trivial⟩ ?_
 obtain rfl:=O vw
 exact pF rfl<|dn<|⟨gz,h,wR []⟩
 obtain rfl:=O (V vw)
 exact ww<|ww<|ww<|pT rfl<|dn<|⟨true,h,wR []⟩
 obtain rfl:=O (V ko)
 exact ww<|ww<|ww<|pT rfl<|mv rfl<|ww<|ww<|ww<|pT rfl<|dn<|⟨true,h,wR []⟩
 try dsimp only
 refine ae.n ?_
 cases CG
 refine fs<|sr<|ld rfl rfl (.cons rfl (.cons rfl (.cons rfl (.cons rfl (.nil)))))<|bE (F h) fun _ nY h=>cl (HO nY) ⟨rfl,trivial⟩<|mv rfl<|ex rfl rfl<|ex rfl rfl<|ag rfl<|ag rfl<|dn<|qq<|sr<|mv rfl<|ne true rfl rfl (by decide)<|mv rfl<|ww<|ww<|pT rfl<|dn<|cT ?_
 refine qq ?_
 refine aF h (fun j15=>AS.bG 120 [(6,.sv (.v (.bool j15)))] [] []) (fun h=>?_) (fun TZ h=>?_)
 refine af<|mv rfl<|eq true rfl rfl (by decide)<|mv rfl<|gl rfl rfl (.cons rfl (.cons rfl (.cons rfl (.cons rfl (.nil)))))<|bE h fun rj z4 h=>gc (pS z4) ⟨rfl,trivial⟩<|lE h fun kg mQ h=>LZ rfl _ mQ<|pT rfl<|mv rfl<|bE h fun Pd jr h=>?_
 cases kg
 obtain rfl:=O (F jr)
 exact ww<|pF rfl<|ag rfl<|dn<|⟨false,h,wR []⟩
 refine bE (V jr) fun ri AA jr=>gc (eV AA) trivial ?_
 obtain rfl:=O jr
 exact pT rfl<|ag rfl<|dn<|⟨ri,h,wR []⟩
 try dsimp only
 refine ae.n<|aj<|ae.r ?_
 obtain rfl:=O h
 exact R1 rfl
 refine cT<|sr<|bE (V h) fun jw pz h=>cl (eV pz) trivial<|ag rfl<|dn<|aj<|ae.r ?_
 obtain rfl:=O h
 exact R1 rfl
end Go.Proofs.YtningmnklfpfjaaGreat
namespace Go.Proofs.YtningmnklfpfjaaGreat
open Go.Fw Go.Fw.Z Go.RowKit
theorem qL{x0:Lr}{x1:List Pv}{x2:List Qr}{r:Bool}(h:fD x0 x1 x2=some r):Pure Tryz.prog 6 [.agg (DO x0),slc 2 (List.map P6 x1),slc 4 (List.map eQ x2)] (.v (.bool r)):=by
 unfold fD at h
 split at h
 ·exact qk h
 ·exact ql h
end Go.Proofs.YtningmnklfpfjaaGreat
namespace Go.Fw
theorem uZ{n:Nat}(h:n≤9223372036854775807):IntKind.i64.wrap (n:Int)=n:=k7 (by omega)
theorem cz{x:Int}(h: -9223372036854775808≤x)(h':x≤9223372036854775807):IntKind.i64.wrap x=x:=k7 ⟨h,h'⟩
theorem bw{n:Nat}(h:n<9223372036854775807):IntKind.i64.wrap ((n:Int)+1)=((n+1:Nat):Int):=by rw[k7 (by omega)];simp
theorem u0{n m:Nat}(h:n+m≤9223372036854775807):IntKind.i64.wrap ((n:Int)+(m:Int))=((n+m:Nat):Int):=by rw[k7 (by omega)];simp
theorem HQ{n:Nat}(h:n≤9223372036854775807):IntKind.i64.wrap (((n+1:Nat):Int)-1)=(n:Int):=by rw[k7 (by omega)];omega
theorem aQ{α:Type}{l:List α}{i:Nat}{a:α}(h:l[i]? =some a):cC l (i:Int)=some a:=by simp[cC,h]
theorem ze{α:Type}{l:List α}{a:α}(h:l[0]? =some a):cC l 0=some a:=by simp[cC,h]
theorem Pf{α:Type}{l:List α}{a:α}(h:l[1]? =some a):cC l 1=some a:=by simp[cC,h]
theorem cf{α:Type}{l:List α}{i:Nat}(h:i<l.length):pG l (i:Int)=some i:=by simp[pG,h]
theorem fE{α:Type}{l:List α}{i:Nat}{y:α}(h:i<l.length):stM l i y=some (l.set i y):=by simp[stM,h]
theorem Pg{α:Type}{b:Nat}{l k:List α}(h:(l.length+k.length)*b≤140737488355328)(h':l.length+k.length≤140737488355328):Av b l k=some (l++k):=by simp[Av,h,h']
theorem DF{α:Type}{b:Nat}{l:List α}{x:α}(hb:b≤100)(h:l.length≤1000000000000):Av b l [x]=some (l++[x]):=by
 apply Pg
 ·have:(l.length+[x].length)*b≤1000000000001*100:=Nat.mul_le_mul (by simp;omega) hb
  omega
 ·simp;omega
theorem aaL{α:Type}{b:Nat}{l k:List α}(hb:b≤100)(h:l.length+k.length≤1000000000000):Av b l k=some (l++k):=by
 apply Pg
 ·have:(l.length+k.length)*b≤1000000000000*100:=Nat.mul_le_mul h hb
  omega
 ·omega
theorem CI{α:Type}{b:Nat}{n:Nat}(hb:b≤100)(h:n≤1000000000000):MF (α:=α) b (n:Int)=some []:=by
 have:b*n≤100*1000000000000:=Nat.mul_le_mul hb h
 have h2:(b:Int)*(n:Int)=((b*n:Nat):Int):=by simp
 unfold MF
 rw[h2,if_pos ⟨by omega,by omega,by omega⟩]
theorem sD{α:Type}{b:Nat}{n:Nat}{z:α}(hb:b≤100)(h:n≤1000000000000):CZ b (n:Int) z=some (List.replicate n z):=by
 have:b*n≤100*1000000000000:=Nat.mul_le_mul hb h
 have h2:(b:Int)*(n:Int)=((b*n:Nat):Int):=by simp
 unfold CZ
 rw[h2,if_pos ⟨by omega,by omega,by omega⟩,Int.toNat_natCast]
theorem Ph{α:Type}{l:List α}{i j:Nat}(h:i≤j)(h':j≤l.length):zT l (i:Int) (j:Int)=some (cut l i j):=by
 unfold zT;rw[if_pos ⟨by omega,by omega,by omega⟩];simp
theorem qM{α:Type}{l:List α}{j:Nat}(h':j≤l.length):zT l 0 (j:Int)=some (l.take j):=by
 have:=Ph (l:=l) (i:=0) (j:=j) (by omega) h'
 simpa[cut]using this
theorem sE{M a b:Nat}(h:b≤a)(h':a<M):pg M a b=a-b:=by
 unfold pg;rw[show(a:Int)-(b:Int)=((a-b:Nat):Int) by omega,←Int.natCast_emod,Int.toNat_natCast,Nat.mod_eq_of_lt (by omega)]
theorem AF{M a b:Nat}(h:a<b)(h':b≤M):pg M a b=M+a-b:=by
 unfold pg
 have:((a:Int)-(b:Int))%(M:Int)=((M+a-b:Nat):Int):=by
  rw[←Int.add_emod_right (a:=(a:Int)-b),show(a:Int)-(b:Int)+(M:Int)=((M+a-b:Nat):Int) by omega,←Int.natCast_emod,Nat.mod_eq_of_lt (by omega)]
 rw[this,Int.toNat_natCast]
theorem AG{o n i:Nat}(h:i<n):P8 o n (i:Int)=some (o+i):=by simp[P8,h]
theorem qN{α:Type}{l l':List α}(h:l'.length=l.length):vM l l'=some ():=by simp[vM,h]
theorem F2{M a b:Nat}(h:b≠0)(h':a<M):EP M a b=some (a/b):=by
 unfold EP;rw[if_neg h,Nat.mod_eq_of_lt (Nat.lt_of_le_of_lt (Nat.div_le_self _ _) h')]
theorem AH{a b:Nat}(h:b≠0):C9 a b=some (a%b):=by unfold C9;rw[if_neg h]
theorem bL{α β:Type}{a:α}{f:α→Option β}:Option.bind (some a) f=f a:=by
 have h:∀o,o=some a→Option.bind o f=f a:=by intro o ho;rw[ho];rfl
 exact h _ rfl
theorem jl{α:Type}{x y:α}:(bif true then x else y)=x:=by
 have h:∀b,b=true→(bif b then x else y)=x:=by intro b hb;rw[hb];rfl
 exact h _ rfl
theorem jN{α:Type}{x y:α}:(bif false then x else y)=y:=by
 have h:∀b,b=false→(bif b then x else y)=y:=by intro b hb;rw[hb];rfl
 exact h _ rfl
theorem oh{S E R:Type}{body:S→Option (S⊕E)}{s:S}{f:E→Option R}{r:R}(I:S→Prop)(Post:E→Prop)(μ:S→Nat)
  (step:∀s,I s→(∃s',body s=some (.inl s')∧I s'∧μ s'<μ s)∨(∃e,body s=some (.inr e)∧Post e)) (h:I s) (hf:∀e,Post e→f e=some r):(bT body s).bind f=some r:=by
 obtain⟨e,h1,h2⟩:=yy I Post μ step h
 rw[h1];exact hf e h2
theorem n9{S E R:Type}{body:S→Option (S⊕E)}{s:S}{f:E→Option R}{Q:R→Prop}(I:S→Prop)(Post:E→Prop)(μ:S→Nat)
  (step:∀s,I s→(∃s',body s=some (.inl s')∧I s'∧μ s'<μ s)∨(∃e,body s=some (.inr e)∧Post e)) (h:I s) (hf:∀e,Post e→∃r,f e=some r∧Q r):∃r,(bT body s).bind f=some r∧Q r:=by
 obtain⟨e,h1,h2⟩:=yy I Post μ step h
 rw[h1];exact hf e h2
theorem aY{S E R:Type}{body:S→Option (S⊕E)}{s:S}{f:E→Option R}{r:R}(st:Nat→S)(n:Nat)(e:E)(h0:s=st 0)(hs:∀k,k<n→body (st k)=some (.inl (st (k+1))))(he:body (st n)=some (.inr e))(hf:f e=some r):(bT body s).bind f=some r:=by
 rw[h0,MJ st n hs he];exact hf
theorem oV{S R:Type}{body:Nat→S→Option S}{s:S}{f:S→Option R}{r:R}(st:Nat→S){n:Nat}(h0:s=st 0)(hs:∀k,k<n→body k (st k)=some (st (k+1)))(hf:f (st n)=some r):(ou body n s).bind f=some r:=by
 rw[h0,DR st n hs];exact hf
theorem bind_eq{α β:Type}{x:Option α}{a:α}{f:α→Option β}{r:Option β}(h:x=some a)(hf:f a=r):x.bind f=r:=by rw[h];exact hf
theorem bf{α:Type}{b:Bool}{x y r:α}(hb:b=true)(h:x=r):(bif b then x else y)=r:=by rw[hb];exact h
theorem aO{α:Type}{b:Bool}{x y r:α}(hb:b=false)(h:y=r):(bif b then x else y)=r:=by rw[hb];exact h
end Go.Fw
namespace Go.Fw
def val(B:Nat):List Nat→Nat
 |[]=>0
 |x::l=>x+B*val B l
def fF(B:Nat):Nat→Nat→List Nat
 |0,_=>[]
 |n+1,v=>v%B::fF B n (v/B)
def lS(ws:List Nat):List Nat:=(ws.reverse.dropWhile (· ==0)).reverse
def can(B v:Nat):List Nat:=lS (fF B v v)
theorem bk(B:Nat):∀n v,(fF B n v).length=n
 |0,_=>rfl
 |n+1,v=>by simp[fF,bk B n]
theorem lT(B:Nat):∀n v,val B (fF B n v)=v%B^n
 |0,v=>by simp[fF,val,Nat.mod_one]
 |n+1,v=>by
  rw[fF,val,lT B n,Nat.pow_succ,Nat.mul_comm (B^n) B,Nat.mod_mul]
theorem nN{B:Nat}(hB:0<B):∀(n v x:Nat),x∈fF B n v→x<B
 |n+1,v,x,h=>by
  rcases List.mem_cons.1 h with rfl|h
  ·exact Nat.mod_lt _ hB
  ·exact nN hB n _ x h
theorem jm{B:Nat}:∀(l:List Nat),(∀x∈l,x<B)→val B l<B^l.length
 |[],_=>by simp[val]
 |x::l,h=>by
  have h1:=jm l (fun y hy=>h y (List.mem_cons_of_mem _ hy))
  have h2:=h x (by simp)
  rw[val,List.length_cons,Nat.pow_succ]
  calc x+B*val B l<B+B*val B l:=by omega
   _=B*(val B l+1):=by rw[Nat.mul_add];omega
   _≤B*B^l.length:=Nat.mul_le_mul_left _ h1
   _=B^l.length*B:=Nat.mul_comm _ _
theorem AI{B:Nat}:∀(l:List Nat),(∀x∈l,x<B)→fF B l.length (val B l)=l
 |[],_=>rfl
 |x::l,h=>by
  have h2:=h x (by simp)
  have hB:0<B:=by omega
  rw[List.length_cons,fF,val,Nat.add_mul_mod_self_left,Nat.mod_eq_of_lt h2,Nat.add_mul_div_left _ _ hB,Nat.div_eq_of_lt h2,Nat.zero_add,AI l (fun y hy=>h y (List.mem_cons_of_mem _ hy))]
theorem xX{B:Nat}:∀(n v j:Nat),j<n→(fF B n v)[j]? =some (v/B^j%B)
 |n+1,v,0,_=>by simp[fF]
 |n+1,v,j+1,h=>by
  rw[fF,List.getElem?_cons_succ,xX n _ j (by omega),Nat.div_div_eq_div_mul,Nat.pow_succ,Nat.mul_comm B]
theorem F3{B:Nat}:∀(a b:List Nat),val B (a++b)=val B a+B^a.length*val B b
 |[],b=>by simp[val]
 |x::a,b=>by
  rw[List.cons_append,val,val,F3 a b,List.length_cons,Nat.pow_succ,Nat.mul_add,Nat.add_assoc,Nat.mul_comm (B^a.length) B,Nat.mul_assoc]
theorem oW{B:Nat}:∀(n v:Nat),fF B (n+1) v=fF B n v++[v/B^n%B]
 |0,v=>by simp[fF]
 |n+1,v=>by
  rw[fF,oW n,fF,List.cons_append,Nat.div_div_eq_div_mul,Nat.pow_succ,Nat.mul_comm B]
theorem uH(B:Nat):∀k,fF B k 0=List.replicate k 0
 |0=>rfl
 |k+1=>by rw[fF,Nat.zero_mod,Nat.zero_div,uH B k];rfl
theorem CJ{B:Nat}(hB:0<B):∀(n k v:Nat),v<B^n→fF B (n+k) v=fF B n v++List.replicate k 0
 |0,k,v,h=>by
  have:v=0:=by simpa using h
  subst this;rw[Nat.zero_add,uH];rfl
 |n+1,k,v,h=>by
  rw[show n+1+k=n+k+1 by omega,fF,fF,List.cons_append,CJ hB n k (v/B) (by rw[Nat.div_lt_iff_lt_mul hB];rwa[Nat.pow_succ]at h)]
theorem sF{B:Nat}(hB:2≤B):∀v,v<B^v
 |0=>by simp
 |v+1=>by
  have:=sF hB v
  rw[Nat.pow_succ]
  have h2:B^v*2≤B^v*B:=Nat.mul_le_mul_left _ hB
  omega
theorem sG(l:List Nat):lS (l++[0])=lS l:=by simp[lS]
theorem uI(l:List Nat):∀k,lS (l++List.replicate k 0)=lS l
 |0=>by simp
 |k+1=>by rw[List.replicate_succ',←List.append_assoc,sG,uI l k]
theorem w5(l:List Nat){x:Nat}(h:x≠0):lS (l++[x])=l++[x]:=by simp[lS,h]
theorem w6(xs:List Nat):xs=[]∨(∃ys,xs=ys++[0])∨(∃ys y,y≠0∧xs=ys++[y]):=by
 rcases List.eq_nil_or_concat xs with rfl|⟨ys,y,rfl⟩
 ·exact .inl rfl
 ·by_cases hy:y=0
  ·subst hy;exact .inr (.inl ⟨ys,by simp⟩)
  ·exact .inr (.inr ⟨ys,y,hy,by simp⟩)
theorem zg:∀(n:Nat) (l:List Nat),l.length=n→∃k,l=lS l++List.replicate k 0:=by
 intro n
 induction n with
 |zero=>intro l h;obtain rfl:=List.length_eq_zero_iff.1 h;exact⟨0,rfl⟩
 |succ n ih=>
  intro l h
  rcases w6 l with rfl|⟨ys,rfl⟩|⟨ys,y,hy,rfl⟩
  ·simp at h
  ·obtain⟨k,hk⟩:=ih ys (by simpa using h)
   refine⟨k+1,?_⟩
   rw[sG,List.replicate_succ',←List.append_assoc,←hk]
  ·exact⟨0,by rw[w5 _ hy];simp⟩
theorem LG{l:List Nat}{x:Nat}(h:x∈lS l):x∈l:=by
 obtain⟨k,hk⟩:=zg _ l rfl
 rw[hk];exact List.mem_append_left _ h
theorem El(l:List Nat):(lS l).length≤l.length:=by
 obtain⟨k,hk⟩:=zg _ l rfl
 have:=congrArg List.length hk
 rw[List.length_append]at this;omega
theorem Em(B:Nat):∀k,val B (List.replicate k 0)=0
 |0=>rfl
 |k+1=>by rw[List.replicate_succ,val,Em B k];simp
theorem Pj(B:Nat)(l:List Nat):val B (lS l)=val B l:=by
 obtain⟨k,hk⟩:=zg _ l rfl
 conv=>rhs;rw[hk,F3,Em]
 simp
theorem HR{B:Nat}(hB:2≤B){n v:Nat}(h:v<B^n):lS (fF B n v)=can B v:=by
 have hv:=sF hB v
 rcases Nat.le_total n v with hn|hn
 ·obtain⟨k,rfl⟩:=Nat.exists_eq_add_of_le hn
  rw[can,CJ (by omega) n k _ h,uI]
 ·obtain⟨k,rfl⟩:=Nat.exists_eq_add_of_le hn
  rw[can,CJ (by omega) v k _ hv,uI]
theorem qO{B:Nat}(hB:2≤B){l:List Nat}(h:∀x∈l,x<B):lS l=can B (val B l):=by
 conv=>lhs;rw[←AI l h]
 exact HR hB (jm l h)
theorem sH{B:Nat}(hB:2≤B)(v:Nat):val B (can B v)=v:=by
 rw[can,Pj,lT,Nat.mod_eq_of_lt (sF hB v)]
theorem lU{B:Nat}(hB:2≤B){v x:Nat}(h:x∈can B v):x<B:=nN (by omega) v v x (LG h)
theorem uJ(B:Nat):can B 0=[]:=rfl
theorem F4{B:Nat}(hB:2≤B){v:Nat}(h:can B v=[]):v=0:=by have:=sH hB v;rw[h]at this;exact this.symm
theorem Rz{B:Nat}(hB:2≤B){v n:Nat}(h:v<B^n):(can B v).length≤n:=by
 rw[←HR hB h]
 have:=El (fF B n v)
 rwa[bk]at this
theorem RA{B:Nat}(hB:2≤B)(v:Nat):lS (can B v)=can B v:=by
 rw[qO hB (fun x hx=>lU hB hx),sH hB]
theorem RB{B:Nat}(hB:2≤B)(v:Nat):can B v=fF B (can B v).length v:=by
 have:=AI (can B v) (fun x hx=>lU hB hx)
 rw[sH hB]at this;exact this.symm
theorem dI{B:Nat}(hB:2≤B)(v:Nat):v<B^(can B v).length:=by
 have:=jm (can B v) (fun x hx=>lU hB hx)
 rwa[sH hB]at this
theorem F5{B:Nat}(hB:2≤B){v j:Nat}(h:j<(can B v).length):(can B v)[j]? =some (v/B^j%B):=by
 rw[RB hB v]at h⊢
 rw[bk]at h
 exact xX _ _ _ h
theorem CK{B:Nat}(hB:2≤B){v j:Nat}(h:(can B v).length≤j):v/B^j=0:=by
 refine Nat.div_eq_of_lt (Nat.lt_of_lt_of_le (dI hB v) ?_)
 exact Nat.pow_le_pow_right (by omega) h
theorem HS{B:Nat}(hB:2≤B){v:Nat}(h:v≠0):∃l x,x≠0∧can B v=l++[x]:=by
 rcases w6 (can B v)with e|⟨ys,e⟩|⟨ys,y,hy,e⟩
 ·exact absurd (F4 hB e) h
 ·exfalso
  have h1:=RA hB v
  rw[e,sG]at h1
  have h2:=El ys
  rw[h1]at h2;simp at h2;omega
 ·exact⟨ys,y,hy,e⟩
theorem vY{B:Nat}(hB:2≤B){v n:Nat}(h:n<(can B v).length):B^n≤v:=by
 by_cases h0:v=0
 ·subst h0;simp[uJ]at h
 obtain⟨l,x,hx,e⟩:=HS hB h0
 have h1:=sH hB v
 rw[e,F3]at h1
 have hl:n≤l.length:=by rw[e]at h;simp at h;omega
 have h2:B^n≤B^l.length:=Nat.pow_le_pow_right (by omega) hl
 have h3:B^l.length≤B^l.length*val B [x]:=Nat.le_mul_of_pos_right _ (by simp[val];omega)
 omega
theorem eW{B:Nat}(hB:2≤B){v n:Nat}:(can B v).length≤n↔v<B^n:=by
 refine⟨fun h=>?_,Rz hB⟩
 exact Nat.lt_of_lt_of_le (dI hB v) (Nat.pow_le_pow_right (by omega) h)
theorem Pk{B:Nat}(hB:2≤B){l:List Nat}{x:Nat}(hx:x≠0)(h:∀y∈l++[x],y<B):l++[x]=can B (val B (l++[x])):=by
 rw[←qO hB h,w5 _ hx]
theorem qP{B:Nat}:∀(l:List Nat),(∀x∈l,x<B)→∀k,l.getD k 0=val B l/B^k%B
 |[],_,k=>by simp[val]
 |x::l,h,0=>by
  have h2:=h x (by simp)
  simp[val,Nat.add_mul_mod_self_left,Nat.mod_eq_of_lt h2]
 |x::l,h,k+1=>by
  have h2:=h x (by simp)
  have hB:0<B:=by omega
  rw[List.getD_cons_succ,qP l (fun y hy=>h y (List.mem_cons_of_mem _ hy)) k,val,Nat.pow_succ,Nat.mul_comm (B^k) B,←Nat.div_div_eq_div_mul,Nat.add_mul_div_left _ _ hB,Nat.div_eq_of_lt h2,Nat.zero_add]
theorem gJ(B V k:Nat):V%B^(k+1)=V%B^k+B^k*(V/B^k%B):=by
 rw[Nat.pow_succ,Nat.mod_mul]
def Gm(B V W k:Nat):Nat:=(V%B^k+W%B^k)/B^k
theorem Jm{B:Nat}(hB:0<B)(V W k:Nat):Gm B V W k≤1:=by
 have hP:0<B^k:=Nat.pow_pos hB
 have h1:=Nat.mod_lt V hP
 have h2:=Nat.mod_lt W hP
 have:Gm B V W k<2:=by rw[Gm,Nat.div_lt_iff_lt_mul hP];omega
 omega
theorem HT{B:Nat}(hB:0<B)(V W k:Nat):(V/B^k%B+W/B^k%B+Gm B V W k)/B=Gm B V W (k+1):=by
 have hP:0<B^k:=Nat.pow_pos hB
 rw[Gm,Gm,gJ,gJ,Nat.pow_succ,←Nat.div_div_eq_div_mul]
 congr 1
 rw[show V%B^k+B^k*(V/B^k%B)+(W%B^k+B^k*(W/B^k%B))=(V%B^k+W%B^k)+B^k*(V/B^k%B+W/B^k%B) by rw[Nat.mul_add];omega,Nat.add_mul_div_left _ _ hP]
 omega
theorem F6{B:Nat}(hB:0<B)(V W k:Nat):(V/B^k%B+W/B^k%B+Gm B V W k)%B=(V+W)/B^k%B:=by
 have hP:0<B^k:=Nat.pow_pos hB
 have h:(V+W)/B^k=V/B^k+W/B^k+Gm B V W k:=by
  have e1:=Nat.div_add_mod V (B^k)
  have e2:=Nat.div_add_mod W (B^k)
  rw[Gm]
  conv=>lhs;rw[←e1,←e2]
  rw[show B^k*(V/B^k)+V%B^k+(B^k*(W/B^k)+W%B^k)=(V%B^k+W%B^k)+B^k*(V/B^k+W/B^k) by rw[Nat.mul_add];omega,Nat.add_mul_div_left _ _ hP]
  omega
 rw[h]
 simp[Nat.add_mod]
theorem RC{B:Nat}{V W k:Nat}(hV:V<B^k)(hW:W<B^k):Gm B V W k=(V+W)/B^k:=by
 rw[Gm,Nat.mod_eq_of_lt hV,Nat.mod_eq_of_lt hW]
theorem HU(B V W:Nat):Gm B V W 0=0:=by simp[Gm,Nat.mod_one]
def Am(B V W k:Nat):Nat:=(V%B^k+B^k-W%B^k)/B^k
theorem HV(B V W:Nat):Am B V W 0=1:=by simp[Am,Nat.mod_one]
theorem Pm{B:Nat}(hB:0<B)(V W k:Nat):Am B V W k≤1:=by
 have hP:0<B^k:=Nat.pow_pos hB
 have h1:=Nat.mod_lt V hP
 have:Am B V W k<2:=by
  rw[Am,Nat.div_lt_iff_lt_mul hP]
  generalize W%B^k=y at*
  generalize V%B^k=x at*
  omega
 omega
theorem Kh{B:Nat}(hB:0<B)(V W k:Nat):V%B^(k+1)+B^(k+1)-W%B^(k+1)=(V%B^k+B^k-W%B^k)+B^k*(V/B^k%B+(B-1-W/B^k%B)):=by
 have hP:0<B^k:=Nat.pow_pos hB
 have h1:=Nat.mod_lt V hP
 have h2:=Nat.mod_lt W hP
 have h3:=Nat.mod_lt (W/B^k) hB
 rw[gJ,gJ,Nat.pow_succ]
 generalize B^k=p at*
 generalize V/p%B=x at*
 generalize W/p%B=y at*
 obtain⟨z,rfl⟩:∃z,B=y+1+z:=⟨B-y-1,by omega⟩
 have e1:y+1+z-1-y=z:=by omega
 rw[e1,Nat.mul_add p x z,Nat.mul_add p (y+1) z,Nat.mul_add p y 1]
 omega
theorem HW{B:Nat}(hB:0<B)(V W k:Nat):(V/B^k%B+(B-1-W/B^k%B)+Am B V W k)/B=Am B V W (k+1):=by
 have hP:0<B^k:=Nat.pow_pos hB
 rw[Am,Am,Kh hB,Nat.pow_succ,←Nat.div_div_eq_div_mul,Nat.add_mul_div_left _ _ hP]
 congr 1
 omega
theorem Jn{Q V W:Nat}(hQ:0<Q)(h:W≤V):(V%Q+Q-W%Q)%Q=(V-W)%Q:=by
 have e1:=Nat.div_add_mod V Q
 have e2:=Nat.div_add_mod W Q
 have h1:=Nat.mod_lt V hQ
 have h2:=Nat.mod_lt W hQ
 have hq:W/Q≤V/Q:=Nat.div_le_div_right h
 generalize V%Q=r at*
 generalize W%Q=s at*
 generalize V/Q=a at*
 generalize W/Q=b at*
 obtain⟨c,rfl⟩:=Nat.exists_eq_add_of_le hq
 rw[Nat.mul_add]at e1
 rcases Nat.lt_or_ge r s with Yk|Yk
 ·cases c with
  |zero=>simp at e1;omega
  |succ c=>
   rw[Nat.mul_add,Nat.mul_one]at e1
   rw[show V-W=Q*c+(r+Q-s) by omega,Nat.mul_add_mod]
 ·rw[show V-W=Q*c+(r-s) by omega,Nat.mul_add_mod,show r+Q-s=r-s+Q by omega,Nat.add_mod_right]
theorem Ki{B:Nat}(hB:0<B){V W:Nat}(h:W≤V)(k:Nat):(V/B^k%B+(B-1-W/B^k%B)+Am B V W k)%B=(V-W)/B^k%B:=by
 have hP:0<B^k:=Nat.pow_pos hB
 have hQ:0<B^(k+1):=Nat.pow_pos hB
 have e:=Jn hQ h
 have e2:V/B^k%B+(B-1-W/B^k%B)+Am B V W k=(V%B^(k+1)+B^(k+1)-W%B^(k+1))/B^k:=by
  rw[Kh hB,Nat.add_mul_div_left _ _ hP,Am];omega
 rw[e2,←Nat.mod_mul_right_div_self,←Nat.mod_mul_right_div_self,←Nat.pow_succ,e]
end Go.Fw
namespace Go.Fw
theorem Kj{B:Nat}(hB:0<B):∀(j N lo p d hi:Nat),lo<B^j→p<B→d<B→j<N→(fF B N (lo+B^j*(p+B*hi))).set j d=fF B N (lo+B^j*(d+B*hi))
 |0,N+1,lo,p,d,hi,hlo,hp,hd,_=>by
  have:lo=0:=by simpa using hlo
  subst this
  simp only[Nat.pow_zero,Nat.zero_add,Nat.one_mul,fF,List.set_cons_zero,Nat.add_mul_mod_self_left,Nat.mod_eq_of_lt hd]
  rw[Nat.add_mul_div_left _ _ hB,Nat.add_mul_div_left _ _ hB,Nat.div_eq_of_lt hp,Nat.div_eq_of_lt hd]
 |j+1,N+1,lo,p,d,hi,hlo,hp,hd,hN=>by
  have e:∀q,(lo+B^(j+1)*(q+B*hi))%B=lo%B:=fun q=>by
   rw[Nat.pow_succ,Nat.mul_comm (B^j) B,Nat.mul_assoc,Nat.add_mul_mod_self_left]
  have e2:∀q,(lo+B^(j+1)*(q+B*hi))/B=lo/B+B^j*(q+B*hi):=fun q=>by
   rw[Nat.pow_succ,Nat.mul_comm (B^j) B,Nat.mul_assoc,Nat.add_mul_div_left _ _ hB]
  have agt:lo/B<B^j:=by rw[Nat.div_lt_iff_lt_mul hB];rwa[Nat.pow_succ]at hlo
  rw[fF,fF,List.set_cons_succ,e,e,e2,e2,Kj hB j N (lo/B) p d hi agt hp hd (by omega)]
theorem vc{B:Nat}(hB:0<B){N j u u' d:Nat}(hj:j<N)(hd:d<B)(hlo:u'%B^j=u%B^j)(Xt:u'/B^j%B=d)(hhi:u'/B^(j+1)=u/B^(j+1)):(fF B N u).set j d=fF B N u':=by
 have hP:0<B^j:=Nat.pow_pos hB
 have f:∀u,u=u%B^j+B^j*(u/B^j%B+B*(u/B^(j+1))):=fun u=>by
  have e1:=Nat.mod_add_div u (B^j)
  have e2:=LH B u j
  rw[Nat.add_comm]at e2
  rw[←e2,e1]
 rw[f u,Kj hB j N _ _ d _ (Nat.mod_lt _ hP) (Nat.mod_lt _ hB) hd hj]
 conv=>rhs;rw[f u',hlo,Xt,hhi]
where
 LH (B v m:Nat):v/B^m=B*(v/B^(m+1))+v/B^m%B:=by
  rw[Nat.pow_succ,←Nat.div_div_eq_div_mul,Nat.div_add_mod]
def mT(B V W i k:Nat):Nat:=((V%B^i)*W)%B^(i+k)+B^i*(V/B^i%B)*(W%B^k)
def mC(B V W i k:Nat):Nat:=mT B V W i k/B^(i+k)
def mV(B V W i k:Nat):Nat:=mT B V W i k%B^(i+k)+B^(i+k)*(((V%B^i)*W)/B^(i+k))
theorem T1{B:Nat}(hB:0<B)(V W i k:Nat):mT B V W i k<B^(i+k)*B:=by
 have h1:((V%B^i)*W)%B^(i+k)<B^(i+k):=Nat.mod_lt _ (Nat.pow_pos hB)
 have h2:V/B^i%B<B:=Nat.mod_lt _ hB
 have h3:W%B^k<B^k:=Nat.mod_lt _ (Nat.pow_pos hB)
 have h4:B^i*(V/B^i%B)*(W%B^k)≤B^i*(B-1)*B^k:=Nat.mul_le_mul (Nat.mul_le_mul_left _ (by omega)) (Nat.le_of_lt h3)
 have h5:B^i*(B-1)*B^k=B^(i+k)*(B-1):=by rw[Nat.pow_add,Nat.mul_assoc,Nat.mul_assoc,Nat.mul_comm (B-1)]
 have h6:B^(i+k)*B=B^(i+k)*(B-1)+B^(i+k):=by
  obtain⟨b,rfl⟩:∃b,B=b+1:=⟨B-1,by omega⟩
  rw[Nat.add_sub_cancel,Nat.mul_add,Nat.mul_one]
 unfold mT
 omega
theorem T2{B:Nat}(hB:0<B)(V W i k:Nat):mC B V W i k<B:=by
 rw[mC,Nat.div_lt_iff_lt_mul (Nat.pow_pos hB),Nat.mul_comm];exact T1 hB V W i k
theorem F7{B:Nat}(V W i k:Nat):mT B V W i (k+1)=mT B V W i k+B^(i+k)*(((V%B^i)*W)/B^(i+k)%B+(V/B^i%B)*(W/B^k%B)):=by
 have e1:((V%B^i)*W)%B^(i+(k+1))=((V%B^i)*W)%B^(i+k)+B^(i+k)*(((V%B^i)*W)/B^(i+k)%B):=by rw[←Nat.add_assoc,gJ]
 have e2:W%B^(k+1)=W%B^k+B^k*(W/B^k%B):=gJ B W k
 unfold mT
 rw[e1,e2,Nat.mul_add,Nat.mul_add (B^(i+k))]
 have e3:B^i*(V/B^i%B)*(B^k*(W/B^k%B))=B^(i+k)*((V/B^i%B)*(W/B^k%B)):=by
  rw[Nat.pow_add,Nat.mul_assoc,Nat.mul_assoc,Nat.mul_left_comm (V/B^i%B)]
 omega
theorem RE{B:Nat}(hB:0<B)(V W i k:Nat):(((V%B^i)*W)/B^(i+k)%B+(V/B^i%B)*(W/B^k%B)+mC B V W i k)/B=mC B V W i (k+1):=by
 have hP:0<B^(i+k):=Nat.pow_pos hB
 rw[mC,mC,F7,←Nat.add_assoc,Nat.pow_succ,←Nat.div_div_eq_div_mul,Nat.add_mul_div_left _ _ hP]
 congr 1;omega
theorem T3{B:Nat}(V W i k:Nat):mV B V W i k%B^(i+k)=mT B V W i k%B^(i+k):=by
 rw[mV,Nat.add_mul_mod_self_left,Nat.mod_mod]
theorem Kk{B:Nat}(hB:0<B)(V W i k:Nat):mV B V W i k/B^(i+k)=((V%B^i)*W)/B^(i+k):=by
 have hP:0<B^(i+k):=Nat.pow_pos hB
 rw[mV,Nat.add_mul_div_left _ _ hP,Nat.div_eq_of_lt (Nat.mod_lt _ hP),Nat.zero_add]
theorem Xu{B:Nat}(hB:0<B){V W i k N:Nat}(h:i+k<N):(fF B N (mV B V W i k))[i+k]? =some (((V%B^i)*W)/B^(i+k)%B):=by
 rw[xX _ _ _ h,Kk hB]
theorem RF{B:Nat}(hB:0<B){V W i k N:Nat}(h:i+k<N):
  (fF B N (mV B V W i k)).set (i+k) ((((V%B^i)*W)/B^(i+k)%B+(V/B^i%B)*(W/B^k%B)+mC B V W i k)%B)=fF B N (mV B V W i (k+1)):=by
 have hP:0<B^(i+k):=Nat.pow_pos hB
 have hPB:B^(i+(k+1))=B^(i+k)*B:=by rw[←Nat.add_assoc,Nat.pow_succ]
 have hs:mT B V W i (k+1)/B^(i+k)=((V%B^i)*W)/B^(i+k)%B+(V/B^i%B)*(W/B^k%B)+mC B V W i k:=by
  rw[F7,Nat.add_mul_div_left _ _ hP,mC];omega
 have ht:mT B V W i (k+1)%B^(i+k)=mT B V W i k%B^(i+k):=by rw[F7,Nat.add_mul_mod_self_left]
 refine vc hB h (Nat.mod_lt _ hB) ?_ ?_ ?_
 ·rw[T3,←ht,mV,hPB,Nat.mul_assoc,Nat.add_mul_mod_self_left,Nat.mod_mul_right_mod]
 ·rw[mV,hPB,Nat.mul_assoc,Nat.add_mul_div_left _ _ hP,Nat.add_mul_mod_self_left,Nat.mod_mul_right_div_self,Nat.mod_mod,hs]
 ·rw[show i+k+1=i+(k+1) by omega,Kk hB,show i+(k+1)=i+k+1 by omega,Nat.pow_succ,←Nat.div_div_eq_div_mul,←Nat.div_div_eq_div_mul,Kk hB]
theorem RG{B:Nat}(V W i:Nat):mV B V W i 0=(V%B^i)*W:=by
 rw[mV,mT,Nat.pow_zero,Nat.mod_one,Nat.mul_zero,Nat.add_zero,Nat.add_zero,Nat.mod_mod,Nat.mod_add_div]
theorem RH{B:Nat}(hB:0<B)(V W i:Nat):mC B V W i 0=0:=by
 rw[mC,mT,Nat.pow_zero,Nat.mod_one,Nat.mul_zero,Nat.add_zero,Nat.add_zero]
 exact Nat.div_eq_of_lt (Nat.mod_lt _ (Nat.pow_pos hB))
theorem Xv{B:Nat}(hB:0<B){V W i n N:Nat}(hW:W<B^n)(h:i+n<N):(fF B N (mV B V W i n)).set (i+n) ((0+mC B V W i n)%B)=fF B N ((V%B^(i+1))*W):=by
 have hP:0<B^(i+n):=Nat.pow_pos hB
 have hp:(V%B^i)*W<B^(i+n):=by
  have h1:V%B^i<B^i:=Nat.mod_lt _ (Nat.pow_pos hB)
  rw[Nat.pow_add]
  by_cases h0:W=0
  ·subst h0;rw[Nat.mul_zero];exact Nat.mul_pos (Nat.pow_pos hB) (Nat.pow_pos hB)
  ·calc (V%B^i)*W<B^i*W:=Nat.mul_lt_mul_of_pos_right h1 (by omega)
    _≤B^i*B^n:=Nat.mul_le_mul_left _ (Nat.le_of_lt hW)
 have hT:mT B V W i n=(V%B^(i+1))*W:=by
  rw[mT,Nat.mod_eq_of_lt hp,Nat.mod_eq_of_lt hW,gJ,Nat.add_mul]
 have hlt:=T1 hB V W i n
 rw[hT]at hlt
 refine vc hB h (Nat.mod_lt _ hB) ?_ ?_ ?_
 ·rw[T3,hT]
 ·rw[Nat.zero_add,mC,hT]
 ·rw[Nat.pow_succ B (i+n),Nat.div_eq_of_lt hlt,←Nat.div_div_eq_div_mul,Kk hB,Nat.div_eq_of_lt hp,Nat.zero_div]
def sT(B V f e i:Nat):Nat:=V%B^i*f+e
def sC(B V f e i:Nat):Nat:=sT B V f e i/B^i
theorem Kl(B V f e:Nat):sC B V f e 0=e:=by simp[sC,sT,Nat.mod_one]
theorem Km(B V f e i:Nat):sT B V f e (i+1)=sT B V f e i+B^i*(V/B^i%B*f):=by
 unfold sT
 rw[gJ,Nat.add_mul,Nat.mul_assoc];omega
theorem Kn{B:Nat}(hB:0<B)(V f e i:Nat):(V/B^i%B*f+sC B V f e i)/B=sC B V f e (i+1):=by
 have hP:0<B^i:=Nat.pow_pos hB
 rw[sC,sC,Km,Nat.pow_succ,←Nat.div_div_eq_div_mul,Nat.add_mul_div_left _ _ hP]
 congr 1;omega
theorem Pn{B:Nat}(hB:0<B)(V f e i:Nat):(V/B^i%B*f+sC B V f e i)%B=(V*f+e)/B^i%B:=by
 have hP:0<B^i:=Nat.pow_pos hB
 have h1:V*f+e=sT B V f e (i+1)+B^i*(B*(V/B^(i+1)*f)):=by
  have e1:=Nat.mod_add_div V (B^(i+1))
  unfold sT
  conv=>lhs;rw[←e1,Nat.add_mul]
  rw[Nat.pow_succ,Nat.mul_assoc,Nat.mul_assoc];omega
 rw[h1,Nat.add_mul_div_left _ _ hP,Nat.add_mul_mod_self_left,Km,Nat.add_mul_div_left _ _ hP,sC,Nat.add_comm]
theorem T4{B:Nat}(hB:0<B){V f e:Nat}(hf:f<B)(he:e<B)(i:Nat):sC B V f e i<B:=by
 have hP:0<B^i:=Nat.pow_pos hB
 rw[sC,Nat.div_lt_iff_lt_mul hP]
 have h1:V%B^i≤B^i-1:=by have:=Nat.mod_lt V hP;omega
 have h2:V%B^i*f≤(B^i-1)*(B-1):=Nat.mul_le_mul h1 (by omega)
 obtain⟨p,hp⟩:∃p,B^i=p+1:=⟨B^i-1,by omega⟩
 obtain⟨b,rfl⟩:∃b,B=b+1:=⟨B-1,by omega⟩
 unfold sT
 rw[hp]at h2⊢
 rw[Nat.add_sub_cancel,Nat.add_sub_cancel]at h2
 have h3:(b+1)*(p+1)=p*b+b+p+1:=by rw[Nat.add_mul,Nat.mul_add,Nat.mul_comm b p];omega
 omega
theorem Xw{B V f e i:Nat}(h:V<B^i):sC B V f e i=(V*f+e)/B^i:=by rw[sC,sT,Nat.mod_eq_of_lt h]
def sU(B V f e i:Nat):Nat:=sT B V f e i%B^i+B^i*(V/B^i)
def qU(B V d n:Nat):Nat:=V%B^n+B^n*(V/B^n/d)
theorem RI(B V d:Nat):qU B V d 0=V/d:=by simp[qU,Nat.mod_one]
theorem Xx{B V d n:Nat}(h:V<B^n):qU B V d n=V:=by simp[qU,Nat.mod_eq_of_lt h,Nat.div_eq_of_lt h]
theorem RJ(B V m:Nat):V/B^m=B*(V/B^(m+1))+V/B^m%B:=by rw[Nat.pow_succ,←Nat.div_div_eq_div_mul,Nat.div_add_mod]
theorem T5{B d:Nat}(V m:Nat):V/B^m=(V/B^(m+1)%d*B+V/B^m%B)+d*(B*(V/B^(m+1)/d)):=by
 have h1:=RJ B V m
 have h2:=Nat.mod_add_div (V/B^(m+1)) d
 generalize V/B^(m+1)=q at*
 generalize V/B^m%B=y at*
 rw[h1]
 conv=>lhs;rw[←h2]
 rw[Nat.mul_add,Nat.mul_left_comm B d,Nat.mul_comm B (q%d)];omega
theorem aaM{B d:Nat}(hd:0<d)(V m:Nat):V/B^m/d=B*(V/B^(m+1)/d)+(V/B^(m+1)%d*B+V/B^m%B)/d:=by
 conv=>lhs;rw[T5 (B:=B) (d:=d) V m]
 rw[Nat.add_mul_div_left _ _ hd,Nat.add_comm]
theorem aaN{B d:Nat}(V m:Nat):V/B^m%d=(V/B^(m+1)%d*B+V/B^m%B)%d:=by
 conv=>lhs;rw[T5 (B:=B) (d:=d) V m]
 rw[Nat.add_mul_mod_self_left]
theorem aaO{B d:Nat}(hB:0<B)(hd:0<d)(V m:Nat):V/B^(m+1)%d*B+V/B^m%B<d*B:=by
 have h1:=Nat.mod_lt (V/B^(m+1)) hd
 have h2:=Nat.mod_lt (V/B^m) hB
 have h3:(V/B^(m+1)%d+1)*B≤d*B:=Nat.mul_le_mul_right _ h1
 rw[Nat.add_mul]at h3;omega
theorem Po{B:Nat}(hB:0<B)(V d n:Nat):qU B V d n/B^n=V/B^n/d:=by
 have hP:0<B^n:=Nat.pow_pos hB
 rw[qU,Nat.add_mul_div_left _ _ hP,Nat.div_eq_of_lt (Nat.mod_lt _ hP),Nat.zero_add]
theorem aaP(B V d n:Nat):qU B V d n%B^n=V%B^n:=by rw[qU,Nat.add_mul_mod_self_left,Nat.mod_mod]
theorem RK{B:Nat}(V d m:Nat):qU B V d (m+1)%B^m=V%B^m:=by
 rw[qU,Nat.pow_succ,Nat.mul_assoc,Nat.add_mul_mod_self_left,Nat.mod_mul_right_mod]
theorem Xy{B:Nat}(hB:0<B){V d m N:Nat}(h:m<N):(fF B N (qU B V d (m+1)))[m]? =some (V/B^m%B):=by
 have hP:0<B^m:=Nat.pow_pos hB
 rw[xX _ _ _ h,qU,Nat.pow_succ,Nat.mul_assoc,Nat.add_mul_div_left _ _ hP,Nat.add_mul_mod_self_left,Nat.mod_mul_right_div_self,Nat.mod_mod]
theorem RL{B:Nat}(hB:0<B){V d m N:Nat}(hd:0<d)(h:m<N):(fF B N (qU B V d (m+1))).set m ((V/B^(m+1)%d*B+V/B^m%B)/d)=fF B N (qU B V d m):=by
 have hx:(V/B^(m+1)%d*B+V/B^m%B)/d<B:=by rw[Nat.div_lt_iff_lt_mul hd,Nat.mul_comm B d];exact aaO hB hd V m
 have hq:=aaM (B:=B) hd V m
 refine vc hB h hx ?_ ?_ ?_
 ·rw[aaP,RK]
 ·rw[Po hB,hq,Nat.mul_add_mod,Nat.mod_eq_of_lt hx]
 ·rw[Po hB,Nat.pow_succ,←Nat.div_div_eq_div_mul,Po hB,hq,Nat.mul_add_div hB,Nat.div_eq_of_lt hx,←Nat.pow_succ];rfl
end Go.Fw
namespace Go.Fw
theorem RM{B v:Nat}(hB:2≤B)(h0:v≠0)(h:v<B):can B v=[v]:=by
 have:=Pk hB (l:=[]) h0 (by simpa using h)
 simpa[val]using this.symm
theorem RN{B v:Nat}(hB:2≤B)(h0:v/B≠0)(h:v<B*B):can B v=[v%B,v/B]:=by
 have h1:v/B<B:=by rw[Nat.div_lt_iff_lt_mul (by omega)];exact h
 have h2:v%B<B:=Nat.mod_lt _ (by omega)
 have:=Pk hB (l:=[v%B]) h0 (by simp;exact⟨h2,h1⟩)
 simp only[List.cons_append,List.nil_append,val,Nat.mul_zero,Nat.add_zero]at this
 rw[Nat.mod_add_div]at this
 exact this.symm
theorem pX{B:Nat}{l:List Nat}(h:∀x∈l,x<B){i:Nat}(hi:i<l.length):l[i]? =some (val B l/B^i%B):=by
 rw[←qP l h i];simp[List.getD,hi]
def DG(v w:Nat):Int:=if v<w then-1 else if v=w then 0 else 1
theorem xY{v w:Nat}(h:v<w):DG v w=-1:=by simp[DG,h]
theorem F8(v:Nat):DG v v=0:=by simp[DG]
theorem AJ{v w:Nat}(h:w<v):DG v w=1:=by
 have h1:¬v<w:=by omega
 have h2:¬v=w:=by omega
 simp[DG,h1,h2]
theorem CL{B v w:Nat}(hB:2≤B)(h:(can B v).length<(can B w).length):v<w:=
 Nat.lt_of_lt_of_le (dI hB v) (vY hB h)
theorem HX(B v m:Nat):v/B^m=B*(v/B^(m+1))+v/B^m%B:=by
 rw[Nat.pow_succ,←Nat.div_div_eq_div_mul,Nat.div_add_mod]
theorem Eo{B v w m:Nat}(h:v/B^m<w/B^m):v<w:=by
 rcases Nat.lt_or_ge v w with h1|h1
 ·exact h1
 ·have:=Nat.div_le_div_right (c:=B^m) h1;omega
theorem LI{B v w m:Nat}(h:v/B^(m+1)=w/B^(m+1)):(v/B^m%B=w/B^m%B∧v/B^m=w/B^m)∨(v/B^m%B<w/B^m%B∧v<w)∨(w/B^m%B<v/B^m%B∧w<v):=by
 have h1:=HX B v m
 have h2:=HX B w m
 rw[←h]at h2
 rcases Nat.lt_trichotomy (v/B^m%B) (w/B^m%B)with h3|h3|h3
 ·exact .inr (.inl ⟨h3,Eo (B:=B) (m:=m) (by omega)⟩)
 ·exact .inl ⟨h3,by omega⟩
 ·exact .inr (.inr ⟨h3,Eo (B:=B) (m:=m) (by omega)⟩)
end Go.Fw
namespace Go.Proofs.YtningmnklfpfjaaGreat
open Go.Fw
theorem AK(l:List Nat)(hl:l.length≤1000000000000):aD l=some (lS l):=by
 unfold aD
 refine oh (fun y=>y.length≤1000000000000∧lS y=lS l) (fun e=>e=lS l) (fun y=>y.length) ?_ ⟨hl,rfl⟩ (fun e he=>by rw[he])
 rintro y ⟨hy,ht⟩
 rcases w6 y with rfl|⟨ys,rfl⟩|⟨ys,x,hx,rfl⟩
 ·right;exact⟨[],by simp[cm],ht⟩
 ·left
  have h1:((ys++[0]).length:Int)=((ys.length+1:Nat):Int):=by simp
  have h2:ys.length≤9223372036854775807:=by simp at hy;omega
  refine⟨ys,?_,⟨by simp at hy⊢;omega,by rw[←ht,sG]⟩,by simp⟩
  simp only[cm,Option.bind_some,h1,HQ h2]
  rw[aQ (a:=0) (by simp),qM (by simp)]
  simp
 ·right
  have h1:((ys++[x]).length:Int)=((ys.length+1:Nat):Int):=by simp
  have h2:ys.length≤9223372036854775807:=by simp at hy;omega
  refine⟨ys++[x],?_,by rw[←ht,w5 _ hx]⟩
  simp only[cm,Option.bind_some,h1,HQ h2]
  rw[aQ (a:=x) (by simp)]
  simp[hx]
def zc(n:Bool)(v:Nat):Zr:=⟨n&&v != 0,can 4294967296 v⟩
theorem Ko(n:Bool):zc n 0=⟨false,[]⟩:=by simp[zc,uJ]
theorem Pp(n:Bool){v:Nat}(h:v≠0):zc n v=⟨n,can 4294967296 v⟩:=by simp[zc,h]
def Gn(l:List Nat):Prop:=(∀x∈l,x<4294967296)∧l.length≤100000000000
abbrev vl(l:List Nat):Nat:=val 4294967296 l
theorem kq(n:Bool)(l:List Nat)(h:Gn l):bF n l=some (zc n (vl l)):=by
 unfold bF
 rw[AK l (by have:=h.2;omega),qO (by decide) h.1]
 show _=some (zc n (val 4294967296 l))
 by_cases hz:val 4294967296 l=0
 ·rw[hz,Ko];simp[uJ]
 ·have:can 4294967296 (val 4294967296 l)≠[]:=fun e=>hz (F4 (by decide) e)
  rw[Pp _ hz];simp[this]
theorem qQ(n:Bool)(v:Nat)(h:v<18446744073709551616):dm n v=some (zc n v):=by
 unfold dm
 by_cases hz:v=0
 ·subst hz;simp[Ko]
 ·rw[Pp _ hz]
  by_cases h1:v/2^32=0
  ·rw[RM (by decide) hz (by omega)]
   simp only[Option.bind_some,hz,h1,decide_false,decide_true,cond_false,cond_true]
   rw[Nat.mod_eq_of_lt (by omega)]
  ·rw[RN (by decide) (by omega) (by omega)]
   simp only[Option.bind_some,hz,h1,decide_false,cond_false]
   rw[Nat.mod_eq_of_lt (a:=v/2^32) (by omega)]
theorem Pq{a b s:Nat}(h:a<2^s):a ||| b*2^s=a+b*2^s:=by
 rw[Nat.or_comm,Nat.mul_comm b,←Nat.two_pow_add_eq_or_of_lt h,Nat.add_comm]
theorem low_eq(l:List Nat)(h:∀x∈l,x<4294967296)(hl:l.length≤2):di l=some (vl l):=by
 rcases l with _|⟨x,_|⟨y,_|⟨z,l⟩⟩⟩
 ·simp[di,vl,val]
 ·have hx:=h x (by simp)
  simp only[di,ze (l:=[x]) (a:=x) rfl]
  simp[vl,val];omega
 ·have hx:=h x (by simp)
  have hy:=h y (by simp)
  simp only[di,ze (l:=[x,y]) (a:=x) rfl,Pf (l:=[x,y]) (a:=y) rfl,Option.bind_some]
  rw[Nat.mod_eq_of_lt (a:=x) (by omega),Nat.mod_eq_of_lt (a:=y) (by omega),Nat.mod_eq_of_lt (a:=y*2^32) (by omega),Pq (by omega),Nat.mod_eq_of_lt (by omega)]
  simp[vl,val];omega
 ·simp at hl
theorem gS(x c:Nat)(h:x+c<18446744073709551616):bj x c=some ((x+c)%4294967296,(x+c)/4294967296):=by
 simp[bj,Nat.mod_eq_of_lt h]
theorem kD(v w:Nat)(hv:(can 4294967296 v).length≤100000000000)(hw:(can 4294967296 w).length≤100000000000):cA (can 4294967296 v) (can 4294967296 w)=some (DG v w):=by
 unfold cA
 rcases Nat.lt_trichotomy (can 4294967296 v).length (can 4294967296 w).length with hl|hl|hl
 ·rw[xY (CL (by decide) hl)]
  simp only[Option.bind_some]
  rw[show decide (((can 4294967296 v).length:Int)≠((can 4294967296 w).length:Int))=true by simp;omega,show decide (((can 4294967296 v).length:Int)<((can 4294967296 w).length:Int))=true by simp;omega];rfl
 ·simp only[Option.bind_some]
  rw[show decide (((can 4294967296 v).length:Int)≠((can 4294967296 w).length:Int))=false by simp;omega,cond_false]
  refine oh (fun y=>∃n:Nat,y=(n:Int)-1∧n≤(can 4294967296 v).length∧v/4294967296^n=w/4294967296^n) (fun e=>e=(if v=w then .inl ()else .inr (DG v w))) (fun y=>(y+1).toNat) ?_ ⟨(can 4294967296 v).length,?_,Nat.le_refl _,?_⟩ ?_
  ·rintro y ⟨n,rfl,hn,he⟩
   cases n with
   |zero=>
    right
    have:v=w:=by simpa using he
    subst this
    exact⟨_,by simp,rfl⟩
   |succ m=>
    have Gk:=F5 (B:=4294967296) (by decide) (v:=v) (j:=m) (by omega)
    have hgw:=F5 (B:=4294967296) (by decide) (v:=w) (j:=m) (by omega)
    have e0:((m+1:Nat):Int)-1=(m:Int):=by omega
    rw[e0]
    rcases LI he with⟨h1,h2⟩|⟨h1,h2⟩|⟨h1,h2⟩
    ·left
     refine⟨(m:Int)-1,?_,⟨m,rfl,by omega,h2⟩,by omega⟩
     simp only[Option.bind_some,aQ Gk,aQ hgw,h1]
     rw[cz (by omega) (by omega)]
     simp
    ·right
     refine⟨.inr (-1),?_,by rw[if_neg (by omega),xY h2]⟩
     simp only[Option.bind_some,aQ Gk,aQ hgw]
     simp[h1,Nat.ne_of_lt h1]
    ·right
     refine⟨.inr 1,?_,by rw[if_neg (by omega),AJ h2]⟩
     simp only[Option.bind_some,aQ Gk,aQ hgw]
     simp[Nat.not_lt_of_lt h1,Nat.ne_of_gt h1]
  ·rw[cz (by omega) (by omega)]
  ·rw[CK (by decide) (Nat.le_refl _),CK (by decide) (by omega)]
  ·rintro e rfl
   by_cases h:v=w
   ·subst h;simp[F8]
   ·simp[h]
 ·rw[AJ (CL (by decide) hl)]
  simp only[Option.bind_some]
  rw[show decide (((can 4294967296 v).length:Int)≠((can 4294967296 w).length:Int))=true by simp;omega,show decide (((can 4294967296 v).length:Int)<((can 4294967296 w).length:Int))=false by simp;omega];rfl
theorem AL{l:List Nat}(h:∀x∈l,x<4294967296)(i:Nat):l.getD i 0<4294967296:=by
 rcases Nat.lt_or_ge i l.length with hi|hi
 ·exact h _ (List.mem_of_getElem? (tF hi))
 ·rw[wA hi];decide
theorem zK(a b:List Nat)(ha:Gn a)(hb:Gn b):c6 a b=some (fF 4294967296 (max a.length b.length+1) (vl a+vl b)):=by
 obtain⟨hA,hla⟩:=ha
 obtain⟨hB,hlb⟩:=hb
 have hV:val 4294967296 a<4294967296^(max a.length b.length):=Nat.lt_of_lt_of_le (jm a hA) (Nat.pow_le_pow_right (by decide) (by omega))
 have hW:val 4294967296 b<4294967296^(max a.length b.length):=Nat.lt_of_lt_of_le (jm b hB) (Nat.pow_le_pow_right (by decide) (by omega))
 unfold c6
 simp only[Option.bind_some]
 rw[show max (a.length:Int) (b.length:Int)=((max a.length b.length:Nat):Int) by omega,bw (by omega),CI (by decide) (by omega),Option.bind_some]
 refine oV (fun k=>(Gm 4294967296 (vl a) (vl b) k,fF 4294967296 k (vl a+vl b))) (by simp[HU,fF]) (fun k hk=>?_) ?_
 ·have hx:=AL hA k
  have hy:=AL hB k
  have hc:=Jm (B:=4294967296) (by decide) (vl a) (vl b) k
  have hxe:=qP a hA k
  have hye:=qP b hB k
  simp only[Option.bind_some]
  rw[Nat.mod_eq_of_lt (a:=a.getD k 0) (by omega),Nat.mod_eq_of_lt (a:=b.getD k 0) (by omega),Nat.mod_eq_of_lt (a:=a.getD k 0+b.getD k 0) (by omega),gS _ _ (by omega)]
  simp only[Option.bind_some]
  rw[DF (by decide) (by rw[bk];omega),Option.bind_some,hxe,hye,HT (by decide),F6 (by decide),←oW]
 ·have hc:=Jm (B:=4294967296) (by decide) (vl a) (vl b) (max a.length b.length)
  simp only
  rw[gS _ _ (by omega)]
  simp only[Option.bind_some]
  rw[DF (by decide) (by rw[bk];omega),Option.bind_some,Nat.zero_add,RC hV hW,←oW]
theorem zL(a b:List Nat)(ha:Gn a)(hb:Gn b)(hl:b.length≤a.length)(hle:vl b≤vl a):bY a b=some (fF 4294967296 a.length (vl a-vl b)):=by
 obtain⟨hA,hla⟩:=ha
 obtain⟨hB,hlb⟩:=hb
 have hmx:max a.length b.length=a.length:=by omega
 unfold bY
 simp only[Option.bind_some]
 rw[CI (by decide) (by omega),Option.bind_some,hmx]
 refine oV (fun k=>(Am 4294967296 (vl a) (vl b) k,fF 4294967296 k (vl a-vl b))) (by simp[HV,fF]) (fun k hk=>?_) rfl
 have hx:=AL hA k
 have hy:=AL hB k
 have hc:=Pm (B:=4294967296) (by decide) (vl a) (vl b) k
 have hxe:=qP a hA k
 have hye:=qP b hB k
 simp only[Option.bind_some]
 rw[Nat.mod_eq_of_lt (a:=a.getD k 0) (by omega),Nat.mod_eq_of_lt (a:=b.getD k 0) (by omega),sE (by omega) (by omega),Nat.mod_eq_of_lt (a:=a.getD k 0+(4294967295-b.getD k 0)) (by omega),gS _ _ (by omega)]
 simp only[Option.bind_some]
 rw[DF (by decide) (by rw[bk];omega),Option.bind_some,hxe,hye,HW (B:=4294967296) (by decide),Ki (B:=4294967296) (by decide) hle,←oW]
theorem HY(a b:List Nat)(ha:Gn a)(hb:Gn b):dL a b=some (fF 4294967296 (a.length+b.length) (vl a*vl b)):=by
 obtain⟨hA,hla⟩:=ha
 obtain⟨hB,hlb⟩:=hb
 unfold dL
 simp only[Option.bind_some]
 rw[u0 (by omega),sD (by decide) (by omega),Option.bind_some]
 refine aY (fun i=>((i:Int),fF 4294967296 (a.length+b.length) (vl a%4294967296^i*vl b))) a.length (fF 4294967296 (a.length+b.length) (vl a%4294967296^a.length*vl b)) (by simp[Nat.mod_one,uH]) (fun i hi=>?_) (by simp) (by rw[Nat.mod_eq_of_lt (jm a hA)])
 have hgx:=pX hA hi
 have hx:val 4294967296 a/4294967296^i%4294967296<4294967296:=Nat.mod_lt _ (by decide)
 simp only[Option.bind_some,show decide ((i:Int)<(a.length:Int))=true by simp;omega,cond_true]
 rw[aQ hgx,Option.bind_some]
 refine aY (fun k=>((k:Int),mC 4294967296 (vl a) (vl b) i k,fF 4294967296 (a.length+b.length) (mV 4294967296 (vl a) (vl b) i k))) b.length (mC 4294967296 (vl a) (vl b) i b.length,fF 4294967296 (a.length+b.length) (mV 4294967296 (vl a) (vl b) i b.length)) (by simp[RH,RG]) (fun k hk=>?_) (by simp) ?_
 ·have hgy:=pX hB hk
  have hgp:=Xu (B:=4294967296) (by decide) (V:=vl a) (W:=vl b) (i:=i) (k:=k) (N:=a.length+b.length) (by omega)
  have hy:val 4294967296 b/4294967296^k%4294967296<4294967296:=Nat.mod_lt _ (by decide)
  have hp:vl a%4294967296^i*vl b/4294967296^(i+k)%4294967296<4294967296:=Nat.mod_lt _ (by decide)
  have hc:=T2 (B:=4294967296) (by decide) (vl a) (vl b) i k
  have hxy:val 4294967296 a/4294967296^i%4294967296*(val 4294967296 b/4294967296^k%4294967296)≤4294967295*4294967295:=Nat.mul_le_mul (by omega) (by omega)
  simp only[Option.bind_some,show decide ((k:Int)<(b.length:Int))=true by simp;omega,cond_true]
  rw[aQ hgy,Option.bind_some,u0 (by omega),cf (by rw[bk];omega),Option.bind_some,hgp,Option.bind_some]
  rw[Nat.mod_eq_of_lt (a:=vl a%4294967296^i*vl b/4294967296^(i+k)%4294967296) (by omega),Nat.mod_eq_of_lt (a:=val 4294967296 a/4294967296^i%4294967296) (b:=18446744073709551616) (by omega),Nat.mod_eq_of_lt (a:=val 4294967296 b/4294967296^k%4294967296) (b:=18446744073709551616) (by omega),Nat.mod_eq_of_lt (a:=val 4294967296 a/4294967296^i%4294967296*(val 4294967296 b/4294967296^k%4294967296)) (by omega),Nat.mod_eq_of_lt (a:=vl a%4294967296^i*vl b/4294967296^(i+k)%4294967296+_) (by omega),gS _ _ (by omega)]
  simp only[Option.bind_some]
  rw[fE (by rw[bk];omega),Option.bind_some,RE (B:=4294967296) (by decide),RF (B:=4294967296) (by decide) (by omega),bw (by omega)]
 ·have hc:=T2 (B:=4294967296) (by decide) (vl a) (vl b) i b.length
  simp only[Option.bind_some]
  rw[u0 (by omega),gS _ _ (by omega)]
  simp only[Option.bind_some]
  rw[cf (by rw[bk];omega),Option.bind_some,fE (by rw[bk];omega),Option.bind_some,Xv (B:=4294967296) (by decide) (jm b hB) (by omega),bw (by omega)]
end Go.Proofs.YtningmnklfpfjaaGreat
namespace Go.Proofs.YtningmnklfpfjaaGreat
open Go.Fw
theorem RO{a b s:Nat}(h:a<2^s):b*2^s ||| a=b*2^s+a:=by rw[Nat.or_comm,Pq h,Nat.add_comm]
theorem Kp{a b:Nat}(h:a<4294967296):b*4294967296 ||| a=b*4294967296+a:=RO (s:=32) h
theorem HZ(a:List Nat)(d:Nat)(ha:Gn a)(hd:0<d)(hd2:d≤4294967296):ia a d=some (vl a%d,fF 4294967296 a.length (vl a/d)):=by
 obtain⟨hA,hla⟩:=ha
 unfold ia
 simp only[Option.bind_some]
 rw[cz (by omega) (by omega)]
 refine aY (fun i=>(vl a/4294967296^(a.length-i)%d,((a.length-i:Nat):Int)-1,fF 4294967296 a.length (qU 4294967296 (vl a) d (a.length-i)))) a.length (vl a%d,fF 4294967296 a.length (vl a/d)) ?_ (fun i hi=>?_) (by simp[RI]) ?_
 ·simp only[Nat.sub_zero]
  rw[Xx (jm a hA),AI a hA,Nat.div_eq_of_lt (jm a hA),Nat.zero_mod]
 ·obtain⟨m,hm⟩:∃m,a.length-i=m+1:=⟨a.length-i-1,by omega⟩
  have hm':a.length-(i+1)=m:=by omega
  have hml:m<a.length:=by omega
  rw[hm,hm']
  have hy:vl a/4294967296^m%4294967296<4294967296:=Nat.mod_lt _ (by decide)
  have hr:vl a/4294967296^(m+1)%d<d:=Nat.mod_lt _ hd
  have hq:=aaO (B:=4294967296) (by decide) hd (vl a) m
  have hqd:(vl a/4294967296^(m+1)%d*4294967296+vl a/4294967296^m%4294967296)/d<4294967296:=by rw[Nat.div_lt_iff_lt_mul hd,Nat.mul_comm 4294967296 d];exact hq
  have hg:=Xy (B:=4294967296) (by decide) (V:=vl a) (d:=d) (m:=m) (N:=a.length) hml
  have hlt:vl a/4294967296^(m+1)%d*4294967296+vl a/4294967296^m%4294967296<18446744073709551616:=by omega
  have Yb:vl a/4294967296^(m+1)%d*4294967296<18446744073709551616:=Nat.lt_of_le_of_lt (Nat.le_add_right _ _) hlt
  have C6:vl a/4294967296^m%4294967296<18446744073709551616:=Nat.lt_of_le_of_lt (Nat.le_add_left _ _) hlt
  have hi1:((m+1:Nat):Int)-1=(m:Int):=by omega
  simp only[hi1,show decide ((0:Int)≤(m:Int))=true by simp,cond_true,Option.bind_some]
  rw[cf (by rw[bk];omega),Option.bind_some,hg]
  simp only[Option.bind_some]
  rw[show(2:Nat)^32=4294967296 from rfl]
  rw[Nat.mod_eq_of_lt (a:=vl a/4294967296^(m+1)%d*4294967296) Yb,Nat.mod_eq_of_lt (a:=vl a/4294967296^m%4294967296) (b:=18446744073709551616) C6,Kp hy,Nat.mod_eq_of_lt (a:=vl a/4294967296^(m+1)%d*4294967296+vl a/4294967296^m%4294967296) hlt,F2 (by omega) hlt,AH (by omega)]
  simp only[Option.bind_some]
  rw[Nat.mod_eq_of_lt (b:=4294967296) (a:=(vl a/4294967296^(m+1)%d*4294967296+vl a/4294967296^m%4294967296)/d) hqd,fE (by rw[bk];omega),Option.bind_some,cz (by omega) (by omega)]
  rw[RL (B:=4294967296) (by decide) hd hml,←aaN (B:=4294967296) (d:=d) (vl a) m]
 ·simp only
  rw[qN (by rw[bk]),Option.bind_some]
theorem shiftLeft_eq(a:List Nat)(s:Nat)(ha:Gn a)(hs:s<32):fe a s=some (fF 4294967296 (a.length+1) (vl a*2^s)):=by
 obtain⟨hA,hla⟩:=ha
 have hf:2^s<4294967296:=by
  have:2^s<2^32:=Nat.pow_lt_pow_right (by decide) hs
  omega
 unfold fe
 simp only[Option.bind_some]
 rw[bw (by omega),CI (by decide) (by omega),Option.bind_some]
 refine aY (fun i=>((i:Int),sC 4294967296 (vl a) (2^s) 0 i,fF 4294967296 i (vl a*2^s+0))) a.length (sC 4294967296 (vl a) (2^s) 0 a.length,fF 4294967296 a.length (vl a*2^s+0)) (by simp[Kl,fF]) (fun i hi=>?_) (by simp) ?_
 ·have hx:vl a/4294967296^i%4294967296<4294967296:=Nat.mod_lt _ (by decide)
  have hc:=T4 (B:=4294967296) (by decide) (V:=vl a) hf (show(0:Nat)<4294967296 by decide) i
  have hxf:vl a/4294967296^i%4294967296*2^s≤4294967295*4294967295:=Nat.mul_le_mul (by omega) (by omega)
  have hg:a[i]? =some (vl a/4294967296^i%4294967296):=pX hA hi
  simp only[show decide ((i:Int)<(a.length:Int))=true by simp;omega,cond_true]
  rw[aQ hg]
  simp only[Option.bind_some]
  rw[show min s 64=s by omega,Nat.mod_eq_of_lt (a:=vl a/4294967296^i%4294967296) (b:=18446744073709551616) (by omega),Nat.mod_eq_of_lt (b:=18446744073709551616) (by omega),gS _ _ (by omega)]
  simp only[Option.bind_some]
  rw[DF (by decide) (by rw[bk];omega),Option.bind_some,Kn (B:=4294967296) (by decide),Pn (B:=4294967296) (by decide),bw (by omega),←oW]
 ·have hc:=T4 (B:=4294967296) (by decide) (V:=vl a) hf (show(0:Nat)<4294967296 by decide) a.length
  simp only
  rw[gS _ _ (by omega)]
  simp only[Option.bind_some]
  rw[DF (by decide) (by rw[bk];omega),Option.bind_some,Nat.zero_add,Xw (jm a hA),←oW]
  simp
theorem DH(a:List Nat)(s:Nat):iF a s=fe a s:=rfl
def w7:P7:=[0,1,2,2,3,3,3,3,4,4,4,4,4,4,4,4,5,5,5,5,5,5,5,5,5,5,5,5,5,5,5,5]++List.replicate 32 6++List.replicate 64 7++List.replicate 128 8
theorem Xz:∀y:Nat,y<256→vL w7 (y:Int)=some ((vL w7 (y:Int)).getD 0)∧(vL w7 (y:Int)).getD 0≤8∧y<2^(vL w7 (y:Int)).getD 0∧(y=0∨2^(vL w7 (y:Int)).getD 0≤2*y):=by decide+kernel
set_option maxRecDepth 20000 in
theorem Pr(x:Nat)(h:x<4294967296):∃n:Nat,gB x=some (n:Int)∧n≤32∧x<2^n∧(x=0∨2^n≤2*x):=by
 have key:∀(y k:Nat),y<256→y=x/2^k→k≤24→(x≠0→y≠0)→∃n:Nat,(((vL w7 ((y%256:Nat):Int)).bind fun gy=>(some (IntKind.i64.wrap (gy:Int))).bind fun gh=>(some (IntKind.i64.wrap ((k:Int)+gh))).bind fun eD=>some eD)=some (n:Int))∧n≤32∧x<2^n∧(x=0∨2^n≤2*x):=by
  intro y k hy hyx hk hnz
  obtain⟨h1,h2,h3,h4⟩:=Xz y hy
  rw[Nat.mod_eq_of_lt hy,h1]
  generalize (vL w7 (y:Int)).getD 0=t at*
  have hp:0<2^k:=Nat.two_pow_pos _
  have e1:2^(k+t)=2^k*2^t:=Nat.pow_add ..
  have e2:=Nat.div_add_mod x (2^k)
  have e3:=Nat.mod_lt x hp
  rw[←hyx]at e2
  refine⟨k+t,?_,by omega,?_,?_⟩
  ·simp only[Option.bind_some]
   rw[uZ (by omega),u0 (by omega)]
  ·rw[e1]
   have:2^k*(y+1)≤2^k*2^t:=Nat.mul_le_mul_left _ h3
   rw[Nat.mul_add]at this
   omega
  ·rcases h4 with h4|h4
   ·left
    cases Nat.eq_zero_or_pos x with
    |inl h=>exact h
    |inr h=>exact absurd h4 (hnz (by omega))
   ·right
    rw[e1]
    have:2^k*2^t≤2^k*(2*y):=Nat.mul_le_mul_left _ h4
    rw[show 2^k*(2*y)=2*(2^k*y) by rw[Nat.mul_left_comm]]at this
    omega
 unfold gB
 simp only[cm,Option.bind_some]
 by_cases c1:65536≤x
 ·rw[show decide (65536≤x)=true by simpa using c1]
  simp only[cond_true]
  by_cases c2:256≤x/2^16
  ·rw[show decide (256≤x/2^16)=true by simpa using c2]
   simp only[cond_true]
   rw[show IntKind.i64.wrap (16+8)=((24:Nat):Int) by decide]
   exact key (x/2^16/2^8) 24 (by omega) (by omega) (by omega) (by omega)
  ·rw[show decide (256≤x/2^16)=false by simpa using c2]
   simp only[cond_false]
   exact key (x/2^16) 16 (by omega) rfl (by omega) (by omega)
 ·rw[show decide (65536≤x)=false by simpa using c1]
  simp only[cond_false]
  by_cases c2:256≤x
  ·rw[show decide (256≤x)=true by simpa using c2]
   simp only[cond_true]
   rw[show IntKind.i64.wrap (0+8)=((8:Nat):Int) by decide]
   exact key (x/2^8) 8 (by omega) rfl (by omega) (by omega)
  ·rw[show decide (256≤x)=false by simpa using c2]
   simp only[cond_false]
   exact key x 0 (by omega) (by simp) (by omega) (fun h=>h)
theorem aaQ(x:Nat)(h:x<4294967296)(h0:x≠0):∃s:Nat,cW x=some (s:Int)∧s<32∧2147483648≤x*2^s∧x*2^s<4294967296:=by
 obtain⟨n,h1,h2,h3,h4⟩:=Pr x h
 have h4:2^n≤2*x:=h4.resolve_left h0
 have hn:n≠0:=by rintro rfl;simp at h3;omega
 refine⟨32-n,?_,by omega,?_,?_⟩
 ·unfold cW
  rw[h1]
  simp only[Option.bind_some]
  rw[cz (by omega) (by omega)]
  congr 1;omega
 ·have:2^n*2^(32-n)≤2*x*2^(32-n):=Nat.mul_le_mul_right _ h4
  rw[←Nat.pow_add,show n+(32-n)=32 by omega,Nat.mul_assoc]at this
  omega
 ·have:x*2^(32-n)<2^n*2^(32-n):=Nat.mul_lt_mul_of_pos_right h3 (Nat.two_pow_pos _)
  rw[←Nat.pow_add,show n+(32-n)=32 by omega]at this
  omega
end Go.Proofs.YtningmnklfpfjaaGreat
namespace Go.Fw
section aaR
variable {B V U W:Nat}
theorem XA{P F T:Nat}(hP:0<P)(hF:0<F)(hV:F*P≤V)(hU:U<(T+1)*P):U/V≤T/F:=by
 have RQ:0<V:=Nat.lt_of_lt_of_le (Nat.mul_pos hF hP) hV
 rw[Nat.le_div_iff_mul_le hF]
 rcases Nat.lt_or_ge T (U/V*F)with h|h
 ·exfalso
  have h1:U/V*V≤U:=Nat.div_mul_le_self U V
  have h2:U/V*(F*P)≤U/V*V:=Nat.mul_le_mul_left _ hV
  have h3:(T+1)*P≤U/V*F*P:=Nat.mul_le_mul_right _ h
  rw[Nat.mul_assoc]at h3
  omega
 ·exact h
theorem RR{P F S T u g r:Nat}(hV:(F*B+S)*P≤V)(hU:U<(T*B+u+1)*P)(YQ:g*F+r=T)(h:r*B+u<g*S):U<g*V:=by
 have h1:g*((F*B+S)*P)≤g*V:=Nat.mul_le_mul_left _ hV
 have h2:(T*B+u+1)*P≤g*(F*B+S)*P:=by
  apply Nat.mul_le_mul_right
  rw[Nat.mul_add,←Nat.mul_assoc,←YQ,Nat.add_mul]
  omega
 rw[Nat.mul_assoc]at h2
 omega
theorem XB{P V2 U2 g:Nat}(hV:V<(V2+1)*P)(hU:U2*P≤U)(hq:U/V<B)(hB:B≤V2)(RQ:0<V)(h:g*V2≤U2):g≤U/V+1:=by
 rcases Nat.lt_or_ge (U/V+1) g with h'|h'
 ·exfalso
  have h1:U<(U/V+1)*V:=by have:=Nat.lt_div_mul_add (a:=U) RQ;rw[Nat.add_mul,Nat.one_mul];exact this
  have h2:(U/V+1)*V≤(U/V+1)*((V2+1)*P):=Nat.mul_le_mul_left _ (Nat.le_of_lt hV)
  have h3:g*V2*P≤U2*P:=Nat.mul_le_mul_right _ h
  have h4:(U/V+2)*V2≤g*V2:=Nat.mul_le_mul_right _ h'
  have h5:(U/V+2)*V2*P≤g*V2*P:=Nat.mul_le_mul_right _ h4
  have h6:(U/V+1)*((V2+1)*P)≤(U/V+2)*V2*P:=by
   rw[←Nat.mul_assoc]
   apply Nat.mul_le_mul_right
   rw[Nat.mul_add,Nat.add_mul (U/V) 2 V2,Nat.add_mul (U/V) 1 V2]
   omega
  omega
 ·exact h'
end aaR
def mix(B o i X U A:Nat):Nat:=A%B^o+B^o*(X%B^i+B^i*(U/B^i))
theorem Kq(B o i X U A:Nat):mix B o i X U A%B^o=A%B^o:=by rw[mix,Nat.add_mul_mod_self_left,Nat.mod_mod]
section mix
variable {B:Nat}(hB:0<B)(o i X U A:Nat)
include hB
theorem xZ:mix B o i X U A/B^o=X%B^i+B^i*(U/B^i):=by
 rw[mix,Nat.add_mul_div_left _ _ (Nat.pow_pos hB),Nat.div_eq_of_lt (Nat.mod_lt _ (Nat.pow_pos hB)),Nat.zero_add]
theorem ya:mix B o i X U A/B^(o+i)=U/B^i:=by
 rw[Nat.pow_add,←Nat.div_div_eq_div_mul,xZ hB,Nat.add_mul_div_left _ _ (Nat.pow_pos hB),Nat.div_eq_of_lt (Nat.mod_lt _ (Nat.pow_pos hB)),Nat.zero_add]
theorem RU:mix B o i X U A%B^(o+i)=A%B^o+B^o*(X%B^i):=by
 rw[Nat.pow_add,Nat.mod_mul,Kq,xZ hB,Nat.add_mul_mod_self_left,Nat.mod_mod]
theorem F9{N:Nat}(h:o+i<N):(fF B N (mix B o i X U A)).set (o+i) (X/B^i%B)=fF B N (mix B o (i+1) X U A):=by
 apply vc hB h (Nat.mod_lt _ hB)
 ·rw[RU hB,Nat.pow_add,Nat.mod_mul,Kq,xZ hB,Nat.pow_succ B i,Nat.mul_assoc,Nat.add_mul_mod_self_left,Nat.mod_mul,Nat.add_mul_mod_self_left,Nat.mod_mod]
 ·rw[Nat.pow_add,←Nat.div_div_eq_div_mul,xZ hB,Nat.pow_succ B i,Nat.mod_mul,Nat.mul_assoc,Nat.add_assoc,←Nat.mul_add,Nat.add_mul_div_left _ _ (Nat.pow_pos hB),Nat.div_eq_of_lt (Nat.mod_lt _ (Nat.pow_pos hB)),Nat.zero_add,Nat.add_mul_mod_self_left,Nat.mod_mod]
 ·have h1:=ya hB o (i+1) X U A
  have h2:=ya hB o i X U A
  rw[show o+i+1=o+(i+1) by omega,h1,show o+(i+1)=(o+i)+1 by omega,Nat.pow_succ B (o+i),←Nat.div_div_eq_div_mul,h2,Nat.pow_succ,←Nat.div_div_eq_div_mul]
end mix
theorem H6{B o m X U A:Nat}(hU:U<B^m):mix B o m X U A=A%B^o+B^o*(X%B^m):=by rw[mix,Nat.div_eq_of_lt hU];simp
theorem H7{B:Nat}(o X A:Nat):mix B o 0 X (A/B^o) A=A:=by
 simp only[mix,Nat.pow_zero,Nat.mod_one,Nat.zero_add,Nat.one_mul,Nat.div_one]
 exact Nat.mod_add_div A (B^o)
theorem LJ{B U U' T i:Nat}(h:U%B^i=U'%B^i):Am B U T i=Am B U' T i:=by rw[Am,Am,h]
theorem Ps{B:Nat}(hB:0<B){U T m i:Nat}(hi:i<m)(hT:T≤U+B^m):(U/B^i%B+(B-1-T/B^i%B)+Am B U T i)%B=(U+B^m-T)/B^i%B:=by
 have e:B^m=B^i*(B*B^(m-i-1)):=by rw[←Nat.pow_succ',←Nat.pow_add];congr 1;omega
 have h1:(U+B^m)%B^i=U%B^i:=by rw[e,Nat.add_mul_mod_self_left]
 have h2:(U+B^m)/B^i%B=U/B^i%B:=by rw[e,Nat.add_mul_div_left _ _ (Nat.pow_pos hB),Nat.add_mul_mod_self_left]
 rw[←h2,LJ (U':=U+B^m) h1.symm,Ki hB hT]
theorem RV{B m U T:Nat}(hB:0<B)(hU:U<B^m)(hT:T<B^m):Am B U T m=if U<T then 0 else 1:=by
 rw[Am,Nat.mod_eq_of_lt hU,Nat.mod_eq_of_lt hT]
 have hp:0<B^m:=Nat.pow_pos hB
 split
 ·exact Nat.div_eq_of_lt (by omega)
 ·rw[show U+B^m-T=(U-T)+B^m by omega,Nat.add_div_right _ hp,Nat.div_eq_of_lt (by omega)]
end Go.Fw
namespace Go.Proofs.YtningmnklfpfjaaGreat
open Go.Fw
theorem nD{N A j:Nat}(h:j<N):(fF 4294967296 N A)[j]? =some (A/4294967296^j%4294967296):=xX N A j h
theorem two32:(2:Nat)^32=4294967296:=rfl
theorem aaS:(2:Nat)^63=9223372036854775808:=rfl
theorem Ga(A o j:Nat):A/4294967296^(o+j)=A/4294967296^o/4294967296^j:=by rw[Nat.pow_add,Nat.div_div_eq_div_mul]
theorem H8{N A o n:Nat}{v:List Nat}(hv:Gn v)(hn:v.length=n+2)(hN:N≤100000000001)(ho:o+(n+2)<N)
  (hU:A/4294967296^o<4294967296*vl v) (Pt:2147483648*4294967296^(n+1)≤vl v):
  ∃r,ic (fF 4294967296 N A) o (n+3) v=some r∧r.2=fF 4294967296 N A∧A/4294967296^o/vl v≤r.1∧r.1≤A/4294967296^o/vl v+1:=by
 obtain⟨hV,hlv⟩:=hv
 obtain⟨U,Qf⟩:∃U,A/4294967296^o=U:=⟨_,rfl⟩
 obtain⟨V,Qg⟩:∃V,vl v=V:=⟨_,rfl⟩
 have An:V<4294967296^(n+2):=by rw[←Qg,←hn];exact jm v hV
 have T6:0<4294967296^(n+1):=Nat.pow_pos (by decide)
 have hP:0<4294967296^n:=Nat.pow_pos (by decide)
 have XC:4294967296^(n+1)=4294967296^n*4294967296:=Nat.pow_succ ..
 have H9:4294967296^(n+2)=4294967296^(n+1)*4294967296:=Nat.pow_succ ..
 rw[Qf,Qg]at hU⊢
 rw[Qg]at Pt
 have aaT:U<4294967296^(n+1)*4294967296*4294967296:=by
  have:4294967296*V<4294967296*4294967296^(n+2):=Nat.mul_lt_mul_of_pos_left An (by decide)
  rw[H9]at this
  omega
 obtain⟨F,hF⟩:∃F,V/4294967296^(n+1)=F:=⟨_,rfl⟩
 obtain⟨S,hS⟩:∃S,V/4294967296^n%4294967296=S:=⟨_,rfl⟩
 obtain⟨T,hT⟩:∃T,U/4294967296^(n+1)=T:=⟨_,rfl⟩
 obtain⟨u,hu⟩:∃u,U/4294967296^n%4294967296=u:=⟨_,rfl⟩
 have agx:F<4294967296:=by rw[←hF,Nat.div_lt_iff_lt_mul T6];rw[H9,Nat.mul_comm]at An;exact An
 have ajp:2147483648≤F:=by rw[←hF,Nat.le_div_iff_mul_le T6];exact Pt
 have ajq:S<4294967296:=by rw[←hS];exact Nat.mod_lt _ (by decide)
 have aaU:u<4294967296:=by rw[←hu];exact Nat.mod_lt _ (by decide)
 have agy:T<4294967296*4294967296:=by rw[←hT,Nat.div_lt_iff_lt_mul T6];rw[Nat.mul_comm,←Nat.mul_assoc];exact aaT
 have hV2:V/4294967296^n=F*4294967296+S:=by rw[←hF,←hS,XC,←Nat.div_div_eq_div_mul,Nat.mul_comm,Nat.div_add_mod]
 have hU2:U/4294967296^n=T*4294967296+u:=by rw[←hT,←hu,XC,←Nat.div_div_eq_div_mul,Nat.mul_comm,Nat.div_add_mod]
 have hq:U/V<4294967296:=by rw[Nat.div_lt_iff_lt_mul (by omega)];exact hU
 have aaV:(F*4294967296+S)*4294967296^n≤V:=by rw[←hV2];exact Nat.div_mul_le_self _ _
 have aaW:V<(F*4294967296+S+1)*4294967296^n:=by rw[←hV2,Nat.add_mul,Nat.one_mul];exact Nat.lt_div_mul_add hP
 have aaX:(T*4294967296+u)*4294967296^n≤U:=by rw[←hU2];exact Nat.div_mul_le_self _ _
 have aaY:U<(T*4294967296+u+1)*4294967296^n:=by rw[←hU2,Nat.add_mul,Nat.one_mul];exact Nat.lt_div_mul_add hP
 have T7:F*4294967296^(n+1)≤V:=by rw[←hF];exact Nat.div_mul_le_self _ _
 have T8:U<(T+1)*4294967296^(n+1):=by rw[←hT,Nat.add_mul,Nat.one_mul];exact Nat.lt_div_mul_add T6
 have T9:V<(F+1)*4294967296^(n+1):=by rw[←hF,Nat.add_mul,Nat.one_mul];exact Nat.lt_div_mul_add T6
 have hTF:T<4294967296*(F+1):=by
  rw[←hT,Nat.div_lt_iff_lt_mul T6]
  have:4294967296*V<4294967296*((F+1)*4294967296^(n+1)):=Nat.mul_lt_mul_of_pos_left T9 (by decide)
  rw[Nat.mul_assoc]
  omega
 have g1:(fF 4294967296 N A)[o+(n+2)]? =some (U/4294967296^(n+2)%4294967296):=by rw[nD (by omega),Ga,Qf]
 have g2:(fF 4294967296 N A)[o+(n+1)]? =some (U/4294967296^(n+1)%4294967296):=by rw[nD (by omega),Ga,Qf]
 have g3:(fF 4294967296 N A)[o+n]? =some u:=by rw[nD (by omega),Ga,Qf,hu]
 have g4:v[n+1]? =some F:=by rw[pX hV (by omega),show val 4294967296 v=V from Qg,hF,Nat.mod_eq_of_lt agx]
 have g5:v[n]? =some S:=by rw[pX hV (by omega),show val 4294967296 v=V from Qg,hS]
 have hun:U/4294967296^(n+2)<4294967296:=by rw[H9,←Nat.div_div_eq_div_mul,hT,Nat.div_lt_iff_lt_mul (by decide)];exact agy
 have Jo:U/4294967296^(n+2)%4294967296*4294967296+U/4294967296^(n+1)%4294967296=T:=by
  rw[Nat.mod_eq_of_lt hun,H9,←Nat.div_div_eq_div_mul,hT,Nat.mul_comm,Nat.div_add_mod]
 obtain⟨t1,ht1⟩:∃t,U/4294967296^(n+2)%4294967296=t:=⟨_,rfl⟩
 obtain⟨t2,ht2⟩:∃t,U/4294967296^(n+1)%4294967296=t:=⟨_,rfl⟩
 have l1:t1<4294967296:=by rw[←ht1];exact Nat.mod_lt _ (by decide)
 have l2:t2<4294967296:=by rw[←ht2];exact Nat.mod_lt _ (by decide)
 rw[ht1]at g1 Jo
 rw[ht2]at g2 Jo
 clear ht1 ht2 hU2 hV2
 have c1:((n+2:Nat):Int)-1=((n+1:Nat):Int):=by omega
 have c2:((n+2:Nat):Int)-2=(n:Int):=by omega
 unfold ic
 simp only[Option.bind_some,hn,c1,c2]
 rw[uZ (by omega),uZ (by omega),AG (by omega),AG (by omega),AG (by omega)]
 simp only[Option.bind_some]
 rw[g1,g2,aQ g4,aQ g5]
 simp only[Option.bind_some,two32]
 rw[Nat.mod_eq_of_lt (a:=t1) (by omega),Nat.mod_eq_of_lt (a:=t2) (by omega),Nat.mod_eq_of_lt (a:=t1*4294967296) (by omega),Kp l2,Jo,Nat.mod_eq_of_lt (a:=T) (by omega),Nat.mod_eq_of_lt (a:=F) (by omega),Nat.mod_eq_of_lt (a:=S) (by omega),F2 (by omega) (by omega),AH (by omega)]
 simp only[Option.bind_some]
 have agD:=XA (V:=V) (U:=U) T6 (show 0<F by omega) T7 T8
 have hle:∀g,g*(F*4294967296+S)≤T*4294967296+u→g≤U/V+1:=fun g h=>XB (B:=4294967296) aaW aaX hq (by omega) (by omega) h
 have agE:∀g r,g*F+r=T→r*4294967296+u<g*S→U/V<g:=fun g r i1 ht=>(Nat.div_lt_iff_lt_mul (by omega)).2 (RR aaV aaY i1 ht)
 have hg0:T/F≤4294967297:=by
  have:T/F<4294967298:=by
   rw[Nat.div_lt_iff_lt_mul (by omega)]
   omega
  omega
 generalize U/V=q at*
 clear aaV aaW aaX aaY T7 T8 T9 hTF aaT Pt An XC H9 hP T6 hF hS hT hu Qf Qg hU
 have hdm:=Nat.div_add_mod T F
 have hml:=Nat.mod_lt T (show 0<F by omega)
 have agF:T/F*F+T%F=T:=by rw[Nat.mul_comm];exact hdm
 clear hdm
 refine n9 (fun x=>x.1*F+x.2=T∧q≤x.1∧x.2<4294967296∧x.1≤4294967297) (fun e=>q≤e∧e≤q+1) (fun x=>x.1) ?_ ⟨agF,agD,by show T%F<_;omega,hg0⟩ ?_
 ·rintro⟨g,r⟩ ⟨i1,i2,i3,i4⟩
  simp only at i1 i2 i3 i4
  have down:q<g→(∃s',(bif decide ((r+F)%18446744073709551616/4294967296≠0)then some (.inr (pg 18446744073709551616 g 1))else some (.inl (pg 18446744073709551616 g 1,(r+F)%18446744073709551616)):Option ((Nat×Nat)⊕Nat))=some (.inl s')∧(s'.1*F+s'.2=T∧q≤s'.1∧s'.2<4294967296∧s'.1≤4294967297)∧s'.1<g)∨
    (∃e,(bif decide ((r+F)%18446744073709551616/4294967296≠0)then some (.inr (pg 18446744073709551616 g 1))else some (.inl (pg 18446744073709551616 g 1,(r+F)%18446744073709551616)):Option ((Nat×Nat)⊕Nat))=some (.inr e)∧q≤e∧e≤q+1):=by
   intro hlt
   have e1:(g-1)*F+(r+F)=T:=by
    obtain⟨k,rfl⟩:∃k,g=k+1:=⟨g-1,by omega⟩
    rw[Nat.add_sub_cancel];rw[Nat.add_mul]at i1;omega
   rw[sE (by omega) (by omega),Nat.mod_eq_of_lt (a:=r+F) (by omega)]
   by_cases hb:r+F<4294967296
   ·left
    refine⟨(g-1,r+F),by simp[Nat.div_eq_of_lt hb],⟨e1,by simp only;omega,hb,by simp only;omega⟩,by simp only;omega⟩
   ·right
    have hne:(r+F)/4294967296≠0:=by omega
    refine⟨g-1,by simp[hne],by omega,?_⟩
    refine hle _ ?_
    have m1:(g-1)*S≤4294967296*4294967295:=Nat.mul_le_mul (by omega) (by omega)
    rw[Nat.mul_add,←Nat.mul_assoc]
    have m2:((g-1)*F+(r+F))*4294967296=T*4294967296:=by rw[e1]
    rw[Nat.add_mul]at m2
    omega
  simp only[cm,bL]
  by_cases hg:g<4294967296
  ·rw[show decide (g/4294967296≠0)=false by simp;omega]
   have hgS:g*S≤4294967295*4294967295:=Nat.mul_le_mul (by omega) (by omega)
   simp only[jN]
   rw[g3]
   simp only[bL]
   rw[Nat.mod_eq_of_lt (a:=g*S) (by omega),Nat.mod_eq_of_lt (a:=r*4294967296) (by omega),Nat.mod_eq_of_lt (a:=u) (by omega),Kp aaU,Nat.mod_eq_of_lt (a:=r*4294967296+u) (by omega)]
   by_cases ht:r*4294967296+u<g*S
   ·rw[show decide (r*4294967296+u<g*S)=true by simpa using ht]
    simp only[bL,jl]
    exact down (agE _ _ i1 ht)
   ·rw[show decide (r*4294967296+u<g*S)=false by simpa using ht]
    right
    refine⟨g,by simp,i2,?_⟩
    refine hle _ ?_
    rw[Nat.mul_add,←Nat.mul_assoc,←i1,Nat.add_mul]
    omega
  ·rw[show decide (g/4294967296≠0)=true by simp;omega]
   simp only[bL,jl]
   exact down (by omega)
 ·rintro e ⟨h2,h3⟩
  exact⟨(e,fF 4294967296 N A),by rw[qN rfl,Option.bind_some],rfl,h2,h3⟩
end Go.Proofs.YtningmnklfpfjaaGreat
namespace Go.Proofs.YtningmnklfpfjaaGreat
open Go.Fw
theorem vE{N A o n f:Nat}{v:List Nat}(hv:Gn v)(hn:v.length=n)(hN:N≤100000000001)(ho:o+n<N)(hf:f≤4294967296)
  (hU:A/4294967296^o<4294967296^(n+1)):
  cK (fF 4294967296 N A) o (n+1) v f=some (decide (A/4294967296^o<vl v*f),fF 4294967296 N (A%4294967296^o+4294967296^o*((A/4294967296^o+4294967296^(n+1)-vl v*f)%4294967296^(n+1)))):=by
 obtain⟨hV,hlv⟩:=hv
 obtain⟨U,Qf⟩:∃U,A/4294967296^o=U:=⟨_,rfl⟩
 obtain⟨V,Qg⟩:∃V,vl v=V:=⟨_,rfl⟩
 have An:V<4294967296^n:=by rw[←Qg,←hn];exact jm v hV
 have Ms:4294967296^(n+1)=4294967296^n*4294967296:=Nat.pow_succ ..
 have hT:V*f<4294967296^(n+1):=by
  rw[Ms]
  calc V*f≤V*4294967296:=Nat.mul_le_mul_left _ hf
   _<4294967296^n*4294967296:=Nat.mul_lt_mul_of_pos_right An (by decide)
 rw[Qf]at hU⊢
 rw[Qg]
 obtain⟨X,hX⟩:∃X,U+4294967296^(n+1)-V*f=X:=⟨_,rfl⟩
 rw[hX]
 unfold cK
 simp only[bL]
 have XD:∀i,Am 4294967296 U (V*f) i≤1:=fun i=>Pm (by decide) _ _ _
 refine aY (fun i=>(1-Am 4294967296 U (V*f) i,(i:Int),sC 4294967296 V f 0 i,fF 4294967296 N (mix 4294967296 o i X U A))) (n+1) (1-Am 4294967296 U (V*f) (n+1),fF 4294967296 N (mix 4294967296 o (n+1) X U A)) ?_ (fun i hi=>?_) ?_ ?_
 ·rw[HV,Kl,←Qf,H7];rfl
 ·
  obtain⟨t,ht⟩:∃t,V*f/4294967296^i%4294967296=t:=⟨_,rfl⟩
  obtain⟨c,hc⟩:∃c,sC 4294967296 V f 0 i=c:=⟨_,rfl⟩
  obtain⟨p,hp⟩:∃p,V/4294967296^i%4294967296*f=p:=⟨_,rfl⟩
  have ajt:c<4294967296:=by
   rw[←hc,sC,sT,Nat.add_zero,Nat.div_lt_iff_lt_mul (Nat.pow_pos (by decide))]
   calc V%4294967296^i*f≤V%4294967296^i*4294967296:=Nat.mul_le_mul_left _ hf
    _<4294967296*4294967296^i:=by rw[Nat.mul_comm];exact Nat.mul_lt_mul_of_pos_left (Nat.mod_lt _ (Nat.pow_pos (by decide))) (by decide)
  have aju:p≤4294967295*4294967296:=by
   rw[←hp];exact Nat.mul_le_mul (by have:=Nat.mod_lt (V/4294967296^i) (show 0<4294967296 by decide);omega) hf
  have Xt:(p+c)%4294967296=t:=by rw[←hp,←hc,Pn (B:=4294967296) (by decide),Nat.add_zero,ht]
  have hstep:(p+c)/4294967296=sC 4294967296 V f 0 (i+1):=by rw[←hp,←hc,Kn (B:=4294967296) (by decide)]
  have ajv:t<4294967296:=by rw[←ht];exact Nat.mod_lt _ (by decide)
  obtain⟨u,hu⟩:∃u,U/4294967296^i%4294967296=u:=⟨_,rfl⟩
  have aaU:u<4294967296:=by rw[←hu];exact Nat.mod_lt _ (by decide)
  have hg:(fF 4294967296 N (mix 4294967296 o i X U A))[o+i]? =some u:=by rw[nD (by omega),ya (by decide),hu]
  have hl:=XD i
  obtain⟨l,hle⟩:∃l,Am 4294967296 U (V*f) i=l:=⟨_,rfl⟩
  have hxd:(u+(4294967296-1-t)+l)%4294967296=X/4294967296^i%4294967296:=by rw[←hu,←ht,←hle,Ps (B:=4294967296) (by decide) hi (by omega),hX]
  have hls:(u+(4294967296-1-t)+l)/4294967296=Am 4294967296 U (V*f) (i+1):=by rw[←hu,←ht,←hle,HW (B:=4294967296) (by decide)]
  rw[hle]at hl
  have hput:=F9 (B:=4294967296) (by decide) o i X U A (N:=N) (by omega)
  rw[hle,hc,←hls]
  simp only[show decide ((i:Int)<((n+1:Nat):Int))=true by simp;omega,jl,bL,cm]
  rw[AG (by omega)]
  simp only[bL,hg]
  have way:∀k:Nat→Option ((Nat×Int×Nat×List Nat)⊕(Nat×List Nat)),(bif decide ((i:Int)<(v.length:Int))then(cC v (i:Int)).bind fun gM=>k (gM%18446744073709551616*f%18446744073709551616)else k 0)=k p:=by
   intro k
   by_cases hin:i<v.length
   ·rw[show decide ((i:Int)<(v.length:Int))=true by simp;omega,jl]
    have Gk:v[i]? =some (V/4294967296^i%4294967296):=by rw[←Qg];exact pX hV hin
    rw[aQ Gk,bL,Nat.mod_eq_of_lt (a:=V/4294967296^i%4294967296) (b:=18446744073709551616) (by have:=Nat.mod_lt (V/4294967296^i) (show 0<4294967296 by decide);omega),hp,Nat.mod_eq_of_lt (a:=p) (by omega)]
   ·rw[show decide ((i:Int)<(v.length:Int))=false by simp;omega,jN]
    have:V/4294967296^i=0:=Nat.div_eq_of_lt (Nat.lt_of_lt_of_le An (Nat.pow_le_pow_right (by decide) (by omega)))
    rw[←hp,this];simp
  refine(way (fun y=>(bj y c).bind _)).trans ?_
  rw[gS _ _ (by omega)]
  simp only[bL]
  rw[Xt,hstep,Nat.mod_eq_of_lt (a:=u) (by omega),Nat.mod_eq_of_lt (a:=t) (by omega)]
  rw[fE (by rw[bk];omega),bL,bw (by omega),aaS]
  by_cases UC:u<t+(1-l)
  ·have e1:pg 18446744073709551616 (pg 18446744073709551616 u t) (1-l)=18446744073709551616+u-t-(1-l):=by
    by_cases h1:u<t
    ·rw[AF h1 (by omega),sE (by omega) (by omega)]
    ·rw[sE (a:=u) (b:=t) (by omega) (by omega),AF (by omega) (by omega)];omega
   rw[e1]
   have e2:(18446744073709551616+u-t-(1-l))%4294967296=X/4294967296^i%4294967296:=by rw[←hxd];omega
   have e3:(18446744073709551616+u-t-(1-l))/9223372036854775808=1-(u+(4294967296-1-t)+l)/4294967296:=by omega
   rw[e2,e3,hput]
  ·have e1:pg 18446744073709551616 (pg 18446744073709551616 u t) (1-l)=u-t-(1-l):=by
    rw[sE (a:=u) (b:=t) (by omega) (by omega),sE (by omega) (by omega)]
   rw[e1]
   have e2:(u-t-(1-l))%4294967296=X/4294967296^i%4294967296:=by rw[←hxd];omega
   have e3:(u-t-(1-l))/9223372036854775808=1-(u+(4294967296-1-t)+l)/4294967296:=by omega
   rw[e2,e3,hput]
 ·simp
 ·simp only[bL]
  rw[qN (by rw[bk,bk]),bL,H6 hU,RV (by decide) hU hT]
  congr 2
  by_cases h:U<V*f<;>simp[h]
end Go.Proofs.YtningmnklfpfjaaGreat
namespace Go.Proofs.YtningmnklfpfjaaGreat
open Go.Fw
theorem aaZ{B V:Nat}(hB:0<B)(hV:0<V)(A k:Nat):A%(V*B^(k+1))/B^k<B*V:=by
 rw[Nat.div_lt_iff_lt_mul (Nat.pow_pos hB)]
 have:V*B^(k+1)=B*V*B^k:=by rw[Nat.pow_succ,Nat.mul_comm (B^k),←Nat.mul_assoc,Nat.mul_comm V]
 rw[←this]
 exact Nat.mod_lt _ (Nat.mul_pos hV (Nat.pow_pos hB))
theorem XE{B V:Nat}(A k:Nat):A%(V*B^(k+1))%B^k+B^k*(A%(V*B^(k+1))/B^k%V)=A%(V*B^k):=by
 rw[←Nat.mod_mul,Nat.mul_comm (B^k),Nat.mod_mod_of_dvd]
 rw[Nat.pow_succ,←Nat.mul_assoc];exact Nat.dvd_mul_right _ _
theorem XF{B V:Nat}(A k:Nat):A%(V*B^(k+1))/B^k/V=A/V/B^k%B:=by
 rw[Nat.div_div_eq_div_mul,Nat.mul_comm (B^k),Nat.pow_succ,←Nat.mul_assoc,Nat.mod_mul_right_div_self,Nat.div_div_eq_div_mul]
theorem Pu{B:Nat}(hB:0<B){N k:Nat}(h:k<N)(Q:Nat):(fF B N (Q/B^(k+1)*B^(k+1))).set k (Q/B^k%B)=fF B N (Q/B^k*B^k):=by
 have hP:0<B^k:=Nat.pow_pos hB
 refine vc hB h (Nat.mod_lt _ hB) ?_ ?_ ?_
 ·rw[Nat.mul_mod_left,Nat.pow_succ,Nat.mul_comm (B^k),←Nat.mul_assoc,Nat.mul_mod_left]
 ·rw[Nat.mul_div_cancel _ hP]
 ·rw[Nat.mul_div_cancel _ (Nat.pow_pos hB),Nat.pow_succ,←Nat.div_div_eq_div_mul,Nat.mul_div_cancel _ hP,Nat.div_div_eq_div_mul]
theorem Kr{α:Type}{l:List α}{o n:Nat}(h:o<l.length)(h':o+n≤l.length):UN l (o:Int) ((o+n:Nat):Int)=some (o,n):=by
 unfold UN
 rw[if_pos (by omega)]
 congr 2
 omega
theorem RW{U V g M:Nat}(hV:0<V)(h1:U/V≤g)(h2:g≤U/V+1)(hM:U<M)(hVM:V≤M):
  (V*g≤U∧g=U/V∧(U+M-V*g)%M=U%V)∨(U<V*g∧g=U/V+1∧U+M-V*g<M∧(U+M-V*g+V)%M=U%V):=by
 have hd:=Nat.div_add_mod U V
 have hm:=Nat.mod_lt U hV
 revert h1 h2 hd hm
 generalize U/V=q
 generalize U%V=r
 intro h1 h2 hd hm
 rcases Nat.lt_or_ge q g with h|h
 ·obtain rfl:g=q+1:=by omega
  have e:V*(q+1)=V*q+V:=Nat.mul_succ ..
  right
  refine⟨by omega,rfl,by omega,?_⟩
  rw[show U+M-V*(q+1)+V=r+M by omega,Nat.add_mod_right,Nat.mod_eq_of_lt (by omega)]
 ·obtain rfl:g=q:=by omega
  left
  refine⟨by omega,rfl,?_⟩
  rw[show U+M-V*g=r+M by omega,Nat.add_mod_right,Nat.mod_eq_of_lt (by omega)]
theorem RX{R D e i:Nat}(hD:0<D)(he:4294967296=D*e):(R*D/4294967296^(i+1)%4294967296*4294967296+R*D/4294967296^i%4294967296)/D%4294967296=R/4294967296^i%4294967296:=by
 have h1:R*D/4294967296^(i+1)%4294967296*4294967296+R*D/4294967296^i%4294967296=R*D/4294967296^i%(4294967296*4294967296):=by
  rw[Nat.mod_mul,Nat.div_div_eq_div_mul,show 4294967296^i*4294967296=4294967296^(i+1)from(Nat.pow_succ ..).symm,Nat.add_comm,Nat.mul_comm 4294967296]
 have h2:(4294967296*4294967296:Nat)=D*(e*4294967296):=by
  rw[←Nat.mul_assoc,←he]
 rw[h1,h2,Nat.mod_mul_right_div_self,Nat.mod_mul_left_mod,Nat.div_div_eq_div_mul,Nat.mul_comm (4294967296^i) D,←Nat.div_div_eq_div_mul,Nat.mul_div_cancel _ hD]
theorem XG{B:Nat}(hB:0<B){N i R:Nat}(h:i<N):(fF B N (R%B^i)).set i (R/B^i%B)=fF B N (R%B^(i+1)):=by
 refine vc hB h (Nat.mod_lt _ hB) ?_ ?_ ?_
 ·rw[Nat.mod_mod,Nat.mod_mod_of_dvd _ (Nat.pow_dvd_pow _ (Nat.le_succ i))]
 ·rw[Nat.pow_succ,Nat.mod_mul_right_div_self,Nat.mod_mod]
 ·rw[Nat.div_eq_of_lt (Nat.mod_lt _ (Nat.pow_pos hB)),Nat.div_eq_of_lt]
  exact Nat.lt_of_lt_of_le (Nat.mod_lt _ (Nat.pow_pos hB)) (Nat.pow_le_pow_right hB (Nat.le_succ i))
theorem Jp(a b:List Nat)(ha:Gn a)(hb:Gn b){n:Nat}(hn:b.length=n+2)(hl:b.length≤a.length)(Jo:b[n+1]? ≠some 0):
  fm a b=some (fF 4294967296 (a.length-b.length+1) (vl a/vl b),fF 4294967296 b.length (vl a%vl b)):=by
 obtain⟨hA,hla⟩:=ha
 obtain⟨hB,hlb⟩:=hb
 have hP:∀k,0<4294967296^k:=fun k=>Nat.pow_pos (by decide)
 obtain⟨Va,hVa⟩:∃V,vl a=V:=⟨_,rfl⟩
 obtain⟨Vb,hVb⟩:∃V,vl b=V:=⟨_,rfl⟩
 have XH:Vb<4294967296^(n+2):=by rw[←hVb,←hn];exact jm b hB
 have halt:Va<4294967296^a.length:=by rw[←hVa];exact jm a hA
 have H9:4294967296^(n+2)=4294967296^(n+1)*4294967296:=Nat.pow_succ ..
 obtain⟨x,hx⟩:∃x,Vb/4294967296^(n+1)=x:=⟨_,rfl⟩
 have aa0:x<4294967296:=by rw[←hx,Nat.div_lt_iff_lt_mul (hP _)];rw[H9,Nat.mul_comm]at XH;exact XH
 have hgx:b[n+1]? =some x:=by rw[pX hB (by omega),show val 4294967296 b=Vb from hVb,hx,Nat.mod_eq_of_lt aa0]
 have hx0:x≠0:=fun e=>Jo (by rw[hgx,e])
 obtain⟨s,Yb,C6,hs3,hs4⟩:=aaQ x aa0 hx0
 have hp2:0<2^s:=Nat.two_pow_pos s
 have aa2:2^s<4294967296:=by
  have:2^s<2^32:=Nat.pow_lt_pow_right (by decide) C6
  rw[two32]at this;exact this
 obtain⟨D,hD⟩:∃D,2^s=D:=⟨_,rfl⟩
 rw[hD]at hs3 hs4 hp2 aa2
 obtain⟨V,hV⟩:∃V,Vb*D=V:=⟨_,rfl⟩
 obtain⟨A,hAe⟩:∃A,Va*D=A:=⟨_,rfl⟩
 have An:V<4294967296^(n+2):=by
  have h1:Vb<(x+1)*4294967296^(n+1):=by rw[←hx,Nat.add_mul,Nat.one_mul];exact Nat.lt_div_mul_add (hP _)
  have h2:(x+1)*D≤4294967296:=by
   obtain⟨e,he⟩:∃e,4294967296=D*e:=⟨2^(32-s),by rw[←hD,←Nat.pow_add,show s+(32-s)=32 by omega,two32]⟩
   have h3:x<e:=by
    apply Nat.lt_of_mul_lt_mul_left (a:=D)
    rw[←he,Nat.mul_comm];exact hs4
   calc (x+1)*D≤e*D:=Nat.mul_le_mul_right _ h3
    _=4294967296:=by rw[Nat.mul_comm,←he]
  rw[←hV,H9]
  calc Vb*D<(x+1)*4294967296^(n+1)*D:=Nat.mul_lt_mul_of_pos_right h1 hp2
   _=4294967296^(n+1)*((x+1)*D):=by rw[Nat.mul_comm (x+1),Nat.mul_assoc]
   _≤4294967296^(n+1)*4294967296:=Nat.mul_le_mul_left _ h2
 have Pw:2147483648*4294967296^(n+1)≤V:=by
  have h1:x*4294967296^(n+1)≤Vb:=by rw[←hx];exact Nat.div_mul_le_self _ _
  rw[←hV]
  calc 2147483648*4294967296^(n+1)≤x*D*4294967296^(n+1):=Nat.mul_le_mul_right _ hs3
   _=x*4294967296^(n+1)*D:=by rw[Nat.mul_assoc,Nat.mul_comm D,←Nat.mul_assoc]
   _≤Vb*D:=Nat.mul_le_mul_right _ h1
 have RQ:0<V:=Nat.lt_of_lt_of_le (Nat.mul_pos (by decide) (hP _)) Pw
 have hb0:0<Vb:=by
  rcases Nat.eq_zero_or_pos Vb with h|h
  ·rw[←hV,h,Nat.zero_mul]at RQ;omega
  ·exact h
 have hAV:A/V=Va/Vb:=by rw[←hAe,←hV,Nat.mul_div_mul_right _ _ hp2]
 have agH:A%V=Va%Vb*D:=by rw[←hAe,←hV,Nat.mul_mod_mul_right]
 obtain⟨K,hK⟩:∃K,a.length=K+(n+2):=⟨a.length-(n+2),by omega⟩
 have hA0:A<V*4294967296^(K+1):=by
  have h1:4294967296^(n+1)≤Vb:=by
   have:1*4294967296^(n+1)≤x*4294967296^(n+1):=Nat.mul_le_mul_right _ (by omega)
   have h2:x*4294967296^(n+1)≤Vb:=by rw[←hx];exact Nat.div_mul_le_self _ _
   omega
  rw[←hAe,←hV]
  calc Va*D<4294967296^a.length*D:=Nat.mul_lt_mul_of_pos_right halt hp2
   _=4294967296^(n+1)*4294967296^(K+1)*D:=by rw[hK,←Nat.pow_add];congr 2;omega
   _≤Vb*4294967296^(K+1)*D:=Nat.mul_le_mul_right _ (Nat.mul_le_mul_right _ h1)
   _=Vb*D*4294967296^(K+1):=by rw[Nat.mul_assoc,Nat.mul_comm _ D,←Nat.mul_assoc]
 obtain⟨v,hve⟩:∃v,fF 4294967296 (n+2) V=v:=⟨_,rfl⟩
 have hvl:v.length=n+2:=by rw[←hve,bk]
 have hvW:Gn v:=⟨fun y hy=>by rw[←hve]at hy;exact nN (by decide) _ _ _ hy,by omega⟩
 have hvv:vl v=V:=by rw[←hve];show val _ _=_;rw[lT,Nat.mod_eq_of_lt An]
 have aa5:List.take b.length (fF 4294967296 (b.length+1) (Vb*2^s))=v:=by
  rw[hD,hV,hn,oW,List.take_append_of_le_length (by rw[bk];omega),List.take_of_length_le (by rw[bk];omega),hve]
 unfold fm
 simp only[bL]
 rw[show((b.length:Nat):Int)-1=((n+1:Nat):Int) by omega,uZ (by omega),aQ hgx,bL,Yb,bL]
 rw[show((s:Int)%18446744073709551616).toNat=s by rw[Int.emod_eq_of_lt (by omega) (by omega)];simp]
 rw[DH,shiftLeft_eq a s ⟨hA,hla⟩ C6,bL,shiftLeft_eq b s ⟨hB,hlb⟩ C6,bL,qM (by rw[bk];omega),bL]
 obtain⟨Q,hQ⟩:∃Q,A/V=Q:=⟨_,rfl⟩
 have agJ:Q<4294967296^(K+1):=by rw[←hQ,Nat.div_lt_iff_lt_mul RQ,Nat.mul_comm];exact hA0
 rw[hVa,hVb,←hAV,hQ,aa5,hD,hAe,hn]
 rw[show a.length-(n+2)+1=K+1 by omega]
 rw[cz (x:=(a.length:Int)-((n+2:Nat):Int)) (by omega) (by omega),cz (x:=(a.length:Int)-((n+2:Nat):Int)+1) (by omega) (by omega),show(a.length:Int)-((n+2:Nat):Int)+1=((K+1:Nat):Int) by omega,sD (by decide) (by omega),bL,show(a.length:Int)-((n+2:Nat):Int)=(K:Int) by omega]
 refine aY (fun j=>((K:Int)-(j:Int),fF 4294967296 (K+1) (Q/4294967296^(K+1-j)*4294967296^(K+1-j)),fF 4294967296 (a.length+1) (A%(V*4294967296^(K+1-j))))) (K+1) (fF 4294967296 (K+1) Q,fF 4294967296 (a.length+1) (A%V)) ?_ (fun j hj=>?_) ?_ ?_
 ·rw[show K+1-0=K+1 by omega,Nat.mod_eq_of_lt hA0,Nat.div_eq_of_lt agJ,Nat.zero_mul,uH];simp
 ·
  obtain⟨k,hk⟩:∃k,K=k+j:=⟨K-j,by omega⟩
  rw[show K+1-j=k+1 by omega,show K+1-(j+1)=k by omega,show(K:Int)-(j:Int)=(k:Int) by omega,show(K:Int)-((j+1:Nat):Int)=(k:Int)-1 by omega]
  have hU:=aaZ (B:=4294967296) (by decide) RQ A k
  have RY:=XE (B:=4294967296) (V:=V) A k
  have XI:=XF (B:=4294967296) (V:=V) A k
  obtain⟨N,hN⟩:∃N,a.length+1=N:=⟨_,rfl⟩
  obtain⟨A1,hA1⟩:∃A1,A%(V*4294967296^(k+1))=A1:=⟨_,rfl⟩
  rw[hN]
  rw[hA1]at hU RY XI⊢
  rw[hQ]at XI
  obtain⟨⟨g,lg⟩,hge,hgl,hg1,Qc⟩:=H8 (N:=N) (A:=A1) (o:=k) (n:=n) (v:=v) hvW hvl (by omega) (by omega) (by rw[hvv];exact hU) (by rw[hvv];exact Pw)
  simp only at hgl hg1 Qc
  rw[hvv]at hg1 Qc
  subst hgl
  have hsub:=vE (N:=N) (A:=A1) (o:=k) (n:=n+2) (v:=v) (f:=g) hvW hvl (by omega) (by omega) ?_ ?_
  ·rw[hvv]at hsub
   obtain⟨U,Qf⟩:∃U,A1/4294967296^k=U:=⟨_,rfl⟩
   rw[Qf]at hU RY XI hg1 Qc hsub
   have R3:4294967296^(n+2+1)=4294967296^(n+2)*4294967296:=Nat.pow_succ ..
   have hUM:U<4294967296^(n+2+1):=by
    have:4294967296*V<4294967296*4294967296^(n+2):=Nat.mul_lt_mul_of_pos_left An (by decide)
    rw[R3];omega
   have Px:=RW (M:=4294967296^(n+2+1)) RQ hg1 Qc hUM (by rw[R3];omega)
   have hql:U/V<4294967296:=by rw[XI];exact Nat.mod_lt _ (by decide)
   rw[show decide ((0:Int)≤(k:Int))=true by simp,jl]
   rw[u0 (by omega),bw (by omega),show k+(n+2)+1=k+(n+3) by omega,Kr (by rw[bk];omega) (by rw[bk];omega),bL,hge,bL,qN rfl,bL,Kr (by rw[bk];omega) (by rw[bk];omega),bL]
   show(Option.bind (cK _ k (n+2+1) v g) _)=_
   rw[hsub,bL,qN (by rw[bk,bk]),bL]
   simp only[cm]
   rcases Px with⟨hc1,Gv,hc3⟩|⟨hc1,Gv,hc3,hc4⟩
   ·rw[show decide (U<V*g)=false by simp;omega,jN,hc3,RY,Gv,Nat.mod_eq_of_lt hql,XI,cf (by rw[bk];omega),bL,fE (by rw[bk];omega),bL,Pu (by decide) (by omega),cz (by omega) (by omega)]
   ·rw[show decide (U<V*g)=true by simp;omega,jl,sE (by omega) (by omega),show g-1=U/V by omega,Nat.mod_eq_of_lt hql,XI]
    rw[Nat.mod_eq_of_lt hc3]
    obtain⟨Y,hY⟩:∃Y,U+4294967296^(n+2+1)-V*g=Y:=⟨_,rfl⟩
    rw[hY]at hc3 hc4⊢
    obtain⟨A2,hA2⟩:∃A2,A1%4294967296^k+4294967296^k*Y=A2:=⟨_,rfl⟩
    rw[hA2]
    have hw2:A2/4294967296^k=Y:=by rw[←hA2,Nat.add_mul_div_left _ _ (hP k),Nat.div_eq_of_lt (Nat.mod_lt _ (hP k)),Nat.zero_add]
    have Md:A2%4294967296^k=A1%4294967296^k:=by rw[←hA2,Nat.add_mul_mod_self_left,Nat.mod_mod]
    have hcr:∀i,Gm 4294967296 Y V i≤1:=fun i=>Jm (by decide) _ _ _
    refine aY (fun i=>((i:Int),Gm 4294967296 Y V i,fF 4294967296 N (mix 4294967296 k i (Y+V) Y A2))) (n+2) (Gm 4294967296 Y V (n+2),fF 4294967296 N (mix 4294967296 k (n+2) (Y+V) Y A2)) ?_ (fun i hi=>?_) ?_ ?_
    ·rw[HU,←hw2,H7];rfl
    ·have Gk:v[i]? =some (V/4294967296^i%4294967296):=by rw[←hvv];exact pX hvW.1 (by omega)
     have hgu:(fF 4294967296 N (mix 4294967296 k i (Y+V) Y A2))[k+i]? =some (Y/4294967296^i%4294967296):=by rw[nD (by omega),ya (by decide)]
     have Yb:=HT (B:=4294967296) (by decide) Y V i
     have C6:=F6 (B:=4294967296) (by decide) Y V i
     have hput:=F9 (B:=4294967296) (by decide) k i (Y+V) Y A2 (N:=N) (by omega)
     have hci:=hcr i
     have hv1:=Nat.mod_lt (V/4294967296^i) (show 0<4294967296 by decide)
     have YD:=Nat.mod_lt (Y/4294967296^i) (show 0<4294967296 by decide)
     simp only[show decide ((i:Int)<(v.length:Int))=true by simp;omega,jl]
     rw[aQ Gk,bL,u0 (by omega),cf (by rw[bk];omega),bL,hgu,bL,Nat.mod_eq_of_lt (a:=Y/4294967296^i%4294967296) (b:=18446744073709551616) (by omega),Nat.mod_eq_of_lt (a:=V/4294967296^i%4294967296) (b:=18446744073709551616) (by omega),Nat.mod_eq_of_lt (b:=18446744073709551616) (by omega),gS _ _ (by omega),bL,bL,fE (by rw[bk];omega),bL,bw (by omega)]
     rw[Yb,C6,hput]
    ·simp[hvl]
    ·have hgu:(fF 4294967296 N (mix 4294967296 k (n+2) (Y+V) Y A2))[k+(n+2)]? =some (Y/4294967296^(n+2)%4294967296):=by rw[nD (by omega),ya (by decide)]
     have C6:=F6 (B:=4294967296) (by decide) Y V (n+2)
     have hput:=F9 (B:=4294967296) (by decide) k (n+2) (Y+V) Y A2 (N:=N) (by omega)
     have hci:=hcr (n+2)
     have YD:=Nat.mod_lt (Y/4294967296^(n+2)) (show 0<4294967296 by decide)
     rw[Nat.div_eq_of_lt An,Nat.zero_mod,Nat.add_zero]at C6
     simp only[]
     rw[cf (by rw[bk];omega),bL,hgu,bL,Nat.mod_eq_of_lt (a:=Y/4294967296^(n+2)%4294967296) (b:=18446744073709551616) (by omega),gS _ _ (by omega),bL,bL,fE (by rw[bk];omega),bL,C6,hput,H6 hc3,Md,hc4,RY,cf (by rw[bk];omega),bL,fE (by rw[bk];omega),bL,Pu (by decide) (by omega),cz (by omega) (by omega)]
  ·
   have hql:A1/4294967296^k/V<4294967296:=by rw[XI];exact Nat.mod_lt _ (by decide)
   omega
  ·have R3:4294967296^(n+2+1)=4294967296^(n+2)*4294967296:=Nat.pow_succ ..
   have:4294967296*V<4294967296*4294967296^(n+2):=Nat.mul_lt_mul_of_pos_left An (by decide)
   rw[R3];omega
 ·rw[show K+1-(K+1)=0 by omega,Nat.pow_zero,Nat.mul_one,Nat.mul_one,Nat.div_one,show decide (0≤(K:Int)-((K+1:Nat):Int))=false by simp;omega,jN]
 ·
  obtain⟨R,hR⟩:∃R,Va%Vb=R:=⟨_,rfl⟩
  rw[agH,hR]
  have agN:R<4294967296^(n+2):=by rw[←hR];exact Nat.lt_trans (Nat.mod_lt _ hb0) XH
  rw[sD (by decide) (by omega),bL]
  refine aY (fun i=>((i:Int),fF 4294967296 (n+2) (R%4294967296^i))) (n+2) (fF 4294967296 (n+2) R) ?_ (fun i hi=>?_) ?_ rfl
  ·rw[Nat.pow_zero,Nat.mod_one,uH];rfl
  ·obtain⟨e,he⟩:∃e,4294967296=D*e:=⟨2^(32-s),by rw[←hD,←Nat.pow_add,show s+(32-s)=32 by omega,two32]⟩
   have aa7:=RX (R:=R) (i:=i) hp2 he
   obtain⟨u,hu⟩:∃u,R*D/4294967296^i%4294967296=u:=⟨_,rfl⟩
   obtain⟨w,hw⟩:∃w,R*D/4294967296^(i+1)%4294967296=w:=⟨_,rfl⟩
   have YE:u<4294967296:=by rw[←hu];exact Nat.mod_lt _ (by decide)
   have hw1:w<4294967296:=by rw[←hw];exact Nat.mod_lt _ (by decide)
   rw[hu,hw]at aa7
   simp only[show decide ((i:Int)<((n+2:Nat):Int))=true by simp;omega,jl]
   rw[cf (by rw[bk];omega),bL,nD (by omega),bL,hu,bw (by omega),cf (by rw[bk];omega),bL,nD (by omega),bL,hw,Nat.mod_eq_of_lt (a:=u) (by omega),Nat.mod_eq_of_lt (a:=w) (by omega),two32,Nat.mod_eq_of_lt (a:=w*4294967296) (by omega),Nat.or_comm,Kp YE,Nat.mod_eq_of_lt (a:=w*4294967296+u) (by omega),show min s 64=s by omega,hD,aa7,cf (by rw[bk];omega),bL,fE (by rw[bk];omega),bL]
   rw[XG (by decide) hi]
  ·rw[Nat.mod_eq_of_lt agN];simp
end Go.Proofs.YtningmnklfpfjaaGreat
namespace Go.Proofs.YtningmnklfpfjaaGreat
open Go.Fw
def sv(n:Bool)(v:Nat):Int:=bif n then-(v:Int)else v
def zi(z:Zr):Int:=sv z.neg (vl z.w)
def zn(i:Int):Zr:=⟨decide (i<0),can 4294967296 i.natAbs⟩
def Wl(z:Zr):Prop:=(∀x∈z.w,x<4294967296)∧z.w.length≤10000000000
def Fit(L:Nat)(i:Int):Prop:=i.natAbs<4294967296^L
theorem Py(n:Bool)(v:Nat):(sv n v).natAbs=v:=by cases n<;>simp[sv]
theorem Gb(z:Zr):(zi z).natAbs=vl z.w:=Py _ _
theorem XJ(n:Bool)(v:Nat):decide (sv n v<0)=(n&&v != 0):=by
 cases n
 ·have:¬((v:Int)<0):=by omega
  simp[sv,this]
 ·rcases v with _|v
  ·simp[sv]
  ·simp[sv]
theorem pY(n:Bool)(v:Nat):zc n v=zn (sv n v):=by rw[zc,zn,XJ,Py]
theorem R4(i:Int):sv (decide (i<0)) i.natAbs=i:=by
 by_cases h:i<0
 ·rw[show decide (i<0)=true by simp[h]];simp[sv];omega
 ·rw[show decide (i<0)=false by simp[h]];simp[sv];omega
theorem fL(i:Int):zi (zn i)=i:=by
 show sv (decide (i<0)) (vl (can 4294967296 i.natAbs))=i
 rw[show vl (can 4294967296 i.natAbs)=i.natAbs from sH (by decide) _,R4]
theorem Gc(n:Bool)(v:Nat):sv (!n) v=-sv n v:=by cases n<;>simp[sv]
theorem oX(v:Nat):sv false v=v:=rfl
theorem Fit.mono{L M:Nat}{i:Int}(h:Fit L i)(hl:L≤M):Fit M i:=Nat.lt_of_lt_of_le h (Nat.pow_le_pow_right (by decide) hl)
theorem Fit.neg{L:Nat}{i:Int}(h:Fit L i):Fit L (-i):=by unfold Fit at*;rw[Int.natAbs_neg];exact h
theorem Fit.add{L:Nat}{i j:Int}(h:Fit L i)(h':Fit L j):Fit (L+1) (i+j):=by
 unfold Fit at*
 have:=Int.natAbs_add_le i j
 rw[Nat.pow_succ];omega
theorem Fit.sub{L:Nat}{i j:Int}(h:Fit L i)(h':Fit L j):Fit (L+1) (i-j):=by
 rw[Int.sub_eq_add_neg];exact h.add h'.neg
theorem Fit.mul{L M:Nat}{i j:Int}(h:Fit L i)(h':Fit M j):Fit (L+M) (i*j):=by
 unfold Fit at*
 rw[Int.natAbs_mul,Nat.pow_add]
 exact Nat.mul_lt_mul'' h h'
theorem Fit.i64{i:Int}(h: -9223372036854775808≤i)(h':i≤9223372036854775807):Fit 2 i:=by
 unfold Fit;rw[show(4294967296:Nat)^2=18446744073709551616 by decide];omega
theorem Fit.le{L:Nat}{i j:Int}(h:Fit L i)(h':j.natAbs≤i.natAbs):Fit L j:=Nat.lt_of_le_of_lt h' h
theorem ku{L:Nat}{i:Int}(h:Fit L i)(hL:L≤10000000000):Wl (zn i):=
 ⟨fun _ hx=>lU (by decide) hx,Nat.le_trans ((eW (by decide)).2 h) hL⟩
theorem Wl.fit{z:Zr}(h:Wl z):Fit z.w.length (zi z):=by
 unfold Fit;rw[Gb];exact jm z.w h.1
theorem Wl.lt{z:Zr}(h:Wl z):vl z.w<4294967296^z.w.length:=jm z.w h.1
theorem Wl.cl{z:Zr}(h:Wl z):(can 4294967296 (vl z.w)).length≤10000000000:=
 Nat.le_trans ((eW (by decide)).2 (Wl.lt h)) h.2
theorem Wl.trim{z:Zr}(h:Wl z):aD z.w=some (can 4294967296 (vl z.w)):=by
 rw[AK _ (by have:=h.2;omega),qO (by decide) h.1]
theorem gK{v:Nat}(h:(can 4294967296 v).length≤10000000001):Gn (can 4294967296 v):=⟨fun _ hx=>lU (by decide) hx,by omega⟩
theorem eC(v:Nat):vl (can 4294967296 v)=v:=sH (by decide) v
theorem ga{v:Nat}:((can 4294967296 v).length:Int)≤2↔v<18446744073709551616:=by
 have:=eW (B:=4294967296) (by decide) (v:=v) (n:=2)
 rw[show(4294967296:Nat)^2=18446744073709551616 by decide]at this
 omega
theorem lW{v:Nat}:((can 4294967296 v).length:Int)≤1↔v<4294967296:=by
 have:=eW (B:=4294967296) (by decide) (v:=v) (n:=1)
 rw[show(4294967296:Nat)^1=4294967296 by decide]at this
 omega
theorem qR{v:Nat}:(can 4294967296 v).length=0↔v=0:=by
 constructor
 ·intro h;exact F4 (by decide) (List.length_eq_zero_iff.1 h)
 ·intro h;rw[h,uJ];rfl
theorem yc(l:List Nat)(h:l.length≤1000000000000):cV l=some l:=by
 unfold cV;rw[aaL (by decide) (by simp;omega)];simp
end Go.Proofs.YtningmnklfpfjaaGreat
namespace Go.Proofs.YtningmnklfpfjaaGreat
open Go.Fw
theorem Ia(a b:Nat):decide (DG a b<0)=decide (a<b):=by
 rcases Nat.lt_trichotomy a b with h|h|h
 ·rw[xY h];simp[h]
 ·rw[h,F8];simp
 ·rw[AJ h];simp;omega
theorem zM(a b:Nat)(ha:(can 4294967296 a).length≤10000000000)(hb:(can 4294967296 b).length≤10000000000)(h0:b≠0):
  ∃q r,dM (can 4294967296 a) (can 4294967296 b)=some (q,r)∧Gn q∧vl q=a/b∧Gn r∧vl r=a%b∧q.length≤10000000001∧r.length≤10000000001:=by
 unfold dM
 rw[kD a b (by omega) (by omega)]
 simp only[bL]
 by_cases hlt:a<b
 ·rw[xY hlt]
  simp only[show decide ((-1:Int)<0)=true by decide,jl]
  rw[yc _ (by omega)]
  refine⟨_,_,rfl,⟨by simp,by simp⟩,?_,gK (by omega),?_,by simp,by omega⟩
  ·rw[Nat.div_eq_of_lt hlt];rfl
  ·rw[eC,Nat.mod_eq_of_lt hlt]
 ·rw[Ia,show decide (a<b)=false by simp[hlt]]
  simp only[jN]
  by_cases h2:a<18446744073709551616
  ·rw[show decide (((can 4294967296 a).length:Int)≤2)=true by rw[decide_eq_true_eq];exact ga.2 h2]
   have CX:b<18446744073709551616:=by omega
   simp only[jl]
   have l1:=low_eq (can 4294967296 a) (fun _ hx=>lU (by decide) hx) (by have:=ga.2 h2;omega)
   have l2:=low_eq (can 4294967296 b) (fun _ hx=>lU (by decide) hx) (by have:=ga.2 CX;omega)
   rw[eC]at l1 l2
   rw[l1,bL,l2,bL,F2 h0 h2,bL,qQ _ _ (Nat.lt_of_le_of_lt (Nat.div_le_self _ _) h2),bL,AH h0,bL,qQ _ _ (Nat.lt_of_le_of_lt (Nat.mod_le _ _) h2),bL]
   have hq:a/b<18446744073709551616:=Nat.lt_of_le_of_lt (Nat.div_le_self _ _) h2
   have hr:a%b<18446744073709551616:=Nat.lt_of_le_of_lt (Nat.mod_le _ _) h2
   have c1:=ga.2 hq
   have c2:=ga.2 hr
   exact⟨_,_,rfl,gK (by omega),eC _,gK (by omega),eC _,by show(can _ _).length≤_;omega,by show(can _ _).length≤_;omega⟩
  ·rw[show decide (((can 4294967296 a).length:Int)≤2)=false by rw[decide_eq_false_iff_not];exact fun h=>h2 (ga.1 h)]
   simp only[jN]
   have zE:(can 4294967296 b).length≠0:=fun h=>h0 (qR.1 h)
   by_cases h1:b<4294967296
   ·have h1':=lW.2 h1
    rw[show decide (((can 4294967296 b).length:Int)=1)=true by simp;omega,jl]
    have hg:(can 4294967296 b)[0]? =some b:=by rw[F5 (by decide) (by omega)];simp;exact h1
    rw[yc _ (by omega),bL,ze hg,bL,Nat.mod_eq_of_lt (b:=18446744073709551616) (by omega),HZ _ _ (gK (by omega)) (by omega) (by omega),bL,eC]
    simp only[]
    rw[qN (by rw[bk]),bL]
    have hm:a%b<b:=Nat.mod_lt _ (by omega)
    rw[Nat.mod_eq_of_lt (a:=a%b) (by omega)]
    refine⟨_,_,rfl,⟨fun x hx=>nN (by decide) _ _ _ hx,by rw[bk];omega⟩,?_,⟨?_,by simp⟩,?_,by rw[bk];omega,by simp⟩
    ·show val _ _=_
     rw[lT,Nat.mod_eq_of_lt (Nat.lt_of_le_of_lt (Nat.div_le_self _ _) (dI (by decide) a))]
    ·intro x hx;simp at hx;omega
    ·simp[vl,val]
   ·have h1':¬(((can 4294967296 b).length:Int)≤1):=fun h=>h1 (lW.1 h)
    rw[show decide (((can 4294967296 b).length:Int)=1)=false by simp;omega,jN]
    obtain⟨n,hn⟩:∃n,(can 4294967296 b).length=n+2:=⟨(can 4294967296 b).length-2,by omega⟩
    have hl:(can 4294967296 b).length≤(can 4294967296 a).length:=(eW (by decide)).2 (Nat.lt_of_le_of_lt (by omega) (dI (by decide) a))
    obtain⟨l,x,hx,he⟩:=HS (B:=4294967296) (by decide) h0
    have Jo:(can 4294967296 b)[n+1]? ≠some 0:=by
     have:l.length=n+1:=by rw[he]at hn;simp at hn;omega
     rw[he,←this];simp;exact hx
    rw[Jp _ _ (gK (by omega)) (gK (by omega)) hn hl Jo,bL,eC,eC]
    have hbp:0<b:=by omega
    have e1:a<4294967296^(can 4294967296 a).length:=dI (by decide) a
    have e2:b<4294967296^(can 4294967296 b).length:=dI (by decide) b
    have e3:4294967296^(n+1)≤b:=vY (by decide) (by omega)
    refine⟨_,_,rfl,⟨fun x hx=>nN (by decide) _ _ _ hx,by rw[bk];omega⟩,?_,⟨fun x hx=>nN (by decide) _ _ _ hx,by rw[bk];omega⟩,?_,by rw[bk];omega,by rw[bk];omega⟩
    ·show val _ _=_
     rw[lT,Nat.mod_eq_of_lt]
     rw[Nat.div_lt_iff_lt_mul hbp]
     have:4294967296^((can 4294967296 a).length-(can 4294967296 b).length+1)*4294967296^(n+1)=4294967296^(can 4294967296 a).length:=by rw[←Nat.pow_add];congr 1;omega
     calc a<4294967296^((can 4294967296 a).length-(can 4294967296 b).length+1)*4294967296^(n+1):=by rw[this];exact e1
      _≤_:=Nat.mul_le_mul_left _ e3
    ·show val _ _=_
     rw[lT,Nat.mod_eq_of_lt (Nat.lt_trans (Nat.mod_lt _ hbp) e2)]
end Go.Proofs.YtningmnklfpfjaaGreat
namespace Go.Proofs.YtningmnklfpfjaaGreat
open Go.Fw
theorem mM{x:Int}(h1: -9223372036854775808≤x)(h2:x≤9223372036854775807):bp x=some (zn x):=by
 unfold bp
 simp only[bL,cm]
 by_cases hx:x<0
 ·have e:(x%18446744073709551616).toNat=18446744073709551616-x.natAbs:=by omega
  rw[show decide (x<0)=true by simp[hx],jl,e,AF (by omega) (by omega),show 18446744073709551616+0-(18446744073709551616-x.natAbs)=x.natAbs by omega,qQ _ _ (by omega),bL,pY,show sv true x.natAbs=x by simp[sv];omega]
 ·have e:(x%18446744073709551616).toNat=x.natAbs:=by omega
  rw[show decide (x<0)=false by simp[hx],jN,e,qQ _ _ (by omega),bL,pY,show sv false x.natAbs=x by simp[sv];omega]
def fj(i:Int):Prop:=-9223372036854775808≤i∧i≤9223372036854775807
instance(i:Int):Decidable (fj i):=by unfold fj;infer_instance
def uK(i:Int):Int×Bool:=if fj i then(i,true)else(0,false)
theorem oY{z:Zr}(h:Wl z):cZ z=some (uK (zi z)):=by
 obtain⟨n,w⟩:=z
 unfold cZ
 have ht:=h.trim
 have agO:vl w<18446744073709551616→di (can 4294967296 (vl w))=some (vl w):=fun h2=>by
  rw[low_eq _ (fun _ hx=>lU (by decide) hx) (by have:=ga.2 h2;omega),eC]
 show(aD w).bind _=some (uK (sv n (vl w)))
 rw[show aD w=some (can 4294967296 (vl w))from ht]
 simp only[bL]
 generalize vl w=v at*
 by_cases h2:v<18446744073709551616
 ·have:=ga.2 h2
  rw[show decide ((2:Int)<((can 4294967296 v).length:Int))=false by simp;omega,jN,agO h2,bL]
  cases n
  ·rw[jN,oX]
   by_cases h3:v<9223372036854775808
   ·rw[show decide (9223372036854775808≤v)=false by simp;omega,jN,uZ (by omega),uK,if_pos (by unfold fj;omega)]
   ·rw[show decide (9223372036854775808≤v)=true by simp;omega,jl,uK,if_neg (by unfold fj;omega)]
  ·rw[jl,show sv true v=-(v:Int)from rfl]
   by_cases h3:9223372036854775808<v
   ·rw[show decide (9223372036854775808<v)=true by simp;omega,jl,uK,if_neg (by unfold fj;omega)]
   ·rw[show decide (9223372036854775808<v)=false by simp;omega,jN,uK,if_pos (by unfold fj;omega)]
    by_cases h0:v=0
    ·subst h0;rfl
    ·rw[AF (by omega) (by omega)]
     rw[show IntKind.i64.wrap ((18446744073709551616+0-v:Nat):Int)=-(v:Int) by
      rw[IntKind.wrap];simp[IntKind.signed,IntKind.bits];omega]
 ·have:¬(((can 4294967296 v).length:Int)≤2):=fun h=>h2 (ga.1 h)
  rw[show decide ((2:Int)<((can 4294967296 v).length:Int))=true by simp;omega,jl,uK,if_neg (by unfold fj;cases n<;>simp[sv]<;>omega)]
theorem sign_eq{z:Zr}(h:Wl z):cD z=some (zi z).sign:=by
 obtain⟨n,w⟩:=z
 unfold cD
 show(aD w).bind _=some (sv n (vl w)).sign
 rw[show aD w=some (can 4294967296 (vl w))from h.trim]
 simp only[bL]
 generalize vl w=v
 by_cases h0:v=0
 ·subst h0;cases n<;>rfl
 ·have:(can 4294967296 v).length≠0:=fun h=>h0 (qR.1 h)
  rw[show decide (((can 4294967296 v).length:Int)=0)=false by simp;intro e;rw[e]at this;exact this rfl,jN]
  cases n
  ·rw[jN,oX,Int.sign_eq_one_of_pos (by omega)]
  ·rw[jl,show sv true v=-(v:Int)from rfl,Int.sign_eq_neg_one_of_neg (by omega)]
def qS(i j:Int):Int:=if i<j then-1 else if i=j then 0 else 1
theorem mX{i j:Int}(h:i<j):qS i j=-1:=by simp[qS,h]
theorem mY{i j:Int}(h:j<i):qS i j=1:=by
 have h1:¬i<j:=by omega
 have h2:¬i=j:=by omega
 simp[qS,h1,h2]
theorem vf(i:Int):qS i i=0:=by simp[qS]
theorem Ib(v w:Nat):DG v w=qS (v:Int) (w:Int):=by
 rcases Nat.lt_trichotomy v w with h|h|h
 ·rw[xY h,mX (by omega)]
 ·rw[h,F8,vf]
 ·rw[AJ h,mY (by omega)]
theorem Pz(i j:Int):qS (-i) (-j)=qS j i:=by
 rcases Int.lt_trichotomy i j with h|h|h
 ·rw[mY h,mY (by omega)]
 ·rw[h,vf,vf]
 ·rw[mX h,mX (by omega)]
theorem XK{x y:Zr}(hx:Wl x)(hy:Wl y):nc x y=some (qS (zi x) (zi y)):=by
 obtain⟨n,w⟩:=x
 obtain⟨m,u⟩:=y
 unfold nc
 show(cD ⟨n,w⟩).bind _=_
 rw[sign_eq hx,bL]
 show(cD ⟨m,u⟩).bind _=_
 rw[sign_eq hy,bL,show aD w=some (can 4294967296 (vl w))from hx.trim,show aD u=some (can 4294967296 (vl u))from hy.trim]
 simp only[bL]
 rw[kD _ _ (Nat.le_trans hx.cl (by decide)) (Nat.le_trans hy.cl (by decide)),kD _ _ (Nat.le_trans hy.cl (by decide)) (Nat.le_trans hx.cl (by decide))]
 simp only[bL]
 rw[show zi ⟨n,w⟩=sv n (vl w)from rfl,show zi ⟨m,u⟩=sv m (vl u)from rfl]
 generalize vl w=a
 generalize vl u=b
 rw[Ib,Ib]
 obtain⟨i,hi⟩:∃i,sv n a=i:=⟨_,rfl⟩
 obtain⟨j,hj⟩:∃j,sv m b=j:=⟨_,rfl⟩
 have X3:(i<0→i=-(a:Int))∧(0≤i→i=a):=by rw[←hi];cases n<;>simp[sv]<;>omega
 have hjb:(j<0→j=-(b:Int))∧(0≤j→j=b):=by rw[←hj];cases m<;>simp[sv]<;>omega
 rw[hi,hj]
 rcases Int.lt_trichotomy i 0 with h1|h1|h1<;>rcases Int.lt_trichotomy j 0 with h2|h2|h2
 ·rw[Int.sign_eq_neg_one_of_neg h1,Int.sign_eq_neg_one_of_neg h2,X3.1 h1,hjb.1 h2,Pz];rfl
 ·rw[Int.sign_eq_neg_one_of_neg h1,show Int.sign j=0 by rw[h2];rfl,show qS i j=-1 from mX (by omega)];rfl
 ·rw[Int.sign_eq_neg_one_of_neg h1,Int.sign_eq_one_of_pos h2,show qS i j=-1 from mX (by omega)];rfl
 ·rw[show Int.sign i=0 by rw[h1];rfl,Int.sign_eq_neg_one_of_neg h2,show qS i j=1 from mY (by omega)];rfl
 ·rw[show Int.sign i=0 by rw[h1];rfl,show Int.sign j=0 by rw[h2];rfl,←X3.2 (by omega),←hjb.2 (by omega)];rfl
 ·rw[show Int.sign i=0 by rw[h1];rfl,Int.sign_eq_one_of_pos h2,show qS i j=-1 from mX (by omega)];rfl
 ·rw[Int.sign_eq_one_of_pos h1,Int.sign_eq_neg_one_of_neg h2,show qS i j=1 from mY (by omega)];rfl
 ·rw[Int.sign_eq_one_of_pos h1,show Int.sign j=0 by rw[h2];rfl,show qS i j=1 from mY (by omega)];rfl
 ·rw[Int.sign_eq_one_of_pos h1,Int.sign_eq_one_of_pos h2,←X3.2 (by omega),←hjb.2 (by omega)];rfl
theorem neg_eq{x:Zr}(hx:Wl x):eJ x=some (zn (-zi x)):=by
 obtain⟨n,w⟩:=x
 unfold eJ
 have hc:(can 4294967296 (vl w)).length≤10000000000:=hx.cl
 simp only[bL]
 rw[show aD w=some (can 4294967296 (vl w))from hx.trim,bL,yc _ (by omega),bL,kq _ _ (gK (by omega)),bL,eC,pY,Gc]
 rfl
end Go.Proofs.YtningmnklfpfjaaGreat
namespace Go.Proofs.YtningmnklfpfjaaGreat
open Go.Fw
theorem yd(n m:Bool)(a b:Nat)(ha:(can 4294967296 a).length≤10000000000)(hb:(can 4294967296 b).length≤10000000000):
  cc n (can 4294967296 a) m (can 4294967296 b)=some (zn (sv n a+sv m b)):=by
 have la:=dI (B:=4294967296) (by decide) a
 have lb:=dI (B:=4294967296) (by decide) b
 unfold cc
 simp only[bL]
 by_cases hnm:n=m
 ·subst hnm
  rw[show(n==n)=true by simp,jl,zK _ _ (gK (by omega)) (gK (by omega)),bL,eC,eC,kq _ _ ⟨fun x hx=>nN (by decide) _ _ _ hx,by rw[bk];omega⟩,bL]
  have hv:vl (fF 4294967296 (max (can 4294967296 a).length (can 4294967296 b).length+1) (a+b))=a+b:=by
   show val _ _=_
   rw[lT,Nat.mod_eq_of_lt]
   have h1:a<4294967296^(max (can 4294967296 a).length (can 4294967296 b).length):=Nat.lt_of_lt_of_le la (Nat.pow_le_pow_right (by decide) (by omega))
   have h2:b<4294967296^(max (can 4294967296 a).length (can 4294967296 b).length):=Nat.lt_of_lt_of_le lb (Nat.pow_le_pow_right (by decide) (by omega))
   rw[Nat.pow_succ];omega
  rw[hv,pY,show sv n (a+b)=sv n a+sv n b by cases n<;>simp[sv];omega]
 ·rw[show(n==m)=false by simp[hnm],jN,kD _ _ (by omega) (by omega),bL,Ia]
  have hm:m= !n:=by cases n<;>cases m<;>simp_all
  subst hm
  have hv:∀c d,d≤c→(can 4294967296 c).length≤10000000000→bY (can 4294967296 c) (can 4294967296 d)=some (fF 4294967296 (can 4294967296 c).length (c-d))∧vl (fF 4294967296 (can 4294967296 c).length (c-d))=c-d:=by
   intro c d hdc vH
   have lc:=dI (B:=4294967296) (by decide) c
   have hdl:(can 4294967296 d).length≤(can 4294967296 c).length:=(eW (by decide)).2 (by omega)
   constructor
   ·rw[zL _ _ (gK (by omega)) (gK (by omega)) hdl (by rw[eC,eC];exact hdc),eC,eC]
   ·show val _ _=_
    rw[lT,Nat.mod_eq_of_lt (by omega)]
  by_cases hlt:a<b
  ·obtain⟨h1,h2⟩:=hv b a (by omega) hb
   rw[show decide (a<b)=true by simp[hlt],jl,h1,bL,kq _ _ ⟨fun x hx=>nN (by decide) _ _ _ hx,by rw[bk];omega⟩,bL,h2,pY,show sv (!n) (b-a)=sv n a+sv (!n) b by cases n<;>simp[sv]<;>omega]
  ·obtain⟨h1,h2⟩:=hv a b (by omega) ha
   rw[show decide (a<b)=false by simp[hlt],jN,h1,bL,kq _ _ ⟨fun x hx=>nN (by decide) _ _ _ hx,by rw[bk];omega⟩,bL,h2,pY,show sv n (a-b)=sv n a+sv (!n) b by cases n<;>simp[sv]<;>omega]
theorem Ks(v:BitVec 64):IntKind.i64.wrap (v.toNat:Int)=v.toInt:=by
 rw[BitVec.toInt_eq_toNat_cond]
 have:=v.isLt
 rw[show(2:Nat)^64=18446744073709551616 by decide]at this⊢
 split
 ·rw[uZ (by omega)]
 ·rw[IntKind.wrap];simp[IntKind.signed,IntKind.bits];omega
theorem Kt(v:BitVec 64):BitVec.ofInt 64 (IntKind.i64.wrap (v.toNat:Int))=v:=by rw[Ks,BitVec.ofInt_toInt]
theorem zh{x:Int}(h:fj x):(BitVec.ofInt 64 x).msb=decide (x<0):=by
 rw[BitVec.msb_eq_toInt,BitVec.toInt_ofInt]
 unfold fj at h
 have:x.bmod (2^64)=x:=by
  rw[Int.bmod_def]
  simp only[show((2^64:Nat):Int)=18446744073709551616 by decide]
  split<;>omega
 rw[this]
theorem Ep(v:BitVec 64):decide ((0:Int)≤IntKind.i64.wrap (v.toNat:Int))= !v.msb:=by
 rw[Ks,BitVec.msb_eq_toInt]
 by_cases h:v.toInt<0
 ·simp[h]
 ·simp[h];omega
theorem qT(x:Int):fj (IntKind.i64.wrap x):=by
 unfold fj
 rw[IntKind.wrap];simp[IntKind.signed,IntKind.bits];split<;>omega
theorem CM{α:Type}(b:Bool)(x:α):(bif b then x else x)=x:=by cases b<;>rfl
theorem iS{i:Int}(h:fj i):uK i=(i,true):=if_pos h
theorem oZ{i:Int}(h:¬fj i):uK i=(0,false):=if_neg h
theorem add_eq{x y:Zr}(hx:Wl x)(hy:Wl y):jx x y=some (zn (zi x+zi y)):=by
 obtain⟨n,w⟩:=x
 obtain⟨m,u⟩:=y
 unfold jx
 simp only[oY hx,oY hy,bL,cm]
 have hK:((aD w).bind fun tH=>(aD u).bind fun uV=>(cc n tH m uV).bind fun x=>some x)=some (zn (zi ⟨n,w⟩+zi ⟨m,u⟩)):=by
  rw[show aD w=some (can 4294967296 (vl w))from hx.trim,show aD u=some (can 4294967296 (vl u))from hy.trim,bL,bL,yd _ _ _ _ hx.cl hy.cl,bL];rfl
 have hK':((aD w).bind fun tH=>(aD u).bind fun uV=>(cc n tH m uV).bind fun x=>some ⟨x.neg,x.w⟩)=some (zn (zi ⟨n,w⟩+zi ⟨m,u⟩)):=hK
 rw[hK']
 generalize zi ⟨n,w⟩=i
 generalize zi ⟨m,u⟩=j
 by_cases h1:fj i
 ·by_cases h2:fj j
  ·rw[iS h1,iS h2,jl,bL,jl,Kt,Kt,Ep,BitVec.msb_and,BitVec.msb_xor,BitVec.msb_xor,zh h1,zh h2,zh (qT _),mM (qT _).1 (qT _).2,bL]
   by_cases hr:fj (i+j)
   ·rw[cz hr.1 hr.2]
    exact CM _ _
   ·have:(!((decide (i<0)^^decide (IntKind.i64.wrap (i+j)<0))&&(decide (j<0)^^decide (IntKind.i64.wrap (i+j)<0))))=false:=by
     unfold fj at*
     by_cases hs:i<0
     ·have e:IntKind.i64.wrap (i+j)=i+j+18446744073709551616:=by rw[IntKind.wrap];simp[IntKind.signed,IntKind.bits];omega
      rw[e,show decide (i<0)=true by simp[hs],show decide (j<0)=true by simp;omega,show decide (i+j+18446744073709551616<0)=false by simp;omega];rfl
     ·have e:IntKind.i64.wrap (i+j)=i+j-18446744073709551616:=by rw[IntKind.wrap];simp[IntKind.signed,IntKind.bits];omega
      rw[e,show decide (i<0)=false by simp[hs],show decide (j<0)=false by simp;omega,show decide (i+j-18446744073709551616<0)=true by simp;omega];rfl
    rw[this,jN]
  ·rw[iS h1,oZ h2,jl,bL,jN]
 ·rw[oZ h1,jN,bL,jN]
theorem sub_eq{x y:Zr}(hx:Wl x)(hy:Wl y):jy x y=some (zn (zi x-zi y)):=by
 obtain⟨n,w⟩:=x
 obtain⟨m,u⟩:=y
 unfold jy
 simp only[oY hx,oY hy,bL,cm]
 have hK':((aD w).bind fun tH=>(aD u).bind fun uV=>(cc n tH (!m) uV).bind fun x=>some ⟨x.neg,x.w⟩)=some (zn (zi ⟨n,w⟩-zi ⟨m,u⟩)):=by
  rw[show aD w=some (can 4294967296 (vl w))from hx.trim,show aD u=some (can 4294967296 (vl u))from hy.trim,bL,bL,yd _ _ _ _ hx.cl hy.cl,bL,Gc,←Int.sub_eq_add_neg];rfl
 rw[hK']
 generalize zi ⟨n,w⟩=i
 generalize zi ⟨m,u⟩=j
 by_cases h1:fj i
 ·by_cases h2:fj j
  ·rw[iS h1,iS h2,jl,bL,jl,Kt,Kt,Ep,BitVec.msb_and,BitVec.msb_xor,BitVec.msb_xor,zh h1,zh h2,zh (qT _),mM (qT _).1 (qT _).2,bL]
   by_cases hr:fj (i-j)
   ·rw[cz hr.1 hr.2]
    exact CM _ _
   ·have:(!((decide (i<0)^^decide (j<0))&&(decide (i<0)^^decide (IntKind.i64.wrap (i-j)<0))))=false:=by
     unfold fj at*
     by_cases hs:i<0
     ·have e:IntKind.i64.wrap (i-j)=i-j+18446744073709551616:=by rw[IntKind.wrap];simp[IntKind.signed,IntKind.bits];omega
      rw[e,show decide (i<0)=true by simp[hs],show decide (j<0)=false by simp;omega,show decide (i-j+18446744073709551616<0)=false by simp;omega];rfl
     ·have e:IntKind.i64.wrap (i-j)=i-j-18446744073709551616:=by rw[IntKind.wrap];simp[IntKind.signed,IntKind.bits];omega
      rw[e,show decide (i<0)=false by simp[hs],show decide (j<0)=true by simp;omega,show decide (i-j-18446744073709551616<0)=true by simp;omega];rfl
    rw[this,jN]
  ·rw[iS h1,oZ h2,jl,bL,jN]
 ·rw[oZ h1,jN,bL,jN]
theorem PA(n m:Bool)(a b:Nat):sv (!(n==m)) (a*b)=sv n a*sv m b:=by
 cases n<;>cases m<;>simp[sv,Int.neg_mul,Int.mul_neg]
theorem mul_eq{x y:Zr}(hx:Wl x)(hy:Wl y):cq x y=some (zn (zi x*zi y)):=by
 obtain⟨n,w⟩:=x
 obtain⟨m,u⟩:=y
 unfold cq
 have hcx:(can 4294967296 (vl w)).length≤10000000000:=hx.cl
 have hcy:(can 4294967296 (vl u)).length≤10000000000:=hy.cl
 simp only[]
 rw[show aD w=some (can 4294967296 (vl w))from hx.trim,show aD u=some (can 4294967296 (vl u))from hy.trim,bL,bL,show zi ⟨n,w⟩=sv n (vl w)from rfl,show zi ⟨m,u⟩=sv m (vl u)from rfl]
 simp only[bL,cm]
 generalize vl w=a at*
 generalize vl u=b at*
 have la:=dI (B:=4294967296) (by decide) a
 have lb:=dI (B:=4294967296) (by decide) b
 have hK:((dL (can 4294967296 a) (can 4294967296 b)).bind fun rj=>(bF (!(n==m)) rj).bind fun x=>some ⟨x.neg,x.w⟩)=some (zn (sv n a*sv m b)):=by
  rw[HY _ _ (gK (by omega)) (gK (by omega)),bL,eC,eC,kq _ _ ⟨fun x hx=>nN (by decide) _ _ _ hx,by rw[bk];omega⟩,bL,pY]
  have hv:vl (fF 4294967296 ((can 4294967296 a).length+(can 4294967296 b).length) (a*b))=a*b:=by
   show val _ _=_
   rw[lT,Nat.mod_eq_of_lt]
   rw[Nat.pow_add];exact Nat.mul_lt_mul'' la lb
  rw[hv,PA]
 rw[hK]
 by_cases h1:a<4294967296
 ·by_cases h2:b<4294967296
  ·have l1:=low_eq (can 4294967296 a) (fun _ hx=>lU (by decide) hx) (by have:=lW.2 h1;omega)
   have l2:=low_eq (can 4294967296 b) (fun _ hx=>lU (by decide) hx) (by have:=lW.2 h2;omega)
   rw[eC]at l1 l2
   have hlt:a*b<18446744073709551616:=Nat.mul_lt_mul'' h1 h2
   rw[show decide (((can 4294967296 a).length:Int)≤1)=true by rw[decide_eq_true_eq];exact lW.2 h1,jl,bL,show decide (((can 4294967296 b).length:Int)≤1)=true by rw[decide_eq_true_eq];exact lW.2 h2,jl,l1,l2,bL,bL,Nat.mod_eq_of_lt hlt,qQ _ _ hlt,bL,pY,PA]
  ·rw[show decide (((can 4294967296 a).length:Int)≤1)=true by rw[decide_eq_true_eq];exact lW.2 h1,jl,bL,show decide (((can 4294967296 b).length:Int)≤1)=false by rw[decide_eq_false_iff_not];exact fun h=>h2 (lW.1 h),jN]
 ·rw[show decide (((can 4294967296 a).length:Int)≤1)=false by rw[decide_eq_false_iff_not];exact fun h=>h1 (lW.1 h),jN,bL,jN]
end Go.Proofs.YtningmnklfpfjaaGreat
namespace Go.Proofs.YtningmnklfpfjaaGreat
open Go.Fw
theorem XL(n m:Bool){a b:Nat}(hb:0<b):
  sv n a/sv m b=(if n=true∧0<a%b then sv (!(n==m)) (a/b+1)else sv (!(n==m)) (a/b))∧
  sv n a%sv m b=(if n=true∧0<a%b then((b-a%b:Nat):Int)else((a%b:Nat):Int)):=by
 have hd:=Nat.div_add_mod a b
 have hm:=Nat.mod_lt a hb
 revert hd hm
 generalize a/b=q
 generalize a%b=r
 intro hd hm
 have hd':(b:Int)*q+r=a:=by exact_mod_cast hd
 have pos:∀n,sv n a/(b:Int)=(if n=true∧0<r then sv n (q+1)else sv n q)∧sv n a%(b:Int)=(if n=true∧0<r then((b-r:Nat):Int)else(r:Int)):=by
  intro n
  apply(Int.ediv_emod_unique (by omega)).2
  cases n
  ·simp[sv];omega
  ·by_cases hr:0<r
   ·simp only[hr,and_self,if_true,sv,cond_true]
    have:(b:Int)* -((q+1:Nat):Int)=-((b:Int)*q)-b:=by
     rw[Int.mul_neg,Int.natCast_add,Int.mul_add];simp;omega
    rw[this];omega
   ·have:r=0:=by omega
    subst this
    simp[sv,Int.mul_neg];omega
 cases m
 ·have:=pos n
  rw[oX,show(!(n==false))=n by cases n<;>rfl]
  exact this
 ·have:=pos n
  rw[show sv true b=-(b:Int)from rfl,Int.ediv_neg,Int.emod_neg,this.1,this.2,show(!(n==true))= !n by cases n<;>rfl,Gc,Gc]
  refine⟨?_,rfl⟩
  split<;>rfl
theorem XM{a b:Nat}(hba:b≤a)(vH:(can 4294967296 a).length≤10000000000):bY (can 4294967296 a) (can 4294967296 b)=some (fF 4294967296 (can 4294967296 a).length (a-b))∧vl (fF 4294967296 (can 4294967296 a).length (a-b))=a-b:=by
 have lc:=dI (B:=4294967296) (by decide) a
 have hdl:(can 4294967296 b).length≤(can 4294967296 a).length:=(eW (by decide)).2 (by omega)
 constructor
 ·rw[zL _ _ (gK (by omega)) (gK (by omega)) hdl (by rw[eC,eC];exact hba),eC,eC]
 ·show val _ _=_
  rw[lT,Nat.mod_eq_of_lt (by omega)]
def R5(i j:Int):Zr×Zr×Int:=if j=0 then(⟨false,[]⟩,⟨false,[]⟩,7)else(zn (i/j),zn (i%j),0)
theorem divMod_eq{x y:Zr}(hx:Wl x)(hy:Wl y):dr x y=some (R5 (zi x) (zi y)):=by
 obtain⟨n,w⟩:=x
 obtain⟨m,u⟩:=y
 unfold dr
 have hcx:(can 4294967296 (vl w)).length≤10000000000:=hx.cl
 have hcy:(can 4294967296 (vl u)).length≤10000000000:=hy.cl
 simp only[]
 rw[show aD w=some (can 4294967296 (vl w))from hx.trim,show aD u=some (can 4294967296 (vl u))from hy.trim,bL,bL,show zi ⟨n,w⟩=sv n (vl w)from rfl,show zi ⟨m,u⟩=sv m (vl u)from rfl]
 simp only[bL,cm]
 generalize vl w=a at*
 generalize vl u=b at*
 by_cases h0:b=0
 ·subst h0
  rw[show sv m 0=0 by cases m<;>rfl];rfl
 ·have zE:(can 4294967296 b).length≠0:=fun h=>h0 (qR.1 h)
  rw[show decide (((can 4294967296 b).length:Int)=0)=false by simp;intro e;rw[e]at zE;exact zE rfl,jN]
  obtain⟨q,r,hqr,hq1,hq2,WG,Z0,hq3,hr3⟩:=zM a b hcx hcy h0
  have hm:a%b<b:=Nat.mod_lt _ (by omega)
  obtain⟨e1,e2⟩:=XL n m (a:=a) (show 0<b by omega)
  have hj:sv m b≠0:=by cases m<;>simp[sv]<;>omega
  rw[hqr,bL]
  simp only[]
  rw[AK r (by have:=WG.2;omega),qO (by decide) WG.1,show val 4294967296 r=a%b from Z0,bL,R5,if_neg hj,e1,e2]
  have PB:(can 4294967296 (a%b)).length≤(can 4294967296 b).length:=(eW (by decide)).2 (Nat.lt_trans hm (dI (by decide) b))
  have hK:∀c:Bool,(decide (n=true∧0<a%b)=c)→(bif c then(c6 q [1]).bind fun rj=>(bY (can 4294967296 b) (can 4294967296 (a%b))).bind fun rf=>(bF (!(n==m)) rj).bind fun x=>(bF false rf).bind fun x_1=>some ((⟨x.neg,x.w⟩:Zr),(⟨x_1.neg,x_1.w⟩:Zr),(0:Int))
    else(bF (!(n==m)) q).bind fun x=>(bF false (can 4294967296 (a%b))).bind fun x_1=>some ((⟨x.neg,x.w⟩:Zr),(⟨x_1.neg,x_1.w⟩:Zr),(0:Int)))=
    some (zn (if n=true∧0<a%b then sv (!(n==m)) (a/b+1)else sv (!(n==m)) (a/b)),zn (if n=true∧0<a%b then((b-a%b:Nat):Int)else((a%b:Nat):Int)),0):=by
   intro c hc
   cases c
   ·have hc':=of_decide_eq_false hc
    rw[jN,if_neg hc',if_neg hc',kq _ _ hq1,bL,kq _ _ (gK (by omega)),bL,eC,hq2,pY,pY,oX]
   ·have hc':=of_decide_eq_true hc
    obtain⟨s1,s2⟩:=XM (a:=b) (b:=a%b) (by omega) hcy
    have w1:Gn [1]:=⟨by simp,by simp⟩
    rw[jl,if_pos hc',if_pos hc',zK _ _ hq1 w1,bL,s1,bL,kq _ _ ⟨fun x hx=>nN (by decide) _ _ _ hx,by rw[bk];simp;omega⟩,bL,kq _ _ ⟨fun x hx=>nN (by decide) _ _ _ hx,by rw[bk];omega⟩,bL,s2,pY,pY,oX]
    have:vl (fF 4294967296 (max q.length [1].length+1) (vl q+vl [1]))=a/b+1:=by
     show val _ _=_
     rw[lT,show vl [1]=1 by decide,hq2,Nat.mod_eq_of_lt]
     have h1:vl q<4294967296^q.length:=jm q hq1.1
     rw[hq2]at h1
     have h2:4294967296^q.length≤4294967296^(max q.length [1].length):=Nat.pow_le_pow_right (by decide) (by omega)
     have h3:0<4294967296^(max q.length [1].length):=Nat.pow_pos (by decide)
     rw[Nat.pow_succ];omega
    rw[this]
  have hz:(0<(can 4294967296 (a%b)).length)↔0<a%b:=by
   have:=qR (v:=a%b);omega
  cases n
  ·rw[jN,bL]
   exact hK false (by simp)
  ·rw[jl,bL]
   refine hK _ ?_
   simp only[true_and]
   by_cases h:0<a%b
   ·simp[h,hz.2 h]
   ·have h':¬0<(can 4294967296 (a%b)).length:=fun e=>h (hz.1 e)
    have h'':¬((0:Int)<((can 4294967296 (a%b)).length:Int)):=by omega
    simp only[h,h'',decide_false]
theorem XN{x y:Zr}(hx:Wl x)(hy:Wl y):iz x y=some (zn (Int.gcd (zi x) (zi y):Int)):=by
 obtain⟨n,w⟩:=x
 obtain⟨m,u⟩:=y
 unfold iz
 have hcx:(can 4294967296 (vl w)).length≤10000000000:=hx.cl
 have hcy:(can 4294967296 (vl u)).length≤10000000000:=hy.cl
 simp only[]
 rw[show aD w=some (can 4294967296 (vl w))from hx.trim,show aD u=some (can 4294967296 (vl u))from hy.trim,bL,bL,Int.gcd,Gb,Gb]
 show _=some (zn ((Nat.gcd (vl w) (vl u):Nat):Int))
 generalize vl w=a at*
 generalize vl u=b at*
 refine oh (fun s=>∃c d,s=(can 4294967296 c,can 4294967296 d)∧Nat.gcd c d=Nat.gcd a b∧(can 4294967296 c).length≤10000000000∧(can 4294967296 d).length≤10000000000)
  (fun s=>∃c d,s=(can 4294967296 c,can 4294967296 d)∧Nat.gcd c d=Nat.gcd a b∧(can 4294967296 c).length≤10000000000∧(d=0∨(c<18446744073709551616∧d<18446744073709551616))) (fun s=>vl s.2) ?_ ⟨a,b,rfl,rfl,hcx,hcy⟩ ?_
 ·rintro _ ⟨c,d,rfl,hg,hc,hd⟩
  simp only[bL,cm]
  by_cases h0:d=0
  ·right
   subst h0
   exact⟨_,rfl,c,0,rfl,hg,hc,.inl rfl⟩
  ·have zE:(can 4294967296 d).length≠0:=fun h=>h0 (qR.1 h)
   rw[show decide ((0:Int)<((can 4294967296 d).length:Int))=true by simp;omega,jl]
   by_cases h2:c<18446744073709551616∧d<18446744073709551616
   ·right
    have c1:=ga.2 h2.1
    have c2:=ga.2 h2.2
    rw[show decide ((2:Int)<((can 4294967296 c).length:Int))=false by simp;omega,jN,show decide ((2:Int)<((can 4294967296 d).length:Int))=false by simp;omega]
    exact⟨_,rfl,c,d,rfl,hg,hc,.inr h2⟩
   ·left
    have hm:c%d<d:=Nat.mod_lt _ (by omega)
    obtain⟨q,r,hqr,hq1,hq2,WG,Z0,-,-⟩:=zM c d hc hd h0
    have Mr:((bif decide ((2:Int)<((can 4294967296 c).length:Int))then some true else some (decide ((2:Int)<((can 4294967296 d).length:Int)))):Option Bool)=some true:=by
     by_cases Gv:c<18446744073709551616
     ·have hd2:¬d<18446744073709551616:=fun h=>h2 ⟨Gv,h⟩
      have:¬(((can 4294967296 d).length:Int)≤2):=fun h=>hd2 (ga.1 h)
      rw[show decide ((2:Int)<((can 4294967296 d).length:Int))=true by simp;omega]
      exact CM _ _
     ·have:¬(((can 4294967296 c).length:Int)≤2):=fun h=>Gv (ga.1 h)
      rw[show decide ((2:Int)<((can 4294967296 c).length:Int))=true by simp;omega,jl]
    rw[Mr,bL,bL,jl,hqr,bL]
    simp only[]
    rw[AK r (by have:=WG.2;omega),qO (by decide) WG.1,show val 4294967296 r=c%d from Z0,bL]
    refine⟨_,rfl,⟨d,c%d,rfl,?_,hd,?_⟩,?_⟩
    ·rw[←hg,Nat.gcd_comm d,←Nat.gcd_rec,Nat.gcd_comm]
    ·exact Nat.le_trans ((eW (by decide)).2 (Nat.lt_trans hm (dI (by decide) d))) hd
    ·simp only[eC];exact hm
 ·rintro _ ⟨c,d,rfl,hg,hc,Px⟩
  simp only[bL]
  by_cases h0:d=0
  ·subst h0
   rw[show decide (((can 4294967296 0).length:Int)=0)=true by simp[uJ],jl,yc _ (by omega),bL,kq _ _ (gK (by omega)),bL,eC,pY,oX,←hg,Nat.gcd_zero_right]
  ·have h2:=Px.resolve_left h0
   have zE:(can 4294967296 d).length≠0:=fun h=>h0 (qR.1 h)
   have c1:=ga.2 h2.1
   have c2:=ga.2 h2.2
   rw[show decide (((can 4294967296 d).length:Int)=0)=false by simp;intro e;rw[e]at zE;exact zE rfl,jN,low_eq _ (fun _ hx=>lU (by decide) hx) (by omega),bL,low_eq _ (fun _ hx=>lU (by decide) hx) (by omega),bL,eC,eC]
   refine oh (fun s=>Nat.gcd s.1 s.2=Nat.gcd a b∧s.1<18446744073709551616∧s.2<18446744073709551616) (fun e=>e=Nat.gcd a b∧e<18446744073709551616) (fun s=>s.2) ?_ ⟨hg,h2.1,h2.2⟩ ?_
   ·rintro⟨s,t⟩ ⟨i1,i2,i3⟩
    simp only at i1 i2 i3⊢
    by_cases ht:0<t
    ·left
     rw[show decide (0<t)=true by simp[ht],jl,AH (by omega),bL]
     refine⟨_,rfl,⟨?_,i3,?_⟩,Nat.mod_lt _ ht⟩
     ·rw[←i1,Nat.gcd_comm t,←Nat.gcd_rec,Nat.gcd_comm]
     ·exact Nat.lt_trans (Nat.mod_lt _ ht) i3
    ·right
     rw[show decide (0<t)=false by simp[ht],jN]
     refine⟨_,rfl,?_,i2⟩
     rw[←i1,show t=0 by omega,Nat.gcd_zero_right]
   ·rintro e ⟨rfl,he⟩
    rw[qQ _ _ he,bL,pY,oX]
end Go.Proofs.YtningmnklfpfjaaGreat
namespace Go.Proofs.YtningmnklfpfjaaGreat
open Go.Fw
def zl(l:List Nat):List Int:=l.map (fun(n:Nat)=>(n:Int))
abbrev Yq(l:List Nat):Nat:=val 65536 l
end Go.Proofs.YtningmnklfpfjaaGreat
namespace Go.Proofs.YtningmnklfpfjaaGreat
open Go.Fw
theorem p9(k:Nat):10^(9*(k+1))=10^(9*k)*1000000000:=by
 rw[show 9*(k+1)=9*k+9 by omega,Nat.pow_add]
end Go.Proofs.YtningmnklfpfjaaGreat
namespace Go.Proofs.YtningmnklfpfjaaGreat
open Go.Fw
def body(s:P7):P7:=if s.head?=some 45 then s.tail else s
def dv(s:P7):Nat:=s.foldl (fun a c=>a*10+(c.toNat-48)) 0
def z0:Zr:=⟨false,[]⟩
end Go.Proofs.YtningmnklfpfjaaGreat
namespace Go.Proofs.YtningmnklfpfjaaGreat
open Go.Fw
theorem zeta'(z:Zr):(⟨z.neg,z.w⟩:Zr)=z:=by cases z;rfl
theorem LK{i:Int}(h:fj i):Fit 2 i:=Fit.i64 h.1 h.2
end Go.Proofs.YtningmnklfpfjaaGreat
namespace Go.Proofs.YtningmnklfpfjaaGreat
open Go.Fw
theorem R6(l:List Zr)(hl:l.length≤100):∃b,lM l=some b∧(b=false→∀z∈l,z.w.length≤12):=by
 unfold lM
 simp only[bL]
 refine n9 (fun y=>∃i:Nat,y=(i:Int)∧i≤l.length∧∀z∈l.take i,z.w.length≤12) (fun e=>(∃c,e=.inl c∧∀z∈l,z.w.length≤12)∨e=.inr true) (fun y=>l.length-y.toNat) ?_ ⟨0,rfl,by omega,by simp⟩ ?_
 ·rintro _ ⟨i,rfl,hi,ht⟩
  by_cases hlt:i<l.length
  ·have g:l[i]? =some l[i]:=by simp
   rw[show decide ((i:Int)<(l.length:Int))=true by simp[hlt],jl,aQ g,bL]
   by_cases ey:l[i].w.length≤12
   ·left
    rw[show decide ((12:Int)<(l[i].w.length:Int))=false by rw[decide_eq_false_iff_not];omega,jN,bw (by omega)]
    refine⟨_,rfl,⟨i+1,rfl,hlt,?_⟩,by omega⟩
    rw[List.take_add_one,g]
    intro z hz
    rcases List.mem_append.1 hz with h|h
    ·exact ht z h
    ·simp at h;rw[h];exact ey
   ·right
    rw[show decide ((12:Int)<(l[i].w.length:Int))=true by rw[decide_eq_true_eq];omega,jl]
    exact⟨_,rfl,.inr rfl⟩
  ·right
   rw[show decide ((i:Int)<(l.length:Int))=false by simp;omega,jN]
   rw[List.take_of_length_le (by omega)]at ht
   exact⟨_,rfl,.inl ⟨_,rfl,ht⟩⟩
 ·rintro e (⟨c,rfl,he⟩|rfl)
  ·exact⟨false,rfl,fun _=>he⟩
  ·exact⟨true,rfl,fun h=>by cases h⟩
theorem PC(i j:Int):(i-j).sign=qS i j:=by
 rcases Int.lt_trichotomy i j with h|h|h
 ·rw[mX h,Int.sign_eq_neg_one_of_neg (by omega)]
 ·rw[h,vf,Int.sub_self];rfl
 ·rw[mY h,Int.sign_eq_one_of_pos (by omega)]
abbrev OkZ(z:Zr):Prop:=True∧(z.w.length≤9223372036854775807∧∀x∈z.w,x<4294967296)
end Go.Proofs.YtningmnklfpfjaaGreat
namespace Go.Proofs.YtningmnklfpfjaaGreat
open Go.Fw
theorem Fit.div{L:Nat}{i:Int}(h:Fit L i)(j:Int):Fit L (i/j):=h.le (Int.natAbs_ediv_le_natAbs i j)
theorem Fit.gcd{L:Nat}{i j:Int}(h:Fit L i)(h':Fit L j):Fit L (Int.gcd i j:Int):=by
 by_cases h0:i=0
 ·subst h0;rw[Int.gcd_zero_left];exact h'.le (by simp)
 ·have:Int.gcd i j∣i.natAbs:=Nat.gcd_dvd_left _ _
  exact h.le (by have:=Nat.le_of_dvd (by omega) this;simpa using this)
end Go.Proofs.YtningmnklfpfjaaGreat
namespace Go.Proofs.YtningmnklfpfjaaGreat
open Go.Fw
def qd(q:Qr):Int:=if zi q.den=0 then 1 else zi q.den
def qv(q:Qr):Rat:=Rat.divInt (zi q.num) (qd q)
def qn(r:Rat):Qr:=⟨zn r.num,if r.den=1 then⟨false,[]⟩else zn (r.den:Int)⟩
def FQ(L:Nat)(r:Rat):Prop:=Fit L r.num∧Fit L (r.den:Int)
structure kx (L:Nat) (q:Qr) (r:Rat):Prop where
 n:∀x∈q.num.w,x<4294967296
 d:∀x∈q.den.w,x<4294967296
 ln:q.num.w.length≤L
 ld:q.den.w.length≤L
 l1:1≤L
 v:qv q=r
theorem aba(q:Qr):qd q≠0:=by
 unfold qd
 by_cases h:zi q.den=0
 ·rw[if_pos h];decide
 ·rw[if_neg h];exact h
theorem abb(r:Rat):qv (qn r)=r:=by
 unfold qv qd qn
 by_cases h:r.den=1
 ·rw[if_pos h]
  show Rat.divInt (zi (zn r.num)) (if zi ⟨false,[]⟩=0 then 1 else zi ⟨false,[]⟩)=r
  rw[if_pos (show zi ⟨false,[]⟩=0 from rfl),fL]
  have:=Rat.num_divInt_den r
  rw[h]at this;exact this
 ·rw[if_neg h]
  show Rat.divInt (zi (zn r.num)) (if zi (zn (r.den:Int))=0 then 1 else zi (zn (r.den:Int)))=r
  have:=r.den_nz
  rw[fL,fL,if_neg (by omega),Rat.num_divInt_den]
theorem Ku{w:List Nat}{n:Bool}{L:Nat}(h:∀x∈w,x<4294967296)(hl:w.length≤L):Fit L (zi ⟨n,w⟩):=by
 unfold Fit
 rw[Gb]
 exact Nat.lt_of_lt_of_le (jm w h) (Nat.pow_le_pow_right (by decide) hl)
theorem AM{L:Nat}(h:1≤L):Fit L 1:=by
 unfold Fit
 exact Nat.lt_of_lt_of_le (show(1:Int).natAbs<4294967296^1 by decide) (Nat.pow_le_pow_right (by decide) h)
theorem FQ.rep{L:Nat}{r:Rat}(h:FQ L r)(h1:1≤L):kx L (qn r) r:=by
 refine⟨fun x hx=>lU (by decide) hx,?_,(eW (by decide)).2 h.1,?_,h1,abb r⟩
 ·unfold qn
  by_cases e:r.den=1
  ·rw[if_pos e];simp
  ·rw[if_neg e];exact fun x hx=>lU (by decide) hx
 ·unfold qn
  by_cases e:r.den=1
  ·rw[if_pos e];simp
  ·rw[if_neg e];exact(eW (by decide)).2 h.2
theorem kx.wn{L:Nat}{q:Qr}{r:Rat}(h:kx L q r)(hL:L≤10000000000):Wl q.num:=⟨h.n,Nat.le_trans h.ln hL⟩
theorem kx.wd{L:Nat}{q:Qr}{r:Rat}(h:kx L q r)(hL:L≤10000000000):Wl q.den:=⟨h.d,Nat.le_trans h.ld hL⟩
theorem kx.fn{L:Nat}{q:Qr}{r:Rat}(h:kx L q r):Fit L (zi q.num):=Ku (n:=q.num.neg) h.n h.ln
theorem kx.fd{L:Nat}{q:Qr}{r:Rat}(h:kx L q r):Fit L (zi q.den):=Ku (n:=q.den.neg) h.d h.ld
theorem kx.fqd{L:Nat}{q:Qr}{r:Rat}(h:kx L q r):Fit L (qd q):=by
 unfold qd
 by_cases e:zi q.den=0
 ·rw[if_pos e];exact AM h.l1
 ·rw[if_neg e];exact h.fd
theorem kx.mono{L M:Nat}{q:Qr}{r:Rat}(h:kx L q r)(hl:L≤M):kx M q r:=⟨h.n,h.d,Nat.le_trans h.ln hl,Nat.le_trans h.ld hl,Nat.le_trans h.l1 hl,h.v⟩
theorem FQ.mono{L M:Nat}{r:Rat}(h:FQ L r)(hl:L≤M):FQ M r:=⟨h.1.mono hl,h.2.mono hl⟩
theorem qV{L:Nat}{a d:Int}(h0:d≠0)(ha:Fit L a)(hd:Fit L d):FQ L (Rat.divInt a d):=by
 generalize hr:Rat.divInt a d=r
 obtain⟨n',d',z',c⟩:=r
 obtain⟨m,hm,h1,h2⟩:=Rat.divInt_num_den h0 hr
 have hm':0<m.natAbs:=Int.natAbs_pos.2 hm
 refine⟨ha.le ?_,hd.le ?_⟩
 ·rw[h1,Int.natAbs_mul];exact Nat.le_mul_of_pos_right _ hm'
 ·rw[h2,Int.natAbs_mul];exact Nat.le_mul_of_pos_right _ hm'
theorem kx.fq{L:Nat}{q:Qr}{r:Rat}(h:kx L q r):FQ L r:=by rw[←h.v];exact qV (aba q) h.fn h.fqd
theorem vg(r:Rat):r=Rat.divInt r.num (r.den:Int):=(Rat.num_divInt_den r).symm
theorem qm(r:Rat):(r.den:Int)≠0:=by have:=r.den_nz;omega
theorem FQ.add{L M:Nat}{x y:Rat}(hx:FQ L x)(hy:FQ M y):FQ (L+M+1) (x+y):=by
 have e:x+y=Rat.divInt (x.num*y.den+y.num*x.den) (x.den*y.den):=by
  conv=>lhs;rw[vg x,vg y,Rat.divInt_add_divInt _ _ (qm x) (qm y)]
 rw[e]
 refine qV (Int.mul_ne_zero (qm x) (qm y)) ?_ ?_
 ·exact(hx.1.mul hy.2).add (by rw[Nat.add_comm L M];exact hy.1.mul hx.2)
 ·exact(hx.2.mul hy.2).mono (by omega)
theorem FQ.sub{L M:Nat}{x y:Rat}(hx:FQ L x)(hy:FQ M y):FQ (L+M+1) (x-y):=by
 have e:x-y=Rat.divInt (x.num*y.den-y.num*x.den) (x.den*y.den):=by
  conv=>lhs;rw[vg x,vg y,Rat.divInt_sub_divInt _ _ (qm x) (qm y)]
 rw[e]
 refine qV (Int.mul_ne_zero (qm x) (qm y)) ?_ ?_
 ·exact(hx.1.mul hy.2).sub (by rw[Nat.add_comm L M];exact hy.1.mul hx.2)
 ·exact(hx.2.mul hy.2).mono (by omega)
theorem FQ.mul{L M:Nat}{x y:Rat}(hx:FQ L x)(hy:FQ M y):FQ (L+M) (x*y):=by
 have e:x*y=Rat.divInt (x.num*y.num) (x.den*y.den):=by
  conv=>lhs;rw[vg x,vg y,Rat.divInt_mul_divInt]
 rw[e]
 exact qV (Int.mul_ne_zero (qm x) (qm y)) (hx.1.mul hy.1) (hx.2.mul hy.2)
theorem FQ.neg{L:Nat}{x:Rat}(hx:FQ L x):FQ L (-x):=⟨hx.1.neg,hx.2⟩
theorem FQ.inv{L:Nat}{x:Rat}(hx:FQ L x)(h:x≠0):FQ L x⁻¹:=by
 have hn:x.num≠0:=fun e=>h (Rat.num_eq_zero.1 e)
 rw[Rat.inv_def]
 exact qV hn hx.2 hx.1
theorem FQ.div{L M:Nat}{x y:Rat}(hx:FQ L x)(hy:FQ M y)(h:y≠0):FQ (L+M) (x/y):=by rw[Rat.div_def];exact hx.mul (hy.inv h)
theorem FQ.int{L:Nat}{i:Int}(h:Fit L i)(h1:1≤L):FQ L (i:Rat):=⟨h,AM h1⟩
def lX(x y:Rat):Int:=if x<y then-1 else if x=y then 0 else 1
theorem zj(x:Rat):lX x x=0:=by unfold lX;rw[if_neg Rat.lt_irrefl,if_pos rfl]
theorem Kv{x y:Rat}(h:x<y):lX x y=-1:=if_pos h
theorem R7{x y:Rat}(h:y<x):lX x y=1:=by
 unfold lX
 rw[if_neg (fun h'=>by grind),if_neg (fun h'=>by grind)]
theorem LL{a b c d:Int}(hb:0<b)(hd:0<d):Rat.divInt a b<Rat.divInt c d↔a*d<c*b:=by
 have hb':(0:Rat)<(b:Rat):=Rat.intCast_pos.2 hb
 have hd':(0:Rat)<(d:Rat):=Rat.intCast_pos.2 hd
 rw[Rat.divInt_eq_div,Rat.divInt_eq_div,Rat.div_lt_iff hb',Rat.div_def,Rat.mul_assoc,Rat.mul_comm (d:Rat)⁻¹,←Rat.mul_assoc,←Rat.div_def,Rat.lt_div_iff hd',←Rat.intCast_mul,←Rat.intCast_mul,Rat.intCast_lt_intCast]
theorem Ic{a b c d:Int}(hb:0<b)(hd:0<d):lX (Rat.divInt a b) (Rat.divInt c d)=qS (a*d) (c*b):=by
 unfold lX qS
 have e1:=LL (a:=a) (c:=c) hb hd
 have e2:=Rat.divInt_eq_divInt_iff (n₁:=a) (d₁:=b) (n₂:=c) (d₂:=d) (by omega) (by omega)
 by_cases h1:a*d<c*b
 ·rw[if_pos (e1.2 h1),if_pos h1]
 ·rw[if_neg (fun h=>h1 (e1.1 h)),if_neg h1]
  by_cases h2:a*d=c*b
  ·rw[if_pos (e2.2 h2),if_pos h2]
  ·rw[if_neg (fun h=>h2 (e2.1 h)),if_neg h2]
theorem uL{a b:Int}(hb:0<b):a.sign=lX (Rat.divInt a b) 0:=by
 have:(0:Rat)=Rat.divInt 0 1:=rfl
 rw[this,Ic hb (by decide),Int.mul_one,Int.zero_mul,←PC,Int.sub_zero]
theorem Er{a d:Int}(hd:0<d):qn (Rat.divInt a d)=⟨zn (a/(Int.gcd a d:Int)),if d/(Int.gcd a d:Int)=1 then⟨false,[]⟩else zn (d/(Int.gcd a d:Int))⟩:=by
 have h1:(Rat.divInt a d).num=a/(Int.gcd a d:Int):=by rw[Rat.num_divInt,Int.sign_eq_one_of_pos hd,Int.one_mul,Int.gcd_comm]
 have h2:((Rat.divInt a d).den:Int)=d/(Int.gcd a d:Int):=by
  rw[Rat.den_divInt,if_neg (by omega),Int.gcd_comm]
  have:(d.natAbs:Int)=d:=by omega
  rw[Int.natCast_ediv,this]
 unfold qn
 rw[h1,h2]
 by_cases e:(Rat.divInt a d).den=1
 ·rw[if_pos e,if_pos (by omega)]
 ·rw[if_neg e,if_neg (by omega)]
theorem R8(k:Int):((bif(uK k).2 then some (decide ((uK k).1=1))else some false):Option Bool)=some (decide (k=1)):=by
 by_cases h:fj k
 ·rw[iS h];rfl
 ·rw[oZ h]
  have:¬k=1:=by rintro rfl;exact h (by decide)
  rw[decide_eq_false this];rfl
theorem CN{n d:Zr}(hn:Wl n)(hd:Wl d)(h:0<zi d):((iz n d).bind fun g=>(dr n g).bind fun a=>(dr d g).bind fun b=>(cZ b.1).bind fun c=>
  (bif c.2 then some (decide (c.1=1))else some false).bind fun e=>bif e then some (⟨a.1,⟨false,[]⟩⟩:Qr)else some ⟨a.1,b.1⟩)=some (qn (Rat.divInt (zi n) (zi d))):=by
 have g0:(Int.gcd (zi n) (zi d):Int)≠0:=by
  have:0<Int.gcd (zi n) (zi d):=Int.gcd_pos_of_ne_zero_right _ (by omega)
  omega
 have wg:Wl (zn (Int.gcd (zi n) (zi d):Int)):=ku ((Wl.fit hd).le (by
  have:=Nat.le_of_dvd (Int.natAbs_pos.2 (show zi d≠0 by omega)) (Int.gcd_dvd_natAbs_right (zi n) (zi d))
  simpa using this)) hd.2
 have wq:Wl (zn (zi d/(Int.gcd (zi n) (zi d):Int))):=ku ((Wl.fit hd).le (Int.natAbs_ediv_le_natAbs _ _)) hd.2
 rw[XN hn hd,bL,divMod_eq hn wg,bL,divMod_eq hd wg,bL,fL,R5,if_neg g0,R5,if_neg g0]
 simp only[]
 rw[oY wq,bL,fL,R8,bL,Er h]
 by_cases e:zi d/(Int.gcd (zi n) (zi d):Int)=1
 ·rw[decide_eq_true e,jl,if_pos e]
 ·rw[decide_eq_false e,jN,if_neg e]
theorem reduce_eq{x y:Zr}(hx:Wl x)(hy:Wl y)(h0:zi y≠0):dw x y=some (qn (Rat.divInt (zi x) (zi y))):=by
 unfold dw
 simp only[cm,bL,zeta',sign_eq hy]
 by_cases h:zi y<0
 ·rw[show decide ((zi y).sign<0)=true by rw[Int.sign_eq_neg_one_of_neg h];rfl,jl,neg_eq hx,bL,neg_eq hy,bL]
  have hp:=CN (ku (Wl.fit hx).neg hx.2) (ku (Wl.fit hy).neg hy.2) (by rw[fL];omega)
  rw[fL,fL,Rat.neg_divInt_neg]at hp
  exact hp
 ·rw[show decide ((zi y).sign<0)=false by rw[Int.sign_eq_one_of_pos (by omega)];rfl,jN]
  exact CN hx hy (by omega)
end Go.Proofs.YtningmnklfpfjaaGreat
namespace Go.Proofs.YtningmnklfpfjaaGreat
open Go.Fw
theorem uM(q:Qr):(⟨⟨q.num.neg,q.num.w⟩,⟨q.den.neg,q.den.w⟩⟩:Qr)=q:=by cases q;rfl
theorem uN(q:Qr):(⟨q.num,q.den⟩:Qr)=q:=by cases q;rfl
theorem parts_eq{L:Nat}{q:Qr}{r:Rat}(h:kx L q r)(hL:L≤10000000000):∃n d:Zr,cG q=some (n,d)∧Wl n∧Wl d∧0<zi d∧Rat.divInt (zi n) (zi d)=r∧Fit L (zi n)∧Fit L (zi d):=by
 have wn:=h.wn hL
 have wd:=h.wd hL
 have hv:=h.v
 unfold cG
 simp only[zeta',bL,sign_eq wd,mM (x:=1) (by decide) (by decide),neg_eq wn,neg_eq wd]
 unfold qv qd at hv
 rcases Int.lt_trichotomy (zi q.den) 0 with h1|h1|h1
 ·refine⟨_,_,?_,ku h.fn.neg hL,ku h.fd.neg hL,by rw[fL];omega,?_,by rw[fL];exact h.fn.neg,by rw[fL];exact h.fd.neg⟩
  ·rw[Int.sign_eq_neg_one_of_neg h1];rfl
  ·rw[fL,fL,Rat.neg_divInt_neg,←hv,if_neg (by omega)]
 ·refine⟨_,_,?_,wn,ku (AM h.l1) hL,by rw[fL];decide,?_,h.fn,by rw[fL];exact AM h.l1⟩
  ·rw[h1];rfl
  ·rw[fL,←hv,if_pos h1]
 ·refine⟨_,_,?_,wn,wd,h1,?_,h.fn,h.fd⟩
  ·rw[Int.sign_eq_one_of_pos h1];rfl
  ·rw[←hv,if_neg (by omega)]
def Sm(a:Int):Prop:=-2147483648<a∧a<2147483648
theorem Sm.ok{a:Int}(h:Sm a):fj a:=by unfold Sm at h;unfold fj;omega
theorem lY{L:Nat}{q:Qr}{r:Rat}(h:kx L q r)(hL:L≤10000000000):∃a b c,c8 q=some (a,b,c)∧(c=true→Sm a∧0<b∧Sm b∧Rat.divInt a b=r):=by
 have wn:=h.wn hL
 have wd:=h.wd hL
 have hv:=h.v
 unfold c8
 simp only[zeta',bL,cm,oY wn,oY wd]
 unfold qv qd at hv
 generalize zi q.num=n at*
 generalize zi q.den=d at*
 by_cases hs:Sm n∧Sm d
 ·obtain⟨h1,h2⟩:=hs
  rw[iS h1.ok,iS h2.ok]
  unfold Sm at h1 h2
  simp only[]
  rw[decide_eq_false (show ¬n≤-2147483648 by omega),decide_eq_false (show ¬2147483648≤n by omega),decide_eq_false (show ¬d≤-2147483648 by omega),decide_eq_false (show ¬2147483648≤d by omega)]
  simp only[Bool.not_true,jN,bL]
  by_cases h0:d=0
  ·rw[decide_eq_true h0,jl]
   refine⟨_,_,_,rfl,fun _=>⟨h1,by decide,⟨by decide,by decide⟩,?_⟩⟩
   rw[←hv,if_pos h0]
  ·rw[decide_eq_false h0,jN]
   rw[if_neg h0]at hv
   by_cases hneg:d<0
   ·rw[decide_eq_true hneg,jl,cz (by omega) (by omega),cz (by omega) (by omega)]
    refine⟨_,_,_,rfl,fun _=>⟨⟨by omega,by omega⟩,by omega,⟨by omega,by omega⟩,?_⟩⟩
    rw[Int.zero_sub,Int.zero_sub,Rat.neg_divInt_neg,hv]
   ·rw[decide_eq_false hneg,jN]
    exact⟨_,_,_,rfl,fun _=>⟨h1,by omega,h2,hv⟩⟩
 ·refine⟨0,0,false,?_,fun e=>by cases e⟩
  by_cases o1:fj n
  ·by_cases o2:fj d
   ·rw[iS o1,iS o2]
    simp only[Bool.not_true,jN,bL]
    unfold Sm at hs
    by_cases c1:n≤-2147483648
    ·rw[decide_eq_true c1];simp only[bL,jl]
    ·rw[decide_eq_false c1];simp only[bL,jN]
     by_cases c2:2147483648≤n
     ·rw[decide_eq_true c2];simp only[bL,jl]
     ·rw[decide_eq_false c2];simp only[bL,jN]
      by_cases c3:d≤-2147483648
      ·rw[decide_eq_true c3];simp only[bL,jl]
      ·rw[decide_eq_false c3];simp only[bL,jN]
       rw[decide_eq_true (show 2147483648≤d by omega)];simp only[jl]
   ·rw[iS o1,oZ o2];simp only[Bool.not_true,Bool.not_false,jN,bL,jl]
  ·rw[oZ o1];simp only[Bool.not_false,bL,jl]
theorem Ie{a g:Int}(hg:0<g)(h:g∣a):Int.tdiv a g=a/g:=by
 obtain⟨k,rfl⟩:=h
 rw[Int.mul_tdiv_cancel_left _ (by omega),Int.mul_ediv_cancel_left _ (by omega)]
theorem qW{n d:Int}(hd:0<d)(hd':d≤9223372036854775807)(hn: -9223372036854775807≤n)(hn':n≤9223372036854775807):dV n d=some (qn (Rat.divInt n d)):=by
 unfold dV
 simp only[bL,cm]
 refine oh (fun s=>Int.gcd s.1 s.2=Int.gcd n d∧s.1.natAbs≤9223372036854775807∧s.2.natAbs≤9223372036854775807) (fun e=>e.natAbs=Int.gcd n d∧e.natAbs≤9223372036854775807) (fun s=>s.2.natAbs) ?_ ⟨rfl,by simp only[];omega,by simp only[];omega⟩ ?_
 ·rintro⟨a,b⟩ ⟨i1,i2,i3⟩
  simp only at i1 i2 i3⊢
  by_cases hb:b=0
  ·right
   subst hb
   refine⟨a,by simp,?_,i2⟩
   rw[←i1];simp[Int.gcd]
  ·left
   rw[decide_eq_true hb,jl,KX,if_neg hb,bL]
   have hm:(Int.tmod a b).natAbs=a.natAbs%b.natAbs:=Int.natAbs_tmod a b
   have hlt:=Nat.mod_lt a.natAbs (Int.natAbs_pos.2 hb)
   refine⟨_,rfl,⟨?_,i3,by simp only[];omega⟩,by simp only[];omega⟩
   simp only[]
   rw[←i1,Int.gcd,Int.gcd,hm,Nat.gcd_comm b.natAbs,←Nat.gcd_rec,Nat.gcd_comm]
 ·rintro e ⟨he,hle⟩
  obtain⟨g,hg⟩:∃g:Int,(Int.gcd n d:Int)=g:=⟨_,rfl⟩
  have hgp:0<g:=by have:=Int.gcd_pos_of_ne_zero_right n (show d≠0 by omega);omega
  have hgn:g∣n:=hg▸Int.gcd_dvd_left ..
  have hgd:g∣d:=hg▸Int.gcd_dvd_right ..
  have hK:∀m:Int,m=g→(bif decide (m=d)then(xx n m).bind fun gM=>(bp gM).bind fun x=>some (⟨⟨x.neg,x.w⟩,⟨false,[]⟩⟩:Qr)else(xx n m).bind fun gA=>(bp gA).bind fun x=>(xx d m).bind fun rN=>(bp rN).bind fun y=>some ⟨⟨x.neg,x.w⟩,⟨y.neg,y.w⟩⟩)=some (qn (Rat.divInt n d)):=by
   rintro m rfl
   have b1:(n/m).natAbs≤n.natAbs:=Int.natAbs_ediv_le_natAbs _ _
   have b2:(d/m).natAbs≤d.natAbs:=Int.natAbs_ediv_le_natAbs _ _
   have q1:xx n m=some (n/m):=by
    rw[xx,if_neg (by omega),Ie hgp hgn,cz (by omega) (by omega)]
   have q2:xx d m=some (d/m):=by
    rw[xx,if_neg (by omega),Ie hgp hgd,cz (by omega) (by omega)]
   rw[Er hd,hg,q1,q2]
   simp only[bL,mM (x:=n/m) (by omega) (by omega),mM (x:=d/m) (by omega) (by omega),zeta']
   by_cases e1:m=d
   ·rw[decide_eq_true e1,jl,if_pos (by rw[e1];exact Int.ediv_self (by omega))]
   ·rw[decide_eq_false e1,jN,if_neg]
    intro e2
    have:=Int.ediv_mul_cancel hgd
    rw[e2]at this;omega
  by_cases hneg:e<0
  ·rw[decide_eq_true hneg,jl,cz (by omega) (by omega)]
   exact hK _ (by omega)
  ·rw[decide_eq_false hneg,jN]
   exact hK _ (by omega)
theorem ja{a b:Int}(ha:Sm a)(hb:Sm b): -4611686018427387904<a*b∧a*b<4611686018427387904:=by
 unfold Sm at ha hb
 have h1:(a*b).natAbs=a.natAbs*b.natAbs:=Int.natAbs_mul a b
 have h2:a.natAbs*b.natAbs≤2147483647*2147483647:=Nat.mul_le_mul (by omega) (by omega)
 omega
theorem pZ{a b:Int}(ha:0<a)(hb:0<b):0<a*b:=Int.mul_pos ha hb
section ops
variable {L M:Nat}{a b:Qr}{x y:Rat}
theorem kx.add(ha:kx L a x)(hb:kx M b y)(h:L+M≤4000000000):jJ a b=some (qn (x+y))∧kx (L+M+1) (qn (x+y)) (x+y):=by
 refine⟨?_,(ha.fq.add hb.fq).rep (by omega)⟩
 obtain⟨n1,d1,c1,e1,k1⟩:=lY ha (by omega)
 obtain⟨n2,d2,c2,e2,k2⟩:=lY hb (by omega)
 obtain⟨p1,q1,f1,w1,w2,g1,v1,t1,t2⟩:=parts_eq ha (by omega)
 obtain⟨p2,q2,f2,w3,w4,g2,v2,t3,t4⟩:=parts_eq hb (by omega)
 have CO:fU a b=some (qn (x+y)):=by
  unfold fU dX
  have u1:=ku (t1.mul t4) (by omega)
  have u2:=ku (t3.mul t2) (by omega)
  have u3:=ku (t2.mul t4) (by omega)
  have u4:=ku ((t1.mul t4).add ((t3.mul t2).mono (by omega))) (by omega)
  simp only[zeta',uM,uN,f1,f2,bL,mul_eq w1 w4,mul_eq w3 w2,add_eq u1 u2,mul_eq w2 w4,fL]
  rw[reduce_eq u4 u3 (by rw[fL];have:=pZ g1 g2;omega),bL,fL,fL,←v1,←v2,Rat.divInt_add_divInt _ _ (by omega) (by omega)]
 unfold jJ
 simp only[zeta',uM,uN,e1,e2,bL,cm,CO]
 cases c1
 ·rw[jN,bL,jN]
 ·cases c2
  ·rw[jl,bL,jN]
  ·obtain⟨s1,s2,s3,s4⟩:=k1 rfl
   obtain⟨s5,s6,s7,s8⟩:=k2 rfl
   have m1:=ja s1 s7
   have m2:=ja s5 s3
   have m3:=ja s3 s7
   have m4:=pZ s2 s6
   rw[jl,bL,jl,cz (x:=n1*d2) (by omega) (by omega),cz (x:=n2*d1) (by omega) (by omega),cz (x:=d1*d2) (by omega) (by omega),cz (by omega) (by omega),qW m4 (by omega) (by omega) (by omega),bL,←s4,←s8,Rat.divInt_add_divInt _ _ (by omega) (by omega)]
theorem kx.sub(ha:kx L a x)(hb:kx M b y)(h:L+M≤4000000000):kK a b=some (qn (x-y))∧kx (L+M+1) (qn (x-y)) (x-y):=by
 refine⟨?_,(ha.fq.sub hb.fq).rep (by omega)⟩
 obtain⟨n1,d1,c1,e1,k1⟩:=lY ha (by omega)
 obtain⟨n2,d2,c2,e2,k2⟩:=lY hb (by omega)
 obtain⟨p1,q1,f1,w1,w2,g1,v1,t1,t2⟩:=parts_eq ha (by omega)
 obtain⟨p2,q2,f2,w3,w4,g2,v2,t3,t4⟩:=parts_eq hb (by omega)
 have CO:fV a b=some (qn (x-y)):=by
  unfold fV dY
  have u1:=ku (t1.mul t4) (by omega)
  have u2:=ku (t3.mul t2) (by omega)
  have u3:=ku (t2.mul t4) (by omega)
  have u4:=ku ((t1.mul t4).sub ((t3.mul t2).mono (by omega))) (by omega)
  simp only[zeta',uM,uN,f1,f2,bL,mul_eq w1 w4,mul_eq w3 w2,sub_eq u1 u2,mul_eq w2 w4,fL]
  rw[reduce_eq u4 u3 (by rw[fL];have:=pZ g1 g2;omega),bL,fL,fL,←v1,←v2,Rat.divInt_sub_divInt _ _ (by omega) (by omega)]
 unfold kK
 simp only[zeta',uM,uN,e1,e2,bL,cm,CO]
 cases c1
 ·rw[jN,bL,jN]
 ·cases c2
  ·rw[jl,bL,jN]
  ·obtain⟨s1,s2,s3,s4⟩:=k1 rfl
   obtain⟨s5,s6,s7,s8⟩:=k2 rfl
   have m1:=ja s1 s7
   have m2:=ja s5 s3
   have m3:=ja s3 s7
   have m4:=pZ s2 s6
   rw[jl,bL,jl,cz (x:=n1*d2) (by omega) (by omega),cz (x:=n2*d1) (by omega) (by omega),cz (x:=d1*d2) (by omega) (by omega),cz (by omega) (by omega),qW m4 (by omega) (by omega) (by omega),bL,←s4,←s8,Rat.divInt_sub_divInt _ _ (by omega) (by omega)]
theorem kx.mul(ha:kx L a x)(hb:kx M b y)(h:L+M≤4000000000):iK a b=some (qn (x*y))∧kx (L+M) (qn (x*y)) (x*y):=by
 have l1:=ha.l1
 refine⟨?_,(ha.fq.mul hb.fq).rep (by omega)⟩
 obtain⟨n1,d1,c1,e1,k1⟩:=lY ha (by omega)
 obtain⟨n2,d2,c2,e2,k2⟩:=lY hb (by omega)
 obtain⟨p1,q1,f1,w1,w2,g1,v1,t1,t2⟩:=parts_eq ha (by omega)
 obtain⟨p2,q2,f2,w3,w4,g2,v2,t3,t4⟩:=parts_eq hb (by omega)
 have CO:fW a b=some (qn (x*y)):=by
  unfold fW dZ
  have u1:=ku (t1.mul t3) (by omega)
  have u3:=ku (t2.mul t4) (by omega)
  simp only[zeta',uM,uN,f1,f2,bL,mul_eq w1 w3,mul_eq w2 w4]
  rw[reduce_eq u1 u3 (by rw[fL];have:=pZ g1 g2;omega),bL,fL,fL,←v1,←v2,Rat.divInt_mul_divInt]
 unfold iK
 simp only[zeta',uM,uN,e1,e2,bL,cm,CO]
 cases c1
 ·rw[jN,bL,jN]
 ·cases c2
  ·rw[jl,bL,jN]
  ·obtain⟨s1,s2,s3,s4⟩:=k1 rfl
   obtain⟨s5,s6,s7,s8⟩:=k2 rfl
   have m1:=ja s1 s5
   have m3:=ja s3 s7
   have m4:=pZ s2 s6
   rw[jl,bL,jl,cz (by omega) (by omega),cz (x:=d1*d2) (by omega) (by omega),qW m4 (by omega) (by omega) (by omega),bL,←s4,←s8,Rat.divInt_mul_divInt]
theorem kx.sign(ha:kx L a x)(h:L≤10000000000):ef a=some (lX x 0):=by
 unfold ef
 have wn:=ha.wn h
 have wd:=ha.wd h
 have hv:=ha.v
 simp only[zeta',bL,sign_eq wn,sign_eq wd]
 unfold qv qd at hv
 rcases Int.lt_trichotomy (zi a.den) 0 with h1|h1|h1
 ·rw[Int.sign_eq_neg_one_of_neg h1]
  rw[if_neg (by omega),←Rat.neg_divInt_neg]at hv
  rw[←hv,←uL (by omega),Int.sign_neg]
  show some (IntKind.i64.wrap (0-(zi a.num).sign))=_
  have:(zi a.num).sign=-1∨(zi a.num).sign=0∨(zi a.num).sign=1:=by
   rcases Int.lt_trichotomy (zi a.num) 0 with e|e|e
   ·left;exact Int.sign_eq_neg_one_of_neg e
   ·right;left;rw[e];rfl
   ·right;right;exact Int.sign_eq_one_of_pos e
  rw[cz (by omega) (by omega),Int.zero_sub]
 ·rw[if_pos h1]at hv
  rw[←hv,←uL (by omega),h1];rfl
 ·rw[if_neg (by omega)]at hv
  rw[Int.sign_eq_one_of_pos h1,←hv,←uL h1];rfl
theorem jY{x:Rat}:lX x 0=0↔x=0:=by
 unfold lX
 by_cases h:x<0
 ·rw[if_pos h]
  refine⟨fun e=>absurd e (by decide),fun e=>?_⟩
  rw[e]at h;exact absurd h Rat.lt_irrefl
 ·rw[if_neg h]
  by_cases h2:x=0
  ·rw[if_pos h2];simp[h2]
  ·rw[if_neg h2];simp[h2]
theorem kx.div(ha:kx L a x)(hb:kx M b y)(h:L+M≤4000000000)(h0:y≠0):oE a b=some (qn (x/y),0)∧kx (L+M) (qn (x/y)) (x/y):=by
 have l1:=ha.l1
 refine⟨?_,(ha.fq.div hb.fq h0).rep (by omega)⟩
 obtain⟨n1,d1,c1,e1,k1⟩:=lY ha (by omega)
 obtain⟨n2,d2,c2,e2,k2⟩:=lY hb (by omega)
 obtain⟨p1,q1,f1,w1,w2,g1,v1,t1,t2⟩:=parts_eq ha (by omega)
 obtain⟨p2,q2,f2,w3,w4,g2,v2,t3,t4⟩:=parts_eq hb (by omega)
 have hdiv:∀a b c d:Int,Rat.divInt a b/Rat.divInt c d=Rat.divInt (a*d) (b*c):=fun a b c d=>by rw[Rat.div_def,Rat.inv_divInt,Rat.divInt_mul_divInt]
 have hnz:∀a b:Int,Rat.divInt a b=y→a≠0:=fun a b e e'=>h0 (by rw[←e,e',Rat.zero_divInt])
 have CO:jI a b=some (qn (x/y)):=by
  unfold jI g9
  have u1:=ku (t1.mul t4) (by omega)
  have u3:=ku (t2.mul t3) (by omega)
  simp only[zeta',uM,uN,f1,f2,bL,mul_eq w1 w4,mul_eq w2 w3]
  rw[reduce_eq u1 u3 (by rw[fL];exact Int.mul_ne_zero (by omega) (hnz _ _ v2)),bL,fL,fL,←v1,←v2,hdiv]
 unfold oE
 simp only[zeta',uM,uN,hb.sign (by omega),e1,e2,bL,cm,CO]
 rw[decide_eq_false (fun e=>h0 (jY.1 e)),jN]
 cases c1
 ·rw[jN,bL,jN]
 ·cases c2
  ·rw[jl,bL,jN]
  ·obtain⟨s1,s2,s3,s4⟩:=k1 rfl
   obtain⟨s5,s6,s7,s8⟩:=k2 rfl
   have hn2:=hnz _ _ s8
   have m1:=ja s1 s7
   have m3:=ja s3 s5
   rw[jl,bL,jl]
   unfold Sm at s1 s3 s5 s7
   by_cases hneg:n2<0
   ·have m4:=pZ s2 (show 0< -n2 by omega)
    have m5:(-n1)*d2=-(n1*d2):=Int.neg_mul _ _
    have m6:d1*(-n2)=-(d1*n2):=Int.mul_neg _ _
    rw[decide_eq_true hneg,jl,cz (x:=0-n1) (by omega) (by omega),cz (x:=0-n2) (by omega) (by omega),Int.zero_sub,Int.zero_sub,cz (by omega) (by omega),cz (by omega) (by omega),qW m4 (by omega) (by omega) (by omega),bL,m5,m6,Rat.neg_divInt_neg,←s4,←s8,hdiv]
   ·have m4:=pZ s2 (show 0<n2 by omega)
    rw[decide_eq_false hneg,jN,cz (by omega) (by omega),cz (by omega) (by omega),qW m4 (by omega) (by omega) (by omega),bL,←s4,←s8,hdiv]
theorem kx.canon(ha:kx L a x)(h:L≤10000000000):bZ a=some (qn x)∧kx L (qn x) x:=by
 refine⟨?_,ha.fq.rep ha.l1⟩
 obtain⟨n1,d1,c1,e1,k1⟩:=lY ha (by omega)
 obtain⟨p1,q1,f1,w1,w2,g1,v1,t1,t2⟩:=parts_eq ha (by omega)
 unfold bZ
 simp only[zeta',uM,uN,e1,bL,f1]
 cases c1
 ·rw[jN,reduce_eq w1 w2 (by omega),bL,v1]
 ·obtain⟨s1,s2,s3,s4⟩:=k1 rfl
  unfold Sm at s1 s3
  rw[jl,qW s2 (by omega) (by omega) (by omega),bL,s4]
end ops
end Go.Proofs.YtningmnklfpfjaaGreat
namespace Go.Proofs.YtningmnklfpfjaaGreat
open Go.Fw
theorem Es{p q u v:Int}(hq:0<q)(hv:0<v)(h:p.sign≠u.sign∨p.sign=0):pO (IntKind.i64.wrap (p.sign-u.sign))=some (qS (p*v) (u*q)):=by
 have pv:0<p→0<p*v:=fun h=>Int.mul_pos h hv
 have pv':p<0→p*v<0:=fun h=>Int.mul_neg_of_neg_of_pos h hv
 have uq:0<u→0<u*q:=fun h=>Int.mul_pos h hq
 have uq':u<0→u*q<0:=fun h=>Int.mul_neg_of_neg_of_pos h hq
 rcases Int.lt_trichotomy p 0 with e1|e1|e1<;>rcases Int.lt_trichotomy u 0 with e2|e2|e2
 ·rw[Int.sign_eq_neg_one_of_neg e1,Int.sign_eq_neg_one_of_neg e2]at h;simp at h
 ·have:=pv' e1
  rw[Int.sign_eq_neg_one_of_neg e1,e2,Int.zero_mul,mX this];rfl
 ·have:=pv' e1
  have:=uq e2
  rw[Int.sign_eq_neg_one_of_neg e1,Int.sign_eq_one_of_pos e2,mX (by omega)];rfl
 ·have:=uq' e2
  rw[Int.sign_eq_neg_one_of_neg e2,e1,Int.zero_mul,mY this];rfl
 ·rw[e1,e2,Int.zero_mul,Int.zero_mul];rfl
 ·have:=uq e2
  rw[Int.sign_eq_one_of_pos e2,e1,Int.zero_mul,mX this];rfl
 ·have:=pv e1
  have:=uq' e2
  rw[Int.sign_eq_one_of_pos e1,Int.sign_eq_neg_one_of_neg e2,mY (by omega)];rfl
 ·have:=pv e1
  rw[Int.sign_eq_one_of_pos e1,e2,Int.zero_mul,mY this];rfl
 ·rw[Int.sign_eq_one_of_pos e1,Int.sign_eq_one_of_pos e2]at h;simp at h
theorem PD{x y:Rat}:lX x y=0↔x=y:=by
 unfold lX
 by_cases h:x<y
 ·rw[if_pos h]
  refine⟨fun e=>absurd e (by decide),fun e=>?_⟩
  rw[e]at h;exact absurd h Rat.lt_irrefl
 ·rw[if_neg h]
  by_cases h2:x=y
  ·rw[if_pos h2];simp[h2]
  ·rw[if_neg h2];simp[h2]
theorem ye{x y:Rat}:lX x y<0↔x<y:=by
 unfold lX
 by_cases h:x<y
 ·rw[if_pos h];simp[h]
 ·rw[if_neg h]
  by_cases h2:x=y
  ·rw[if_pos h2];simp[h2,Rat.lt_irrefl]
  ·rw[if_neg h2];simp[h]
theorem PE{x y:Rat}:0<lX x y↔y<x:=by
 unfold lX
 by_cases h:x<y
 ·rw[if_pos h]
  have:¬y<x:=by grind
  simp[this]
 ·rw[if_neg h]
  by_cases h2:x=y
  ·rw[if_pos h2];simp[h2,Rat.lt_irrefl]
  ·rw[if_neg h2]
   have:y<x:=by grind
   simp[this]
theorem XO(i:Int):qn (i:Rat)=⟨zn i,⟨false,[]⟩⟩:=by
 unfold qn
 rw[Rat.den_intCast,if_pos rfl,Rat.num_intCast]
section ops
variable {L M:Nat}{a b:Qr}{x y:Rat}
theorem kx.neg(ha:kx L a x)(h:L≤10000000000):oF a=some (qn (-x))∧kx L (qn (-x)) (-x):=by
 refine⟨?_,ha.fq.neg.rep ha.l1⟩
 unfold oF
 have r:=(ha.canon h).2
 simp only[zeta',uM,uN,(ha.canon h).1,bL,neg_eq (r.wn h)]
 show some (⟨zn (-zi (zn x.num)),_⟩:Qr)=some (qn (-x))
 rw[fL];rfl
theorem kx.cmp(ha:kx L a x)(hb:kx M b y)(h:L+M≤4000000000):mI a b=some (lX x y):=by
 obtain⟨p1,q1,f1,w1,w2,g1,v1,t1,t2⟩:=parts_eq ha (by omega)
 obtain⟨p2,q2,f2,w3,w4,g2,v2,t3,t4⟩:=parts_eq hb (by omega)
 unfold mI
 have u1:=ku (t1.mul t4) (by omega)
 have u2:=ku (t3.mul t2) (by omega)
 simp only[zeta',uM,uN,f1,f2,bL,cm,sign_eq w1,sign_eq w3,mul_eq w1 w4,mul_eq w3 w2,XK u1 u2,fL]
 rw[←v1,←v2,Ic g1 g2]
 by_cases e1:(zi p1).sign=(zi p2).sign
 ·rw[show decide ((zi p1).sign≠(zi p2).sign)=false by simp[e1],jN,bL]
  by_cases e2:(zi p1).sign=0
  ·rw[decide_eq_true e2,jl,Es g1 g2 (.inr e2),bL]
  ·rw[decide_eq_false e2,jN]
 ·rw[show decide ((zi p1).sign≠(zi p2).sign)=true by simp[e1],jl,bL,jl,Es g1 g2 (.inl e1),bL]
theorem lZ{n:Int}(hn:fj n):cx n=some (qn (n:Rat))∧kx 2 (qn (n:Rat)) (n:Rat):=by
 refine⟨?_,(FQ.int (LK hn) (by decide)).rep (by decide)⟩
 unfold cx
 simp only[zeta',bL,mM hn.1 hn.2]
 rw[XO]
end ops
end Go.Proofs.YtningmnklfpfjaaGreat
namespace Go.Proofs.YtningmnklfpfjaaGreat
open Go.Fw
def vq(n:Nat)(h:Nat→Rat):List Qr:=(List.range n).map fun i=>qn (h i)
structure cY (L:Nat) (v:List Qr) (f:Nat→Rat):Prop where
 e:∀i (h:i<v.length),kx L v[i] (f i)
 z:∀i,v.length≤i→f i=0
 l1:1≤L
theorem bN(n:Nat)(h:Nat→Rat):(vq n h).length=n:=by simp[vq]
theorem mN{n i:Nat}{h:Nat→Rat}(hi:i<n):(vq n h)[i]? =some (qn (h i)):=by simp[vq,hi]
theorem R9{n i:Nat}{h:Nat→Rat}(hi:i<(vq n h).length):(vq n h)[i]=qn (h i):=by simp[vq]
theorem AN(n:Nat)(h:Nat→Rat):vq (n+1) h=vq n h++[qn (h n)]:=by simp[vq,List.range_succ]
theorem ir{n:Nat}{h k:Nat→Rat}(e:∀i,i<n→h i=k i):vq n h=vq n k:=by
 unfold vq
 apply List.map_congr_left
 intro i hi
 rw[e i (List.mem_range.1 hi)]
theorem nO{L n:Nat}{h:Nat→Rat}(hf:∀i,i<n→FQ L (h i))(hz:∀i,n≤i→h i=0)(h1:1≤L):cY L (vq n h) h:=by
 refine⟨fun i hi=>?_,fun i hi=>hz i (by rwa[bN]at hi),h1⟩
 rw[R9 hi]
 exact(hf i (by rwa[bN]at hi)).rep h1
def qz:Qr:=⟨⟨false,[]⟩,⟨false,[]⟩⟩
theorem Sa:qn 0=qz:=rfl
theorem Ig{L:Nat}(h:1≤L):kx L qz 0:=⟨by simp[qz],by simp[qz],by simp[qz],by simp[qz],h,by decide⟩
theorem vh{L:Nat}(h:1≤L):FQ L 0:=(Ig h).fq
def Yx(v:List Qr)(i:Nat):Qr:=v.getD i qz
theorem cY.at{L:Nat}{v:List Qr}{f:Nat→Rat}(h:cY L v f)(i:Nat):kx L (Yx v i) (f i):=by
 unfold Yx
 by_cases hi:i<v.length
 ·rw[List.getD_eq_getElem?_getD,List.getElem?_eq_getElem hi];exact h.e i hi
 ·rw[List.getD_eq_getElem?_getD,List.getElem?_eq_none (by omega),h.z i (by omega)];exact Ig h.l1
theorem cY.fq{L:Nat}{v:List Qr}{f:Nat→Rat}(h:cY L v f)(i:Nat):FQ L (f i):=(h.at i).fq
theorem cY.mono{L M:Nat}{v:List Qr}{f:Nat→Rat}(h:cY L v f)(hl:L≤M):cY M v f:=⟨fun i hi=>(h.e i hi).mono hl,h.z,Nat.le_trans h.l1 hl⟩
theorem cY.nil{L:Nat}(h:1≤L):cY L [] (fun _=>0):=⟨fun i hi=>by simp at hi,fun _ _=>rfl,h⟩
theorem cY.get{L:Nat}{v:List Qr}{f:Nat→Rat}(h:cY L v f){i:Nat}(hi:i<v.length):∃q,v[i]? =some q∧kx L q (f i):=⟨v[i],by simp,h.e i hi⟩
theorem cY.congr{L:Nat}{v:List Qr}{f g:Nat→Rat}(h:cY L v f)(e:∀i,f i=g i):cY L v g:=by
 have:f=g:=funext e
 rw[←this];exact h
def DI(v:List Qr)(i:Nat):Rat:=qv (Yx v i)
theorem Kw{L:Nat}{v:List Qr}(h:∀q∈v,kx L q (qv q))(h1:1≤L):cY L v (DI v):=by
 refine⟨fun i hi=>?_,fun i hi=>?_,h1⟩
 ·have e:Yx v i=v[i]:=by unfold Yx;rw[List.getD_eq_getElem?_getD,List.getElem?_eq_getElem hi];rfl
  unfold DI
  rw[e];exact h _ (List.getElem_mem hi)
 ·unfold DI Yx
  rw[List.getD_eq_getElem?_getD,List.getElem?_eq_none hi];decide
def bn(h:Nat→Rat):Nat→Rat
 |0=>0
 |n+1=>bn h n+h n
theorem bX{h k:Nat→Rat}:∀{n:Nat},(∀i,i<n→h i=k i)→bn h n=bn k n
 |0,_=>rfl
 |n+1,e=>by rw[bn,bn,bX (fun i hi=>e i (by omega)),e n (by omega)]
theorem Ih(h k:Nat→Rat):∀n,bn (fun i=>h i+k i) n=bn h n+bn k n
 |0=>by simp only[bn];grind
 |n+1=>by rw[bn,bn,bn,Ih h k n];grind
theorem CP(h k:Nat→Rat):∀n,bn (fun i=>h i-k i) n=bn h n-bn k n
 |0=>by simp only[bn];grind
 |n+1=>by rw[bn,bn,bn,CP h k n];grind
theorem o5(c:Rat)(h:Nat→Rat):∀n,bn (fun i=>c*h i) n=c*bn h n
 |0=>by simp[bn]
 |n+1=>by rw[bn,bn,o5 c h n];grind
theorem kU:∀n,bn (fun _=>0) n=0
 |0=>rfl
 |n+1=>by rw[bn,kU n];grind
theorem PF{h:Nat→Rat}{n m:Nat}(hnm:n≤m)(hz:∀i,n≤i→i<m→h i=0):bn h m=bn h n:=by
 induction m with
 |zero=>rw[show n=0 by omega]
 |succ m ih=>
  rcases Nat.lt_or_ge m n with q|q
  ·rw[show n=m+1 by omega]
  ·rw[bn,ih q (fun i h1 h2=>hz i h1 (by omega)),hz m q (by omega)];grind
theorem Kx{L:Nat}{h:Nat→Rat}:∀{n:Nat},(∀i,i<n→FQ L (h i))→FQ (n*(L+1)+1) (bn h n)
 |0,_=>vh (by omega)
 |n+1,e=>by
  rw[bn]
  exact((Kx (fun i hi=>e i (by omega))).add (e n (by omega))).mono (by rw[Nat.add_mul];omega)
theorem nE{h:Nat→Rat}{n k:Nat}(hk:k<n)(hz:∀i,i<n→i≠k→h i=0):bn h n=h k:=by
 induction n with
 |zero=>omega
 |succ n ih=>
  rw[bn]
  rcases Nat.lt_or_ge k n with q|q
  ·rw[ih q (fun i h1 h2=>hz i (by omega) h2),hz n (by omega) (by omega)];grind
  ·obtain rfl:k=n:=by omega
   rw[bX (k:=fun _=>0) (fun i hi=>hz i (by omega) (by omega)),kU];grind
theorem zN{h:Nat→Rat}:∀{n:Nat},(∀i,i<n→0≤h i)→0≤bn h n
 |0,_=>Rat.le_refl
 |n+1,e=>by
  rw[bn]
  have h1:=zN (fun i (hi:i<n)=>e i (by omega))
  have h2:=e n (by omega)
  grind
end Go.Proofs.YtningmnklfpfjaaGreat
namespace Go.Proofs.YtningmnklfpfjaaGreat
open Go.Fw
theorem Ky{α β:Type}(a:List α)(b:List β):max (a.length:Int) (b.length:Int)=((max a.length b.length:Nat):Int):=by omega
theorem Kz{α β:Type}(a:List α)(b:List β):min (a.length:Int) (b.length:Int)=((min a.length b.length:Nat):Int):=by omega
theorem cY.gd{L:Nat}{v:List Qr}{f:Nat→Rat}(h:cY L v f)(k:Nat):kx L (v.getD k (⟨⟨false,[]⟩,⟨false,[]⟩⟩:Qr)) (f k):=h.at k
theorem Ge{n k:Nat}{h:Nat→Rat}(hk:k<n):(vq k h++List.replicate (n-k) qz).set k (qn (h k))=vq (k+1) h++List.replicate (n-(k+1)) qz:=by
 rw[show n-k=(n-(k+1))+1 by omega,List.replicate_succ,List.set_append_right _ _ (by rw[bN];exact Nat.le_refl _),bN,Nat.sub_self,AN,List.append_assoc];rfl
theorem XP{n c:Nat}{h:Nat→Rat}(hc:c≤n)(hz:∀i,c≤i→i<n→h i=0):vq c h++List.replicate (n-c) qz=vq n h:=by
 induction n with
 |zero=>rw[show c=0 by omega];rfl
 |succ n ih=>
  rcases Nat.lt_or_ge n c with q|q
  ·rw[show c=n+1 by omega,Nat.sub_self];simp
  ·rw[show n+1-c=(n-c)+1 by omega,List.replicate_succ',←List.append_assoc,ih q (fun i h1 h2=>hz i h1 (by omega)),AN,hz n q (by omega),Sa]
theorem sI{n k:Nat}{h:Nat→Rat}(hk:k≤n):(vq k h++List.replicate (n-k) qz).length=n:=by rw[List.length_append,bN,List.length_replicate];omega
section ops
variable {K L M:Nat}{c:Qr}{a b:List Qr}{k:Rat}{f g:Nat→Rat}
theorem agT(ha:cY L a f)(hb:cY M b g)(h:L+M≤4000000000)(la:a.length≤1000000)(lb:b.length≤1000000):mJ a b=some (vq (max a.length b.length) fun i=>f i-g i)∧cY (L+M+1) (vq (max a.length b.length) fun i=>f i-g i) (fun i=>f i-g i):=by
 refine⟨?_,nO (fun i _=>(ha.fq i).sub (hb.fq i)) (fun i hi=>?_) (by omega)⟩
 ·unfold mJ iV
  refine bind_eq (a:=vq (max a.length b.length) (fun i=>f i-g i)) ?_ rfl
  refine bind_eq rfl<|bind_eq rfl<|bind_eq (congrArg some (Ky a b))<|bind_eq (CI (by omega) (by omega)) ?_
  refine oV (fun k=>vq k (fun i=>f i-g i)) rfl (fun k hk=>?_) rfl
  have e3:=((ha.gd k).sub (hb.gd k) h).1
  generalize a.getD k (⟨⟨false,[]⟩,⟨false,[]⟩⟩:Qr)=q1 at e3⊢
  generalize b.getD k (⟨⟨false,[]⟩,⟨false,[]⟩⟩:Qr)=q2 at e3⊢
  obtain⟨⟨_,_⟩,⟨_,_⟩⟩:=q1
  obtain⟨⟨_,_⟩,⟨_,_⟩⟩:=q2
  obtain⟨q3,h3⟩:∃q,qn (f k-g k)=q:=⟨_,rfl⟩
  rw[AN,h3]
  rw[h3]at e3
  obtain⟨⟨_,_⟩,⟨_,_⟩⟩:=q3
  refine bind_eq rfl<|bind_eq rfl<|bind_eq e3<|bind_eq (DF (by omega) (by rw[bN];omega)) rfl
 ·rw[ha.z i (by omega),hb.z i (by omega)];grind
theorem Ua(hc:kx K c k)(ha:cY L a f)(hb:cY M b g)(h:K+L+M≤4000000000)(la:a.length≤1000000)(lb:b.length≤1000000):ei c a b=some (vq (max a.length b.length) fun i=>k*f i+g i)∧cY (K+L+M+1) (vq (max a.length b.length) fun i=>k*f i+g i) (fun i=>k*f i+g i):=by
 refine⟨?_,nO (fun i _=>(hc.fq.mul (ha.fq i)).add (hb.fq i)) (fun i hi=>?_) (by omega)⟩
 ·unfold ei fO
  obtain⟨⟨_,_⟩,⟨_,_⟩⟩:=c
  refine bind_eq (a:=vq (max a.length b.length) (fun i=>k*f i+g i)) ?_ rfl
  refine bind_eq rfl<|bind_eq rfl<|bind_eq (congrArg some (Ky a b))<|bind_eq (CI (by omega) (by omega)) ?_
  refine oV (fun j=>vq j (fun i=>k*f i+g i)) rfl (fun j hj=>?_) rfl
  have e1:=hc.mul (ha.gd j) (by omega)
  have e3:=(e1.2.add (hb.gd j) (by omega)).1
  replace e1:=e1.1
  generalize a.getD j (⟨⟨false,[]⟩,⟨false,[]⟩⟩:Qr)=q1 at e1⊢
  generalize b.getD j (⟨⟨false,[]⟩,⟨false,[]⟩⟩:Qr)=q2 at e3⊢
  obtain⟨⟨_,_⟩,⟨_,_⟩⟩:=q1
  obtain⟨⟨_,_⟩,⟨_,_⟩⟩:=q2
  generalize qn (k*f j)=q4 at e1 e3
  obtain⟨⟨_,_⟩,⟨_,_⟩⟩:=q4
  obtain⟨q3,h3⟩:∃q,qn (k*f j+g j)=q:=⟨_,rfl⟩
  rw[AN,h3]
  rw[h3]at e3
  obtain⟨⟨_,_⟩,⟨_,_⟩⟩:=q3
  refine bind_eq rfl<|bind_eq rfl<|bind_eq (bind_eq e1<|bind_eq e3 rfl)<|bind_eq (DF (by omega) (by rw[bN];omega)) rfl
 ·rw[ha.z i (by omega),hb.z i (by omega)];grind
theorem PG(hc:kx K c k)(ha:cY L a f)(h:K+L≤4000000000)(la:a.length≤1000000):kS c a=some (vq a.length fun i=>k*f i)∧cY (K+L) (vq a.length fun i=>k*f i) (fun i=>k*f i):=by
 have Ur:=ha.l1
 refine⟨?_,nO (fun i _=>hc.fq.mul (ha.fq i)) (fun i hi=>?_) (by omega)⟩
 ·unfold kS
  obtain⟨⟨_,_⟩,⟨_,_⟩⟩:=c
  refine bind_eq rfl<|bind_eq (sD (by omega) (by omega))<|bind_eq rfl ?_
  refine aY (fun j=>((j:Int),vq j (fun i=>k*f i)++List.replicate (a.length-j) qz)) a.length (vq a.length fun i=>k*f i) rfl (fun j hj=>?_) ?_ rfl
  ·obtain⟨q,hq,rq⟩:=ha.get hj
   have e3:=(hc.mul rq h).1
   obtain⟨q3,h3⟩:∃q,qn (k*f j)=q:=⟨_,rfl⟩
   have h4:=Ge (h:=fun i=>k*f i) hj
   rw[h3]at e3 h4
   obtain⟨⟨_,_⟩,⟨_,_⟩⟩:=q
   obtain⟨⟨_,_⟩,⟨_,_⟩⟩:=q3
   refine bind_eq rfl<|bf (decide_eq_true (by omega))<|bind_eq (aQ hq)<|bind_eq e3<|bind_eq (cf (by rw[sI (by omega)];exact hj))<|bind_eq (fE (by rw[sI (by omega)];exact hj))<|bind_eq rfl ?_
   rw[bw (by omega),h4]
  ·refine bind_eq rfl<|aO (decide_eq_false (by omega)) ?_
   simp
 ·rw[ha.z i hi];grind
end ops
end Go.Proofs.YtningmnklfpfjaaGreat
namespace Go.Proofs.YtningmnklfpfjaaGreat
open Go.Fw
def iM(f g:Nat→Rat):Nat→Int
 |0=>0
 |n+1=>if iM f g n≠0 then iM f g n else lX (f n) (g n)
theorem LM{f g:Nat→Rat}{i n:Nat}(h0:iM f g i=0)(hi:i<n)(hc:lX (f i) (g i)≠0):iM f g n=lX (f i) (g i):=by
 induction n with
 |zero=>omega
 |succ n ih=>
  rw[iM]
  rcases Nat.lt_or_ge i n with q|q
  ·rw[ih q,if_pos hc]
  ·obtain rfl:i=n:=by omega
   rw[h0];simp
theorem o6{f g:Nat→Rat}:∀{n:Nat},iM f g n=0↔∀i,i<n→f i=g i
 |0=>by simp[iM]
 |n+1=>by
  rw[iM]
  by_cases h:iM f g n=0
  ·rw[if_neg (by simpa using h),PD]
   have:=o6.1 h
   refine⟨fun e i hi=>?_,fun e=>e n (by omega)⟩
   rcases Nat.lt_or_ge i n with q|q
   ·exact this i q
   ·obtain rfl:i=n:=by omega
    exact e
  ·rw[if_pos h]
   refine⟨fun e=>absurd e h,fun e=>absurd (o6.2 (fun i hi=>e i (by omega))) h⟩
section ops
variable {K L M:Nat}{c:Qr}{a b:List Qr}{k:Rat}{f g:Nat→Rat}
theorem agU{x y z:Rat}{p q r:Qr}(hp:kx K p x)(hq:kx L q y)(hr:kx M r z)(hz:r=qn z)(h:K+L+M≤4000000000):nk p q r=some (qn (z+x*y)):=by
 have e1:=hp.mul hq (by omega)
 have e2:=(hr.add e1.2 (by omega)).1
 have s1:=hp.sign (by omega)
 have s2:=hq.sign (by omega)
 replace e1:=e1.1
 obtain⟨⟨_,_⟩,⟨_,_⟩⟩:=p
 obtain⟨⟨_,_⟩,⟨_,_⟩⟩:=q
 obtain⟨⟨_,_⟩,⟨_,_⟩⟩:=r
 generalize qn (x*y)=w at e1 e2
 obtain⟨⟨_,_⟩,⟨_,_⟩⟩:=w
 unfold nk
 refine bind_eq s1<|bind_eq rfl ?_
 by_cases h1:x=0
 ·refine bind_eq (aO (decide_eq_false (by rw[h1,zj];simp)) rfl) ?_
  rw[show z+x*y=z by rw[h1];grind,←hz];rfl
 ·by_cases h2:y=0
  ·refine bind_eq (bf (decide_eq_true (fun e=>h1 (jY.1 e))) (bind_eq s2 (bind_eq rfl rfl))) ?_
   refine aO (decide_eq_false (by rw[h2,zj];simp)) ?_
   rw[show z+x*y=z by rw[h2];grind,←hz]
  ·refine bind_eq (bf (decide_eq_true (fun e=>h1 (jY.1 e))) (bind_eq s2 (bind_eq rfl rfl))) ?_
   refine bf (decide_eq_true (fun e=>h2 (jY.1 e))) ?_
   obtain⟨w3,h3⟩:∃w,qn (z+x*y)=w:=⟨_,rfl⟩
   rw[h3]at e2⊢
   obtain⟨⟨_,_⟩,⟨_,_⟩⟩:=w3
   exact bind_eq e1<|bind_eq e2 rfl
theorem KA{n i:Nat}(hi:i<n):(a.take n).getD i (⟨⟨false,[]⟩,⟨false,[]⟩⟩:Qr)=a.getD i (⟨⟨false,[]⟩,⟨false,[]⟩⟩:Qr):=by
 simp[List.getD,List.getElem?_take,hi]
theorem vG(q:Qr):(⟨⟨(q.num.neg,q.num.w,q.den.neg,q.den.w).1,(q.num.neg,q.num.w,q.den.neg,q.den.w).2.1⟩,⟨(q.num.neg,q.num.w,q.den.neg,q.den.w).2.2.1,(q.num.neg,q.num.w,q.den.neg,q.den.w).2.2.2⟩⟩:Qr)=q:=by cases q;rfl
theorem abc(ha:cY L a f)(hb:cY M b g)(h:(min a.length b.length+2)*(L+M+1)≤4000000000):jQ a b=some (qn (bn (fun i=>f i*g i) (min a.length b.length)))∧kx (min a.length b.length*(L+M+1)+1) (qn (bn (fun i=>f i*g i) (min a.length b.length))) (bn (fun i=>f i*g i) (min a.length b.length)):=by
 have hs:∀n,FQ (n*(L+M+1)+1) (bn (fun i=>f i*g i) n):=fun n=>Kx (fun i _=>(ha.fq i).mul (hb.fq i))
 refine⟨?_,(hs _).rep (by omega)⟩
 unfold jQ
 have hm:∀n:Nat,n≤min a.length b.length→n*(L+M+1)≤min a.length b.length*(L+M+1):=fun n hn=>Nat.mul_le_mul_right _ hn
 rw[Nat.add_mul]at h
 refine bind_eq rfl<|bind_eq rfl<|bind_eq (congrArg some (Kz a b))<|bind_eq (qM (by omega))<|bind_eq (qM (by omega)) ?_
 rw[show max (a.take (min a.length b.length)).length (b.take (min a.length b.length)).length=min a.length b.length by simp only[List.length_take];omega]
 refine oV (fun j=>((qn (bn (fun i=>f i*g i) j)).num.neg,(qn (bn (fun i=>f i*g i) j)).num.w,(qn (bn (fun i=>f i*g i) j)).den.neg,(qn (bn (fun i=>f i*g i) j)).den.w)) rfl (fun j hj=>?_) rfl
 have hmj:=hm j (by omega)
 have e1:=agU (ha.gd j) (hb.gd j) ((hs j).rep (by omega)) rfl (by omega)
 simp only[bn]
 generalize hq0:qn (bn (fun i=>f i*g i) j)=q0 at e1⊢
 generalize hq3:qn (bn (fun i=>f i*g i) j+f j*g j)=q3 at e1⊢
 rw[←KA (a:=a) hj,←KA (a:=b) hj]at e1
 generalize (a.take (min a.length b.length)).getD j (⟨⟨false,[]⟩,⟨false,[]⟩⟩:Qr)=q1 at e1⊢
 generalize (b.take (min a.length b.length)).getD j (⟨⟨false,[]⟩,⟨false,[]⟩⟩:Qr)=q2 at e1⊢
 obtain⟨⟨_,_⟩,⟨_,_⟩⟩:=q0
 obtain⟨⟨_,_⟩,⟨_,_⟩⟩:=q1
 obtain⟨⟨_,_⟩,⟨_,_⟩⟩:=q2
 obtain⟨⟨_,_⟩,⟨_,_⟩⟩:=q3
 exact bind_eq rfl<|bind_eq rfl<|bind_eq e1 rfl
theorem Sb(ha:cY L a f)(hb:cY M b g)(h:L+M≤4000000000):fI a b=some (iM f g (max a.length b.length)):=by
 unfold fI
 generalize max a.length b.length=n
 refine bind_eq (a:=if iM f g n≠0 then .inr (iM f g n)else .inl ()) ?_ ?_
 ·induction n with
  |zero=>rfl
  |succ n ih=>
   rw[mB]
   refine bind_eq ih ?_
   by_cases h0:iM f g n=0
   ·have hl:iM f g (n+1)=lX (f n) (g n):=by rw[iM,if_neg (by simpa using h0)]
    rw[hl,if_neg (show ¬iM f g n≠0 by simpa using h0)]
    have e1:=(ha.gd n).cmp (hb.gd n) h
    generalize a.getD n (⟨⟨false,[]⟩,⟨false,[]⟩⟩:Qr)=q1 at e1⊢
    generalize b.getD n (⟨⟨false,[]⟩,⟨false,[]⟩⟩:Qr)=q2 at e1⊢
    obtain⟨⟨_,_⟩,⟨_,_⟩⟩:=q1
    obtain⟨⟨_,_⟩,⟨_,_⟩⟩:=q2
    refine bind_eq rfl<|bind_eq rfl<|bind_eq e1<|bind_eq rfl ?_
    by_cases h1:lX (f n) (g n)=0
    ·rw[if_neg (by simpa using h1)];exact aO (decide_eq_false (by simpa using h1)) rfl
    ·rw[if_pos h1];exact bf (decide_eq_true h1) rfl
   ·have hl:iM f g (n+1)=iM f g n:=by rw[iM,if_pos h0]
    rw[hl,if_pos h0]
 ·by_cases h0:iM f g n=0
  ·rw[if_neg (by simpa using h0),h0]
  ·rw[if_pos h0]
theorem abd(ha:cY L a f)(h:L+1≤4000000000):oG a=some (iM f (fun _=>0) a.length):=by
 unfold oG
 refine bind_eq (Sb ha (cY.nil (L:=1) (by omega)) h) ?_
 simp
theorem veq(ha:cY L a f)(hb:cY M b g)(h:L+M≤4000000000):cL a b=some (decide (∀i,i<max a.length b.length→f i=g i)):=by
 unfold cL
 refine bind_eq (Sb ha hb h)<|bind_eq rfl ?_
 congr 1
 rw[decide_eq_decide];exact o6
theorem agV(ha:cY L a f)(hb:cY M b g)(h:L+M≤4000000000)(e:∀i,f i=g i):cL a b=some true:=by
 rw[veq ha hb h,decide_eq_true (fun i _=>e i)]
end ops
end Go.Proofs.YtningmnklfpfjaaGreat
namespace Go.Proofs.YtningmnklfpfjaaGreat
open Go.Fw
theorem tm{a:Nat}:Int.tmod (a:Int) 65536=((a%65536:Nat):Int):=by
 rw[Int.tmod_eq_emod_of_nonneg (by omega)];omega
end Go.Proofs.YtningmnklfpfjaaGreat
namespace Go.Proofs.YtningmnklfpfjaaGreat
open Go.Fw
theorem bB{J R:Type}{f:J→Option R}{g:(J→Option R)→Option R}{r:Option R}(h:g f=r):cm f g=r:=h
section ops
variable {K L M:Nat}{c:Qr}{a b:List Qr}{k:Rat}{f g:Nat→Rat}
theorem Ii(ha:cY L a f)(h:L≤10000000000)(m:Nat)(hm:m≤65536){body:Int×List Qr→Option ((Int×List Qr)⊕List Qr)}
  (hb:∀s,body s=(some (decide (s.1<((min a.length m:Nat):Int)))).bind fun eD=>(bif eD then(cC a s.1).bind fun q=>(bZ q).bind fun w=>(pG s.2 s.1).bind fun kj=>(stM s.2 kj w).bind fun tJ=>(some (IntKind.i64.wrap (s.1+1))).bind fun nX=>some (.inl (nX,tJ))else some (.inr s.2))):
  (bT body (0,List.replicate m qz)).bind (fun r=>some r)=some (vq m f):=by
 refine aY (fun j=>((j:Int),vq j f++List.replicate (m-j) qz)) (min a.length m) (vq m f) rfl (fun j hj=>?_) ?_ rfl
 ·obtain⟨q,hq,rq⟩:=ha.get (show j<a.length by omega)
  rw[hb]
  refine bind_eq rfl<|bf (decide_eq_true (by show(j:Int)<_;omega))<|bind_eq (aQ hq)<|bind_eq (rq.canon h).1<|bind_eq (cf (by rw[sI (by omega)];omega))<|bind_eq (fE (by rw[sI (by omega)];omega))<|bind_eq rfl ?_
  rw[Ge (by omega),bw (by omega)]
 ·rw[hb]
  refine bind_eq rfl<|aO (decide_eq_false (by show ¬((min a.length m:Nat):Int)<_;omega)) ?_
  rw[XP (by omega) (fun i h1 h2=>ha.z i (by omega))]
theorem Sc(ha:cY L a f)(h:L≤10000000000)(la:a.length≤1000000)(n:Int):lB a n=some (vq (min n 65536).toNat f):=by
 unfold lB
 refine bind_eq rfl ?_
 by_cases hn:n<1
 ·refine bf (decide_eq_true hn) ?_
  rw[show(min n 65536).toNat=0 by omega];rfl
 ·refine aO (decide_eq_false hn) ?_
  obtain⟨m,hm⟩:∃m:Nat,min n 65536=(m:Int):=⟨(min n 65536).toNat,by omega⟩
  rw[hm]
  refine bind_eq rfl<|bind_eq (sD (by omega) (by omega))<|bind_eq rfl<|bind_eq rfl<|bind_eq (congrArg some (Kz a _)) ?_
  rw[List.length_replicate]
  refine Ii ha h m (by omega) (fun s=>?_)
  obtain⟨i,l⟩:=s
  rfl
theorem yf{l:List Int}(hl:∀x∈l,fj x)(h:l.length≤1000000):cy l=some (vq l.length fun i=>((l.getD i 0:Int):Rat))∧cY 2 (vq l.length fun i=>((l.getD i 0:Int):Rat)) (fun i=>((l.getD i 0:Int):Rat)):=by
 have hx:∀i,fj (l.getD i 0):=fun i=>by
  by_cases hi:i<l.length
  ·rw[List.getD_eq_getElem?_getD,List.getElem?_eq_getElem hi];exact hl _ (List.getElem_mem hi)
  ·rw[List.getD_eq_getElem?_getD,List.getElem?_eq_none (by omega)];decide
 refine⟨?_,nO (fun i _=>(lZ (hx i)).2.fq) (fun i hi=>?_) (by decide)⟩
 ·unfold cy
  refine bind_eq rfl<|bind_eq (sD (by omega) (by omega))<|bind_eq rfl ?_
  refine aY (fun j=>((j:Int),vq j (fun i=>((l.getD i 0:Int):Rat))++List.replicate (l.length-j) qz)) l.length (vq l.length fun i=>((l.getD i 0:Int):Rat)) rfl (fun j hj=>?_) ?_ rfl
  ·have e3:=(lZ (hx j)).1
   have h4:=Ge (h:=fun i=>((l.getD i 0:Int):Rat)) hj
   obtain⟨q3,h3⟩:∃q,qn ((l.getD j 0:Int):Rat)=q:=⟨_,rfl⟩
   rw[h3]at e3 h4
   obtain⟨⟨_,_⟩,⟨_,_⟩⟩:=q3
   refine bind_eq rfl<|bf (decide_eq_true (by omega))<|bind_eq (aQ (dW hj))<|bind_eq e3<|bind_eq (cf (by rw[sI (by omega)];exact hj))<|bind_eq (fE (by rw[sI (by omega)];exact hj))<|bind_eq rfl ?_
   rw[bw (by omega),h4]
  ·refine bind_eq rfl<|aO (decide_eq_false (by omega)) ?_
   simp
 ·show((l.getD i 0:Int):Rat)=0
  rw[iy hi];rfl
end ops
end Go.Proofs.YtningmnklfpfjaaGreat
namespace Go.Proofs.YtningmnklfpfjaaGreat
open Go.Fw
theorem PI(l:List Qr)(hl:l.length≤1000000):∃b,lN l=some b∧(b=false→∀q∈l,q.num.w.length≤6∧q.den.w.length≤6):=by
 unfold lN
 simp only[bL]
 refine n9 (fun y=>∃i:Nat,y=(i:Int)∧i≤l.length∧∀z∈l.take i,z.num.w.length≤6∧z.den.w.length≤6) (fun e=>(∃c,e=.inl c∧∀z∈l,z.num.w.length≤6∧z.den.w.length≤6)∨e=.inr true) (fun y=>l.length-y.toNat) ?_ ⟨0,rfl,by omega,by simp⟩ ?_
 ·rintro _ ⟨i,rfl,hi,ht⟩
  by_cases hlt:i<l.length
  ·have g:l[i]? =some l[i]:=by simp
   obtain⟨q,hq⟩:∃q,l[i]=q:=⟨_,rfl⟩
   rw[hq]at g
   obtain⟨z,w⟩:=q
   obtain⟨b,hb,-⟩:=R6 [z,w] (by simp)
   rw[show decide ((i:Int)<(l.length:Int))=true by simp[hlt],jl]
   simp only[aQ g,bL,zeta',cm,hb]
   cases b
   ·rw[jN,bL]
    by_cases h1:6<z.w.length
    ·right
     rw[decide_eq_true (by omega),jl,bL,jl]
     exact⟨_,rfl,.inr rfl⟩
    ·rw[decide_eq_false (by omega),jN,bL]
     by_cases h2:6<w.w.length
     ·right
      rw[decide_eq_true (by omega),jl]
      exact⟨_,rfl,.inr rfl⟩
     ·left
      rw[decide_eq_false (by omega),jN,bw (by omega)]
      refine⟨_,rfl,⟨i+1,rfl,hlt,?_⟩,by omega⟩
      rw[List.take_add_one,g]
      intro u hu
      rcases List.mem_append.1 hu with h|h
      ·exact ht u h
      ·simp at h;rw[h];exact⟨by simp only[];omega,by simp only[];omega⟩
   ·right
    exact⟨_,rfl,.inr rfl⟩
  ·right
   rw[show decide ((i:Int)<(l.length:Int))=false by simp;omega,jN]
   rw[List.take_of_length_le (by omega)]at ht
   exact⟨_,rfl,.inl ⟨_,rfl,ht⟩⟩
 ·rintro e (⟨c,rfl,he⟩|rfl)
  ·exact⟨false,rfl,fun _=>he⟩
  ·exact⟨true,rfl,fun h=>by cases h⟩
abbrev OkQ(q:Qr):Prop:=OkZ q.num∧OkZ q.den
theorem PJ{q:Qr}{L:Nat}(h:OkQ q)(h1:q.num.w.length≤L)(h2:q.den.w.length≤L)(hL:1≤L):kx L q (qv q):=⟨h.1.2.2,h.2.2.2,h1,h2,hL,rfl⟩
end Go.Proofs.YtningmnklfpfjaaGreat
namespace Go.Proofs.YtningmnklfpfjaaGreat
open Go.Fw
theorem agW(x y:Rat):x<y∨x=y∨y<x:=by grind
end Go.Proofs.YtningmnklfpfjaaGreat
namespace Go.Proofs.YtningmnklfpfjaaGreat
open Go.Fw
theorem dT{p:Prop}[Decidable p](h:p):(some (decide p):Option Bool)=some true:=congrArg some (decide_eq_true h)
theorem dF{p:Prop}[Decidable p](h:¬p):(some (decide p):Option Bool)=some false:=congrArg some (decide_eq_false h)
theorem Jq{β:Type}{x:Option Bool}{f:Bool→Option β}{r:Option β}{y:Option Bool}(h:x=some true)(hf:f true=r):(bif true then x else y).bind f=r:=by rw[jl,h];exact hf
theorem Ao{β:Type}{b c:Bool}{x:Option Bool}{f:Bool→Option β}{r:Option β}(h:b=false→x=some c)(hf:f (b||c)=r):(bif b then some true else x).bind f=r:=by
 cases b
 ·rw[jN,h rfl];exact hf
 ·rw[jl];exact hf
theorem Se{β:Type}{b c:Bool}{x:Option Bool}{f:Bool→Option β}{r:Option β}(h:b=true→x=some c)(hf:f (b&&c)=r):(bif b then x else some false).bind f=r:=by
 cases b
 ·rw[jN];exact hf
 ·rw[jl,h rfl];exact hf
section ops
variable {K L M:Nat}{a b c:Qr}{x y z:Rat}
end ops
theorem cY.val{L:Nat}{v:List Qr}{f:Nat→Rat}(h:cY L v f)(i:Nat):f i=DI v i:=(h.at i).v.symm
theorem cY.of{L n:Nat}{v:List Qr}{f:Nat→Rat}(hn:v.length=n)(h:∀i q,v[i]? =some q→kx L q (f i))(h1:1≤L):cY L v (fun i=>if i<n then f i else 0):=by
 refine⟨fun i hi=>?_,fun i hi=>?_,h1⟩
 ·show kx L v[i] (if i<n then f i else 0)
  rw[if_pos (by omega)];exact h i _ (List.getElem?_eq_getElem hi)
 ·show(if i<n then f i else 0)=0
  rw[if_neg (by omega)]
abbrev szZ(z:Zr):Nat:=1+((z.w.map fun _=>1).sum+1)+1
abbrev szQ(q:Qr):Nat:=szZ q.num+szZ q.den+1
abbrev XQ(v:List Qr):Nat:=(v.map fun x=>szQ x).sum+1
abbrev szM(m:List (List Qr)):Nat:=(m.map fun x=>XQ x).sum+1
abbrev OkV(v:List Qr):Prop:=v.length≤9223372036854775807∧∀q∈v,OkQ q
end Go.Proofs.YtningmnklfpfjaaGreat
namespace Go.Proofs.YtningmnklfpfjaaGreat
open Go.Fw
def o7{α:Type}(f:Nat→α)(n k:Nat)(z:α):List α:=(List.range k).map f++List.replicate (n-k) z
theorem Et{α:Type}{f:Nat→α}{n k:Nat}{z:α}(hk:k≤n):(o7 f n k z).length=n:=by simp[o7];omega
theorem CQ{α:Type}{f:Nat→α}{n:Nat}{z:α}:o7 f n 0 z=List.replicate n z:=by simp[o7]
theorem Eu{α:Type}{f:Nat→α}{n:Nat}{z:α}:o7 f n n z=(List.range n).map f:=by simp[o7]
theorem Ev{α:Type}{f:Nat→α}{n k:Nat}{z:α}(hk:k<n):(o7 f n k z).set k (f k)=o7 f n (k+1) z:=by
 unfold o7
 rw[show n-k=(n-(k+1))+1 by omega,List.replicate_succ,List.set_append_right _ _ (by simp),List.length_map,List.length_range,Nat.sub_self,List.range_succ,List.map_append,List.append_assoc];rfl
def mq(n:Nat)(ln:Nat→Nat)(F:Nat→Nat→Rat):List (List Qr):=(List.range n).map fun i=>vq (ln i) (F i)
theorem gU(n:Nat)(ln:Nat→Nat)(F:Nat→Nat→Rat):(mq n ln F).length=n:=by simp[mq]
theorem o8{n i:Nat}{ln:Nat→Nat}{F:Nat→Nat→Rat}(hi:i<n):(mq n ln F)[i]? =some (vq (ln i) (F i)):=by simp[mq,hi]
theorem yg{n:Nat}{ln ln':Nat→Nat}{F G:Nat→Nat→Rat}(h:∀i,i<n→ln i=ln' i∧∀k,k<ln i→F i k=G i k):mq n ln F=mq n ln' G:=by
 unfold mq
 apply List.map_congr_left
 intro i hi
 obtain⟨h1,h2⟩:=h i (List.mem_range.1 hi)
 rw[ir h2,h1]
structure sJ (L:Nat) (m:List (List Qr)) (F:Nat→Nat→Rat):Prop where
 e:∀i v,m[i]? =some v→cY L v (F i)
 z:∀i,m.length≤i→∀k,F i k=0
 l1:1≤L
theorem sJ.row{L:Nat}{m:List (List Qr)}{F:Nat→Nat→Rat}(h:sJ L m F)(i:Nat):cY L (m.getD i []) (F i):=by
 by_cases hi:i<m.length
 ·rw[List.getD_eq_getElem?_getD,List.getElem?_eq_getElem hi];exact h.e i _ (List.getElem?_eq_getElem hi)
 ·rw[List.getD_eq_getElem?_getD,List.getElem?_eq_none (by omega)]
  exact(cY.nil h.l1).congr (fun k=>(h.z i (by omega) k).symm)
theorem sJ.mono{L M:Nat}{m:List (List Qr)}{F:Nat→Nat→Rat}(h:sJ L m F)(hl:L≤M):sJ M m F:=⟨fun i v e=>(h.e i v e).mono hl,h.z,Nat.le_trans h.l1 hl⟩
theorem XR{L n:Nat}{ln:Nat→Nat}{F:Nat→Nat→Rat}(hf:∀i,i<n→∀k,k<ln i→FQ L (F i k))(hz:∀i,i<n→∀k,ln i≤k→F i k=0)(hz':∀i,n≤i→∀k,F i k=0)(h1:1≤L):sJ L (mq n ln F) F:=by
 refine⟨fun i v e=>?_,fun i hi=>hz' i (by rwa[gU]at hi),h1⟩
 have hi:i<n:=by have:=(List.getElem?_eq_some_iff.1 e).1;rwa[gU]at this
 rw[o8 hi]at e
 cases e
 exact nO (hf i hi) (hz i hi) h1
def Jr(m:List (List Qr))(i:Nat):Nat→Rat:=DI (m.getD i [])
theorem Sf{L:Nat}{m:List (List Qr)}(h:∀v∈m,cY L v (DI v))(h1:1≤L):sJ L m (Jr m):=by
 refine⟨fun i v e=>?_,fun i hi k=>?_,h1⟩
 ·have:Jr m i=DI v:=by unfold Jr;rw[List.getD_eq_getElem?_getD,e];rfl
  rw[this];exact h v (List.mem_of_getElem? e)
 ·unfold Jr
  rw[List.getD_eq_getElem?_getD,List.getElem?_eq_none hi]
  exact(cY.nil (L:=1) (by decide)).val k |>.symm
theorem mkm{n:Nat}(h:n≤1000000):CZ 24 ((n:Nat):Int) ([]:List Qr)=some (List.replicate n []):=sD (by decide) (by omega)
theorem LN(n:Nat)(h:n≤1000000):CZ 64 ((n:Nat):Int) (⟨⟨false,[]⟩,⟨false,[]⟩⟩:Qr)=some (List.replicate n ⟨⟨false,[]⟩,⟨false,[]⟩⟩):=sD (by omega) (by omega)
theorem KB{L M N:Nat}{a b:List Qr}{f g:Nat→Rat}(ha:cY L a f)(hb:cY M b g)(h:min a.length b.length≤N):bn (fun i=>f i*g i) (min a.length b.length)=bn (fun i=>f i*g i) N:=by
 rw[PF h (fun i h1 _=>by
  rcases Nat.lt_or_ge i a.length with q|q
  ·rw[hb.z i (by omega)];grind
  ·rw[ha.z i q];grind)]
theorem CR{E:Type}{body:Nat→Unit→Option (Unit⊕E)}{n:Nat}{p:Nat→Prop}[DecidablePred p]{e:E}(h:∀k,k<n→body k ()=some (if p k then .inl ()else .inr e)):mB body n ()=some (if ∀k,k<n→p k then .inl ()else .inr e):=by
 induction n with
 |zero=>rw[mB,if_pos (fun k hk=>by omega)]
 |succ n ih=>
  rw[mB,ih (fun k hk=>h k (by omega))]
  by_cases h1:∀k,k<n→p k
  ·rw[if_pos h1]
   show body n ()=_
   rw[h n (by omega)]
   by_cases h2:p n
   ·rw[if_pos h2,if_pos]
    intro k hk
    rcases Nat.lt_or_ge k n with q|q
    ·exact h1 k q
    ·obtain rfl:k=n:=by omega
     exact h2
   ·rw[if_neg h2,if_neg (fun q=>h2 (q n (by omega)))]
  ·rw[if_neg h1,if_neg (fun q=>h1 (fun k hk=>q k (by omega)))];rfl
section ops
variable {K L M:Nat}{c:Qr}{k:Rat}{a b:List (List Qr)}{F G:Nat→Nat→Rat}{x:List Qr}{f:Nat→Rat}
theorem Sg(a:List (List Qr))(i:Nat):qF a (i:Int)=some (a.getD i []):=by
 unfold qF
 refine bB<|bind_eq (dF (by omega)) ?_
 by_cases h:i<a.length
 ·exact bind_eq (a:=false) (aO rfl<|bind_eq rfl<|bind_eq (dF (by omega)) rfl)<|aO rfl<|bind_eq (aQ (dW h)) rfl
 ·rw[iy (by omega)]
  exact bind_eq (a:=true) (aO rfl<|bind_eq rfl<|bind_eq (dT (by omega)) rfl)<|bf rfl rfl
def qX(m:List (List Qr)):Nat:=m.foldl (fun n v=>max n v.length) 0
theorem qY{m:List (List Qr)}{n:Nat}:qX m≤n↔∀v∈m,v.length≤n:=by
 have key:∀(l:List (List Qr)) (s:Nat),l.foldl (fun n v=>max n v.length) s≤n↔s≤n∧∀v∈l,v.length≤n:=by
  intro l
  induction l with
  |nil=>intro s;simp
  |cons v l ih=>
   intro s
   rw[List.foldl_cons,ih];simp only[List.mem_cons,forall_eq_or_imp]
   constructor
   ·rintro⟨h1,h2⟩;exact⟨by omega,by omega,h2⟩
   ·rintro⟨h1,h2,h3⟩;exact⟨by omega,h3⟩
 unfold qX
 rw[key];simp
theorem Ub(m:List (List Qr))(h:m.length≤9223372036854775806):mK m=some (qX m:Int):=by
 unfold mK
 refine bind_eq rfl ?_
 refine aY (fun j=>(((m.take j).foldl (fun n v=>max n v.length) 0:Nat),(j:Int))) m.length ((qX m:Nat):Int) (by simp) (fun j hj=>?_) ?_ rfl
 ·refine bind_eq (dT (by omega))<|bf rfl<|bind_eq (aQ (List.getElem?_eq_getElem hj))<|bind_eq rfl<|bind_eq rfl<|bind_eq (congrArg some (bw (by omega))) ?_
  rw[List.take_add_one,List.getElem?_eq_getElem hj,List.foldl_append]
  simp only[Option.toList_some,List.foldl_cons,List.foldl_nil]
  congr 3
  omega
 ·refine bind_eq (dF (by omega))<|aO rfl ?_
  rw[List.take_length];rfl
theorem XS(h:sJ L a F)(hL:L≤10000000000)(i j:Nat):uj a (i:Int) (j:Int)=some (qn (F i j)):=by
 unfold uj
 refine bind_eq (Sg a i)<|bB<|bind_eq (dF (by omega)) ?_
 have hr:=h.row i
 generalize a.getD i []=v at hr
 by_cases hj:j<v.length
 ·obtain⟨q,e1,r1⟩:=hr.get hj
  have e2:=(r1.canon hL).1
  exact bind_eq (a:=false) (aO rfl<|bind_eq rfl<|bind_eq (dF (by omega)) rfl)<|aO rfl<|bind_eq (aQ e1)<|bind_eq e2 rfl
 ·rw[hr.z j (by omega)]
  exact bind_eq (a:=true) (aO rfl<|bind_eq rfl<|bind_eq (dT (by omega)) rfl)<|bf rfl rfl
theorem agX(h:sJ L a F)(hx:cY M x f){N:Nat}(hN:∀v∈a,min v.length x.length≤N)(hL:(N+2)*(L+M+1)≤4000000000)(hn:a.length≤1000000):
  lD a x=some (vq a.length (fun i=>bn (fun j=>F i j*f j) N))∧cY (N*(L+M+1)+1) (vq a.length (fun i=>bn (fun j=>F i j*f j) N)) (fun i=>bn (fun j=>F i j*f j) N):=by
 have row:∀i,i<a.length→jQ (a.getD i []) x=some (qn (bn (fun j=>F i j*f j) N))∧kx (N*(L+M+1)+1) (qn (bn (fun j=>F i j*f j) N)) (bn (fun j=>F i j*f j) N):=fun i hi=>by
  have hm:=hN _ (List.mem_of_getElem? (dW (d:=[]) hi))
  have h1:=abc (h.row i) hx (Nat.le_trans (Nat.mul_le_mul_right _ (by omega)) hL)
  rw[KB (h.row i) hx hm]at h1
  exact⟨h1.1,h1.2.mono (Nat.add_le_add_right (Nat.mul_le_mul_right _ hm) 1)⟩
 constructor
 ·unfold lD
  refine bind_eq rfl<|bind_eq (LN _ hn)<|bind_eq rfl ?_
  refine aY (fun j=>((j:Int),o7 (fun i=>qn (bn (fun j=>F i j*f j) N)) a.length j ⟨⟨false,[]⟩,⟨false,[]⟩⟩)) a.length (vq a.length (fun i=>bn (fun j=>F i j*f j) N)) (by rw[CQ];rfl) (fun j hj=>?_) ?_ rfl
  ·have e1:=(row j hj).1
   have hl:(o7 (fun i=>qn (bn (fun j=>F i j*f j) N)) a.length j ⟨⟨false,[]⟩,⟨false,[]⟩⟩).length=a.length:=Et (by omega)
   have hst:∀q,qn (bn (fun i=>F j i*f i) N)=q→(o7 (fun i=>qn (bn (fun j=>F i j*f j) N)) a.length j ⟨⟨false,[]⟩,⟨false,[]⟩⟩).set j q=o7 (fun i=>qn (bn (fun j=>F i j*f j) N)) a.length (j+1) ⟨⟨false,[]⟩,⟨false,[]⟩⟩:=by rintro q rfl;exact Ev hj
   generalize hq:qn (bn (fun i=>F j i*f i) N)=q at e1
   have hst:=hst q hq
   refine bind_eq (dT (by omega))<|bf rfl<|bind_eq (aQ (dW (d:=[]) hj))<|bind_eq e1<|bind_eq (cf (show j<_ by rw[hl];exact hj))<|bind_eq (fE (show j<_ by rw[hl];exact hj))<|bind_eq (congrArg some (bw (by omega))) ?_
   rw[←hst]
  ·refine bind_eq (dF (by omega))<|aO rfl ?_
   rw[Eu];rfl
 ·refine nO (fun i hi=>(row i hi).2.fq) (fun i hi=>?_) (by omega)
  rw[bX (k:=fun _=>0) (fun j _=>by rw[h.z i hi j];grind),kU]
theorem Ud{l:List (List Int)}(hl:∀v∈l,v.length≤1000∧∀y∈v,fj y)(hn:l.length≤1000):iq l=some (mq l.length (fun i=>(l.getD i []).length) (fun i j=>(((l.getD i []).getD j 0:Int):Rat)))∧sJ 2 (mq l.length (fun i=>(l.getD i []).length) (fun i j=>(((l.getD i []).getD j 0:Int):Rat))) (fun i j=>(((l.getD i []).getD j 0:Int):Rat)):=by
 have hw:∀i,(l.getD i []).length≤1000∧∀y∈l.getD i [],fj y:=fun i=>by
  by_cases hi:i<l.length
  ·exact hl _ (List.mem_of_getElem? (dW (d:=[]) hi))
  ·rw[iy (by omega)];simp
 constructor
 ·unfold iq
  refine bind_eq rfl<|bind_eq (mkm (by omega))<|bind_eq rfl ?_
  refine aY (fun j=>((j:Int),o7 (fun i=>vq (l.getD i []).length (fun j=>(((l.getD i []).getD j 0:Int):Rat))) l.length j [])) l.length (mq l.length (fun i=>(l.getD i []).length) (fun i j=>(((l.getD i []).getD j 0:Int):Rat))) (by rw[CQ];rfl) (fun j hj=>?_) ?_ rfl
  ·have e1:=(yf (hw j).2 (by have:=(hw j).1;omega)).1
   have hl:(o7 (fun i=>vq (l.getD i []).length (fun j=>(((l.getD i []).getD j 0:Int):Rat))) l.length j []).length=l.length:=Et (by omega)
   refine bind_eq (dT (by omega))<|bf rfl<|bind_eq (aQ (dW (d:=[]) hj))<|bind_eq e1<|bind_eq (cf (show j<_ by rw[hl];exact hj))<|bind_eq (fE (show j<_ by rw[hl];exact hj))<|bind_eq (congrArg some (bw (by omega))) ?_
   rw[←Ev hj]
  ·refine bind_eq (dF (by omega))<|aO rfl ?_
   rw[Eu];rfl
 ·refine XR (fun i hi j hj=>(yf (hw i).2 (by have:=(hw i).1;omega)).2.fq j) (fun i hi j hj=>by rw[iy hj];rfl) (fun i hi j=>by rw[iy hi];rfl) (by decide)
end ops
end Go.Proofs.YtningmnklfpfjaaGreat
namespace Go.Proofs.YtningmnklfpfjaaGreat
open Go.Fw
theorem Ew{α:Type}{b:Bool}{x y r:α}(ht:b=true→x=r)(hf:b=false→y=r):(bif b then x else y)=r:=by
 cases b
 ·rw[jN];exact hf rfl
 ·rw[jl];exact ht rfl
theorem vi{E:Type}{body:Int→Option (Int⊕(Unit⊕E))}{n:Nat}{p:Nat→Prop}[DecidablePred p]{e:E}(h:∀k:Nat,k<n→body (k:Int)=some (if p k then .inl ((k+1:Nat):Int)else .inr (.inr e)))(hn:body (n:Int)=some (.inr (.inl ()))):
  bT body 0=some (if ∀k,k<n→p k then .inl ()else .inr e):=by
 obtain⟨r,h1,h2⟩:=yy (body:=body) (s:=0) (fun s=>∃k:Nat,s=(k:Int)∧k≤n∧∀i,i<k→p i) (fun r=>(r=.inl ()∧∀k,k<n→p k)∨(r=.inr e∧¬∀k,k<n→p k)) (fun s=>n-s.toNat) (by
  rintro _ ⟨k,rfl,hk,hp⟩
  by_cases hlt:k<n
  ·by_cases hpk:p k
   ·refine .inl ⟨_,by rw[h k hlt,if_pos hpk],⟨k+1,rfl,hlt,fun i hi=>?_⟩,by simp only[Int.toNat_natCast];omega⟩
    rcases Nat.lt_or_ge i k with q|q
    ·exact hp i q
    ·obtain rfl:i=k:=by omega
     exact hpk
   ·exact .inr ⟨_,by rw[h k hlt,if_neg hpk],.inr ⟨rfl,fun q=>hpk (q k hlt)⟩⟩
  ·obtain rfl:k=n:=by omega
   exact .inr ⟨_,hn,.inl ⟨rfl,hp⟩⟩) ⟨0,rfl,by omega,fun i hi=>by omega⟩
 rw[h1]
 rcases h2 with⟨rfl,h2⟩|⟨rfl,h2⟩
 ·rw[if_pos h2]
 ·rw[if_neg h2]
def Sh(n:Nat)(f:Nat→Rat)(i:Nat):Rat:=if i<n then f i else 0
theorem yh{n i:Nat}{f:Nat→Rat}(h:i<n):Sh n f i=f i:=if_pos h
theorem Si{n i:Nat}{f:Nat→Rat}(h:n≤i):Sh n f i=0:=if_neg (by omega)
theorem XT(n:Nat)(f:Nat→Rat):vq n f=vq n (Sh n f):=ir (fun i hi=>(yh hi).symm)
theorem KC{L n:Nat}{f:Nat→Rat}(h:∀i,i<n→FQ L (f i))(h1:1≤L):cY L (vq n f) (Sh n f):=by
 rw[XT]
 exact nO (fun i hi=>by rw[yh hi];exact h i hi) (fun i hi=>Si hi) h1
def Gp(n:Int)(ob rw:List (List Qr))(bd:List Qr):Prop:=0≤n∧n≤64∧1≤ob.length∧ob.length≤4∧rw.length≤128∧bd.length=rw.length∧(qX ob:Int)≤n∧(qX rw:Int)≤n
instance(n:Int)(ob rw:List (List Qr))(bd:List Qr):Decidable (Gp n ob rw bd):=by unfold Gp;exact inferInstance
theorem yj{n:Int}{ob rw:List (List Qr)}{bd:List Qr}(h1:ob.length≤9223372036854775806)(h2:rw.length≤9223372036854775806):gO ⟨n,ob,rw,bd⟩=some (decide (Gp n ob rw bd)):=by
 unfold gO nZ
 refine bind_eq (bind_eq rfl<|bind_eq rfl<|bind_eq rfl rfl)<|bB<|bind_eq rfl<|Ao (fun _=>bind_eq rfl rfl)<|Ao (fun _=>bind_eq rfl rfl)<|Ao (fun _=>bind_eq rfl rfl)<|Ew (fun h=>?_) (fun h=>bB<|bind_eq rfl<|Ao (fun _=>bind_eq rfl rfl)<|Ew (fun h'=>?_) (fun h'=>bB<|bind_eq (Ub ob h1)<|bind_eq rfl<|Se (fun _=>bind_eq (Ub rw h2)<|bind_eq rfl rfl) ?_))
 ·congr 1;symm;rw[decide_eq_false_iff_not]
  simp only[Bool.or_eq_true,decide_eq_true_eq]at h
  unfold Gp;omega
 ·congr 1;symm;rw[decide_eq_false_iff_not]
  simp only[Bool.or_eq_true,decide_eq_true_eq]at h'
  unfold Gp;omega
 ·congr 1
  simp only[Bool.or_eq_false_iff,decide_eq_false_iff_not]at h h'
  rw[←Bool.decide_and,decide_eq_decide]
  unfold Gp;omega
def LO(n:Int)(ob rw:List (List Qr))(bd x:List Qr)(F:Nat→Nat→Rat)(g f:Nat→Rat)(N:Nat):Prop:=Gp n ob rw bd∧(x.length:Int)≤n∧(∀i,i<x.length→0≤f i)∧∀i,i<rw.length→bn (fun j=>F i j*f j) N≤g i
instance(n:Int)(ob rw:List (List Qr))(bd x:List Qr)(F:Nat→Nat→Rat)(g f:Nat→Rat)(N:Nat):Decidable (LO n ob rw bd x F g f N):=by unfold LO;exact inferInstance
section lps
variable {K L M N:Nat}{n:Int}{ob rw:List (List Qr)}{bd x y:List Qr}{O F:Nat→Nat→Rat}{g f:Nat→Rat}
theorem KD(hr:sJ L rw F)(hb:cY K bd g)(hx:cY M x f)(hN:∀v∈rw,min v.length x.length≤N)(hL:(N+2)*(L+M+1)≤2000000000)(hK:K≤1000000000)(h1:ob.length≤9223372036854775806)(h2:rw.length≤9223372036854775806)(h3:x.length≤1000000):
  fJ ⟨n,ob,rw,bd⟩ x=some (decide (LO n ob rw bd x F g f N)):=by
 have row:∀i,i<rw.length→∃q,jQ (rw.getD i []) x=some q∧kx (N*(L+M+1)+1) q (bn (fun j=>F i j*f j) N):=fun i hi=>by
  have hm:=hN _ (List.mem_of_getElem? (dW (d:=[]) hi))
  have h1:=abc (hr.row i) hx (Nat.le_trans (Nat.mul_le_mul_right _ (show min (rw.getD i []).length x.length+2≤N+2 by omega)) (by omega))
  rw[KB (hr.row i) hx hm]at h1
  exact⟨_,h1.1,h1.2.mono (Nat.add_le_add_right (Nat.mul_le_mul_right _ hm) 1)⟩
 have hsz:N*(L+M+1)+1+K≤4000000000:=by rw[Nat.add_mul]at hL;omega
 unfold fJ
 refine bB<|bind_eq (yj h1 h2)<|bind_eq rfl<|Ao (fun _=>bind_eq rfl<|bind_eq rfl rfl)<|Ew (fun h=>?_) (fun h=>bind_eq rfl ?_)
 ·congr 1;symm;rw[decide_eq_false_iff_not]
  simp only[Bool.or_eq_true,Bool.not_eq_true',decide_eq_true_eq,decide_eq_false_iff_not]at h
  unfold LO
  rintro⟨q1,q2,_⟩
  rcases h with h|h
  ·exact h q1
  ·omega
 simp only[Bool.or_eq_false_iff,Bool.not_eq_false',decide_eq_true_eq,decide_eq_false_iff_not]at h
 refine bind_eq (vi (p:=fun i=>0≤f i) (e:=false) (n:=x.length) (fun i hi=>?_) (bind_eq (dF (by omega))<|aO rfl rfl)) ?_
 ·obtain⟨q,e1,r1⟩:=hx.get hi
  have e2:=r1.sign (by have:=Nat.mul_le_mul_right (L+M+1) (show 1≤N+2 by omega);omega)
  refine bind_eq (dT (by omega))<|bf rfl<|bind_eq (aQ e1)<|bind_eq e2<|bind_eq rfl ?_
  by_cases hp:0≤f i
  ·rw[if_pos hp]
   exact aO (decide_eq_false (fun q=>Rat.not_lt.2 hp (ye.1 q)))<|bind_eq (congrArg some (bw (by omega))) rfl
  ·rw[if_neg hp]
   exact bf (decide_eq_true (ye.2 (Rat.not_le.1 hp))) rfl
 by_cases hp:∀i,i<x.length→0≤f i
 ·rw[if_pos hp]
  show(mB _ _ ()).bind _=_
  refine bind_eq (CR (p:=fun i=>bn (fun j=>F i j*f j) N≤g i) (e:=false) (fun i hi=>?_)) ?_
  ·obtain⟨q,e1,r1⟩:=row i hi
   have rb:=hb.gd i
   have e2:=r1.cmp rb hsz
   generalize hbq:bd.getD i (⟨⟨false,[]⟩,⟨false,[]⟩⟩:Qr)=bq at e2
   refine bind_eq rfl<|bind_eq (a:=bq) (by first|rfl|exact congrArg some hbq)<|bind_eq e1<|bind_eq e2<|bind_eq rfl ?_
   by_cases hs:bn (fun j=>F i j*f j) N≤g i
   ·rw[if_pos hs]
    refine aO (decide_eq_false (fun q=>?_)) rfl
    exact Rat.not_lt.2 hs (PE.1 (by omega))
   ·rw[if_neg hs]
    exact bf (decide_eq_true (R7 (Rat.not_le.1 hs))) rfl
  ·by_cases hq:∀i,i<rw.length→bn (fun j=>F i j*f j) N≤g i
   ·rw[if_pos hq,decide_eq_true (show LO n ob rw bd x F g f N from⟨h.1,by omega,hp,hq⟩)]
   ·rw[if_neg hq,decide_eq_false (show ¬LO n ob rw bd x F g f N from fun q=>hq q.2.2.2)]
 ·rw[if_neg hp,decide_eq_false (show ¬LO n ob rw bd x F g f N from fun q=>hp q.2.2.1)]
theorem eval_eq(ho:sJ L ob O)(hx:cY M x f)(hN:∀v∈ob,min v.length x.length≤N)(hL:(N+2)*(L+M+1)≤4000000000)(hn:ob.length≤1000000):
  iW ⟨n,ob,rw,bd⟩ x=some (vq ob.length (fun i=>bn (fun j=>O i j*f j) N))∧cY (N*(L+M+1)+1) (vq ob.length (fun i=>bn (fun j=>O i j*f j) N)) (fun i=>bn (fun j=>O i j*f j) N):=by
 obtain⟨h1,h2⟩:=agX ho hx hN hL hn
 exact⟨bind_eq h1 rfl,h2⟩
end lps
end Go.Proofs.YtningmnklfpfjaaGreat
namespace Go.Proofs.YtningmnklfpfjaaGreat
open Go.Fw
def bq(m:Nat)(b:Nat→Nat):List Int:=(List.range m).map fun j=>((b j:Nat):Int)
theorem w8(m:Nat)(b:Nat→Nat):(bq m b).length=m:=by simp[bq]
theorem w9{m j:Nat}{b:Nat→Nat}(h:j<m):(bq m b)[j]? =some ((b j:Nat):Int):=by simp[bq,h]
theorem Sj(m:Nat)(b:Nat→Nat):bq (m+1) b=bq m b++[((b m:Nat):Int)]:=by simp[bq,List.range_succ]
theorem XU{m r c:Nat}{b:Nat→Nat}(hr:r<m):(bq m b).set r (c:Int)=bq m (fun j=>if j=r then c else b j):=by
 apply List.ext_getElem?
 intro j
 rw[List.getElem?_set,w8]
 by_cases hj:j<m
 ·rw[w9 hj]
  by_cases e:r=j
  ·subst e;rw[if_pos rfl,if_pos hr,w9 hr,if_pos rfl]
  ·rw[if_neg e,w9 hj,if_neg (fun q=>e q.symm)]
 ·rw[List.getElem?_eq_none (l:=bq m _) (by rw[w8];omega),List.getElem?_eq_none (l:=bq m _) (by rw[w8];omega)]
  by_cases e:r=j
  ·rw[if_pos e,if_neg (by omega)]
  ·rw[if_neg e]
abbrev Js(n m p:Nat)(O F:Nat→Nat→Rat)(b:Nat→Nat):Tb:=⟨true,(n:Int),mq p (fun _=>n) O,bq m b,mq m (fun _=>n+m+1) F⟩
structure sK (L n m p:Nat) (O F:Nat→Nat→Rat) (b:Nat→Nat):Prop where
 f:∀i,i<m→∀k,FQ L (F i k)
 o:∀i,i<p→∀k,FQ L (O i k)
 z:∀i,i<m→∀k,n+m+1≤k→F i k=0
 l1:1≤L
 hn:n≤64
 hm:m≤128
 hp:p≤4
 hb:∀j,j<m→b j<n+m
section tab
variable {L n m p:Nat}{O F:Nat→Nat→Rat}{b:Nat→Nat}
theorem l7(n m p:Nat)(O F:Nat→Nat→Rat)(b:Nat→Nat):cg (Js n m p O F b)=some false:=by
 unfold cg
 exact bB<|bind_eq (a:=false) (aO rfl<|bind_eq rfl rfl) rfl
theorem Gf(hn:n≤64)(hm:m≤128):eR (Js n m p O F b)=some ((n+m:Nat):Int):=by
 unfold eR
 refine bind_eq rfl<|bind_eq (congrArg some ?_) rfl
 rw[gU,cz (by omega) (by omega)];omega
theorem abg{i:Nat}(h:sK L n m p O F b)(hi:i<m):cY L (vq (n+m+1) (F i)) (F i):=nO (fun k _=>h.f i hi k) (fun k hk=>h.z i hi k hk) h.l1
theorem KE(h:sK L n m p O F b)(hL:L≤4000000000){c:Nat}(hc:c<n+m+1):gH (Js n m p O F b) (c:Int)=some (vq m (fun i=>F i c)):=by
 have hm:=h.hm
 unfold gH
 show(some ((mq m (fun _=>n+m+1) F).length:Int)).bind _=_
 refine bind_eq rfl ?_
 rw[gU]
 refine bind_eq (LN m (by omega))<|bind_eq rfl ?_
 refine aY (fun k=>((k:Int),vq k (fun i=>F i c)++List.replicate (m-k) qz)) m (vq m (fun i=>F i c)) rfl (fun k hk=>?_) ?_ rfl
 ·have g1:(mq m (fun _=>n+m+1) F)[k]? =some (vq (n+m+1) (F k)):=o8 hk
  have g2:(vq (n+m+1) (F k))[c]? =some (qn (F k c)):=mN hc
  have e:=(((h.f k hk c).rep h.l1).canon (by omega)).1
  have s:=Ge (h:=fun i=>F i c) hk
  have hl:(vq k (fun i=>F i c)++List.replicate (m-k) qz).length=m:=sI (by omega)
  rw[←s]
  generalize vq k (fun i=>F i c)++List.replicate (m-k) qz=l at*
  clear s
  show(some (decide ((k:Int)<(m:Int)))).bind _=_
  generalize qn (F k c)=q at*
  obtain⟨⟨_,_⟩,⟨_,_⟩⟩:=q
  exact bind_eq (dT (by omega))<|bf rfl<|bind_eq (aQ g1)<|bind_eq (aQ g2)<|bind_eq e<|bind_eq (cf (by omega))<|bind_eq (fE (by omega))<|bind_eq (congrArg some (bw (by omega))) rfl
 ·simp only[Nat.sub_self,List.replicate_zero,List.append_nil]
  exact bind_eq (dF (by omega))<|aO rfl rfl
def ke(n p:Nat)(O:Nat→Nat→Rat)(c:Nat)(i:Nat):Rat:=if c<n then(if i<p then O i c else if i=p+c then-1 else 0)else 0
theorem qZ{k j:Nat}{h:Nat→Rat}{x:Rat}(hj:j<k):(vq k h).set j (qn x)=vq k (fun i=>if i=j then x else h i):=by
 apply List.ext_getElem?
 intro i
 rw[List.getElem?_set,bN]
 by_cases hi:i<k
 ·rw[mN hi]
  by_cases e:j=i
  ·subst e;rw[if_pos rfl,if_pos hj,mN hj,if_pos rfl]
  ·rw[if_neg e,mN hi,if_neg (fun q=>e q.symm)]
 ·rw[List.getElem?_eq_none (l:=vq k _) (by rw[bN];omega),List.getElem?_eq_none (l:=vq k _) (by rw[bN];omega)]
  by_cases e:j=i
  ·rw[if_pos e,if_neg (by omega)]
  ·rw[if_neg e]
theorem AO(k:Nat):List.replicate k (⟨⟨false,[]⟩,⟨false,[]⟩⟩:Qr)=vq k (fun _=>0):=by
 apply List.ext_getElem?
 intro i
 by_cases hi:i<k
 ·rw[mN hi,List.getElem?_replicate,if_pos hi];rfl
 ·rw[List.getElem?_eq_none (by simp;omega),List.getElem?_eq_none (by rw[bN];omega)]
theorem Sk:cx (-1)=some (qn (-1)):=(lZ (n:=-1) (by decide)).1
theorem one_eq:cx 1=some (qn 1)∧kx 2 (qn 1) 1:=lZ (n:=1) (by decide)
theorem PK(h:sK L n m p O F b){c:Nat}(hc:c<n+m):iX (Js n m p O F b) (c:Int)=some (vq (p+n) (ke n p O c)):=by
 have hm:=h.hm
 have hn:=h.hn
 have hp:=h.hp
 unfold iX
 show(some ((mq p (fun _=>n) O).length:Int)).bind _=_
 refine bind_eq rfl ?_
 rw[gU]
 refine bind_eq (congrArg some (show IntKind.i64.wrap ((p:Int)+(n:Int))=((p+n:Nat):Int) by rw[cz (by omega) (by omega)];omega))<|bind_eq (LN (p+n) (by omega))<|bind_eq rfl<|bB ?_
 rw[AO]
 by_cases hcn:c<n
 ·refine bf (decide_eq_true (show(c:Int)<(n:Int) by omega))<|bind_eq rfl ?_
  refine aY (fun k=>((k:Int),vq (p+n) (fun i=>if i<k then O i c else 0))) p (vq (p+n) (fun i=>if i<p then O i c else 0)) (by simp) (fun k hk=>?_) ?_ ?_
  ·have g1:(mq p (fun _=>n) O)[k]? =some (vq n (O k)):=o8 hk
   have g2:(vq n (O k))[c]? =some (qn (O k c)):=mN hcn
   have s:=qZ (k:=p+n) (j:=k) (h:=fun i=>if i<k then O i c else 0) (x:=O k c) (by omega)
   have s2:vq (p+n) (fun i=>if i=k then O k c else if i<k then O i c else 0)=vq (p+n) (fun i=>if i<k+1 then O i c else 0):=ir (fun i _=>by
    by_cases e:i=k
    ·subst e;simp
    ·rw[if_neg e]
     by_cases e2:i<k
     ·rw[if_pos e2,if_pos (by omega)]
     ·rw[if_neg e2,if_neg (by omega)])
   rw[s2]at s
   have hl:=bN (p+n) (fun i=>if i<k then O i c else 0)
   rw[←s]
   generalize vq (p+n) (fun i=>if i<k then O i c else 0)=l at*
   clear s s2
   show(some (decide ((k:Int)<(p:Int)))).bind _=_
   generalize qn (O k c)=q at*
   obtain⟨⟨_,_⟩,⟨_,_⟩⟩:=q
   exact bind_eq (dT (by omega))<|bf rfl<|bind_eq (aQ g1)<|bind_eq (aQ g2)<|bind_eq (cf (by omega))<|bind_eq (fE (by omega))<|bind_eq (congrArg some (bw (by omega))) rfl
  ·exact bind_eq (dF (by omega))<|aO rfl rfl
  ·have s:=qZ (k:=p+n) (j:=p+c) (h:=fun i=>if i<p then O i c else 0) (x:=-1) (by omega)
   have s2:vq (p+n) (fun i=>if i=p+c then(-1:Rat)else if i<p then O i c else 0)=vq (p+n) (ke n p O c):=ir (fun i _=>by
    unfold ke
    rw[if_pos hcn]
    by_cases e:i=p+c
    ·rw[if_pos e,if_neg (by omega),if_pos e]
    ·rw[if_neg e,if_neg e])
   rw[s2]at s
   have hl:=bN (p+n) (fun i=>if i<p then O i c else 0)
   have e1:=Sk
   rw[←s]
   generalize vq (p+n) (fun i=>if i<p then O i c else 0)=l at*
   clear s s2
   generalize qn (-1)=q at*
   obtain⟨⟨_,_⟩,⟨_,_⟩⟩:=q
   exact bind_eq rfl<|bind_eq (congrArg some (show IntKind.i64.wrap ((p:Int)+(c:Int))=((p+c:Nat):Int) by rw[cz (by omega) (by omega)];omega))<|bind_eq e1<|bind_eq (cf (by omega))<|bind_eq (fE (by omega)) rfl
 ·refine aO (decide_eq_false (show ¬(c:Int)<(n:Int) by omega)) ?_
  exact congrArg some (ir (fun i _=>by unfold ke;rw[if_neg hcn]))
theorem PL(h:sK L n m p O F b)(c i:Nat):FQ L (ke n p O c i):=by
 unfold ke
 have hl:=h.l1
 split
 ·split
  ·exact h.o _ (by assumption) _
  ·split
   ·exact(FQ.int (i:=-1) (L:=L) (by unfold Fit;exact Nat.lt_of_lt_of_le (by decide:(-1:Int).natAbs<4294967296^1) (Nat.pow_le_pow_right (by decide) hl)) hl)
   ·exact vh hl
 ·exact vh hl
theorem KF(h:sK L n m p O F b)(c:Nat):cY L (vq (p+n) (ke n p O c)) (ke n p O c):=nO (fun i _=>PL h c i) (fun i hi=>by
 unfold ke
 split
 ·rw[if_neg (by omega),if_neg (by omega)]
 ·rfl) h.l1
def oa(n p:Nat)(O:Nat→Nat→Rat)(b:Nat→Nat)(g:Nat→Rat)(m:Nat)(i:Nat):Rat:=bn (fun j=>g j*ke n p O (b j) i) m
theorem XV{g:Nat→Rat}{k i:Nat}(hi:p+n≤i):oa n p O b g k i=0:=by
 unfold oa
 rw[bX (k:=fun _=>0) (fun j _=>?_),kU]
 unfold ke
 split
 ·rw[if_neg (by omega),if_neg (by omega)];grind
 ·grind
theorem AP(h:sK L n m p O F b){g:Nat→Rat}(hg:∀j,j<m→FQ L (g j)):∀k,k≤m→∀i,FQ (k*(L+L+1)+1) (oa n p O b g k i)
 |0,_,i=>by show FQ (0*(L+L+1)+1) (0:Rat);rw[Nat.zero_mul];exact vh (by decide)
 |k+1,hk,i=>by
  have e:=(AP h hg k (by omega) i).add ((hg k (by omega)).mul (PL h (b k) i))
  exact e.mono (by rw[Nat.succ_mul];generalize k*(L+L+1)=q;omega)
theorem CS(h:sK L n m p O F b){g:Nat→Rat}(hg:∀j,j<m→FQ L (g j)){k:Nat}(hk:k≤m):cY (k*(L+L+1)+1) (vq (p+n) (oa n p O b g k)) (oa n p O b g k):=nO (fun i _=>AP h hg k hk i) (fun i hi=>XV hi) (by omega)
theorem Ex(h:sK L n m p O F b)(hL:(m+1)*(L+L+1)≤2000000000){g:Nat→Rat}(hg:∀j,j<m→FQ L (g j)):eT (Js n m p O F b) (vq m g)=some (vq (p+n) (oa n p O b g m)):=by
 have hX:m*(L+L+1)+(L+L+1)≤2000000000:=by rw[←Nat.succ_mul];exact hL
 have hm:=h.hm
 have hn:=h.hn
 have hp:=h.hp
 have h1:=h.l1
 unfold eT
 show(some ((mq p (fun _=>n) O).length:Int)).bind _=_
 refine bind_eq rfl ?_
 rw[gU]
 refine bind_eq (congrArg some (show IntKind.i64.wrap ((p:Int)+(n:Int))=((p+n:Nat):Int) by rw[cz (by omega) (by omega)];omega))<|bind_eq (LN (p+n) (by omega))<|bind_eq (congrArg some (show((vq m g).length:Int)=(m:Int) by rw[bN])) ?_
 rw[AO]
 refine aY (fun k=>(vq (p+n) (oa n p O b g k),(k:Int))) m (vq (p+n) (oa n p O b g m)) rfl (fun k hk=>?_) ?_ rfl
 ·have g1:(vq m g)[k]? =some (qn (g k)):=mN hk
  have g2:=w9 (b:=b) hk
  have rg:=(hg k hk).rep h1
  have sg:=rg.sign (by omega)
  have Uy:=h.hb k hk
  have tv:=PK h Uy
  have va:=Ua rg (KF h (b k)) (CS h hg (Nat.le_of_lt hk)) (by have:=Nat.mul_le_mul_right (L+L+1) (show k≤m by omega);omega) (by rw[bN];omega) (by rw[bN];omega)
  have e0:vq (max (vq (p+n) (ke n p O (b k))).length (vq (p+n) (oa n p O b g k)).length) (fun i=>g k*ke n p O (b k) i+oa n p O b g k i)=vq (p+n) (oa n p O b g (k+1)):=by
   rw[bN,bN,Nat.max_self]
   refine ir (fun i _=>?_)
   show _=bn _ k+_
   unfold oa;grind
  rw[e0]at va
  have same:g k*ke n p O (b k) 0=g k*ke n p O (b k) 0:=rfl
  have skip:(¬(b k<n)∨g k=0)→vq (p+n) (oa n p O b g k)=vq (p+n) (oa n p O b g (k+1)):=fun q=>ir (fun i _=>by
   show oa n p O b g k i=bn _ k+_
   have:g k*ke n p O (b k) i=0:=by
    rcases q with q|q
    ·unfold ke;rw[if_neg q];grind
    ·rw[q];grind
   show oa n p O b g k i=oa n p O b g k i+g k*ke n p O (b k) i
   rw[this];grind)
  replace va:=va.1
  show(some (decide ((k:Int)<(m:Int)))).bind _=_
  have sgd:(some (decide (lX (g k) 0≠0)):Option Bool)=some (decide (g k≠0)):=by
   congr 1
   by_cases q:g k=0
   ·rw[decide_eq_false (by rw[q,zj];simp),decide_eq_false (by simp[q])]
   ·rw[decide_eq_true (show lX (g k) 0≠0 from fun e=>q (jY.1 e)),decide_eq_true q]
  generalize hq:qn (g k)=q at*
  obtain⟨⟨q1,q2⟩,⟨q3,q4⟩⟩:=q
  refine bind_eq (dT (by omega))<|bf rfl<|bind_eq (aQ g1)<|bB<|bind_eq (aQ g2)<|bind_eq rfl ?_
  by_cases UI:b k<n
  ·refine bind_eq (a:=decide (g k≠0)) (bf (decide_eq_true (show((b k:Nat):Int)<(n:Int) by omega))<|bind_eq sg<|bind_eq sgd rfl)<|bB ?_
   by_cases h0:g k=0
   ·refine aO (by simp[h0]) ?_
    rw[skip (.inr h0)]
    exact bind_eq (congrArg some (bw (by omega))) rfl
   ·refine bf (by simp[h0]) ?_
    exact bind_eq (aQ g2)<|bind_eq tv<|bind_eq va<|bind_eq (congrArg some (bw (by omega))) rfl
  ·refine bind_eq (a:=false) (aO (decide_eq_false (show ¬((b k:Nat):Int)<(n:Int) by omega)) rfl)<|bB<|aO rfl ?_
   rw[skip (.inl UI)]
   exact bind_eq (congrArg some (bw (by omega))) rfl
 ·exact bind_eq (dF (by omega))<|aO rfl rfl
theorem LP(h:sK L n m p O F b)(hL:L≤4000000000):fP (Js n m p O F b)=some (vq m (fun i=>F i (n+m))):=by
 unfold fP
 exact bind_eq (l7 n m p O F b)<|aO rfl<|bind_eq (Gf h.hn h.hm)<|bind_eq (KE h hL (by omega)) rfl
def q9(n m p:Nat)(O F:Nat→Nat→Rat)(b:Nat→Nat)(c:Nat)(i:Nat):Rat:=oa n p O b (fun j=>F j c) m i-ke n p O c i
theorem PM(h:sK L n m p O F b)(hL:(m+1)*(L+L+1)≤2000000000){c:Nat}(hc:c<n+m):cQ (Js n m p O F b) (c:Int)=some (vq (p+n) (q9 n m p O F b c))∧cY (m*(L+L+1)+1+L+1) (vq (p+n) (q9 n m p O F b c)) (q9 n m p O F b c):=by
 have hX:m*(L+L+1)+(L+L+1)≤2000000000:=by rw[←Nat.succ_mul];exact hL
 have hm:=h.hm
 have hn:=h.hn
 have hp:=h.hp
 have w:=Ex h hL (g:=fun j=>F j c) (fun j hj=>h.f j hj c)
 have s:=agT (CS h (g:=fun j=>F j c) (fun j hj=>h.f j hj c) (Nat.le_refl m)) (KF h c) (by omega) (by rw[bN];omega) (by rw[bN];omega)
 rw[bN,bN,Nat.max_self]at s
 refine⟨?_,s.2⟩
 unfold cQ
 exact bB<|bind_eq (l7 n m p O F b)<|bind_eq (a:=false) (aO rfl<|bind_eq (dF (by omega)) rfl)<|bind_eq (a:=false) (aO rfl<|bind_eq (Gf hn hm)<|bind_eq (dF (by omega)) rfl)<|aO rfl<|bind_eq (KE h (by omega) (by omega))<|bind_eq w<|bind_eq (PK h hc)<|bind_eq s.1 rfl
theorem Gg(h:sK L n m p O F b)(hL:(m+1)*(L+L+1)≤2000000000):iB (Js n m p O F b)=some (vq (p+n) (oa n p O b (fun j=>F j (n+m)) m)):=by
 have hX:m*(L+L+1)+(L+L+1)≤2000000000:=by rw[←Nat.succ_mul];exact hL
 unfold iB
 exact bind_eq (l7 n m p O F b)<|aO rfl<|bind_eq (LP h (by omega))<|bind_eq (Ex h hL (g:=fun j=>F j (n+m)) (fun j hj=>h.f j hj _)) rfl
def gZ(n m:Nat)(F:Nat→Nat→Rat)(b:Nat→Nat):Nat→Nat→Rat
 |0,_=>0
 |j+1,i=>if b j<n∧i=b j then F j (n+m)else gZ n m F b j i
theorem Ey(h:sK L n m p O F b)(hL:L≤4000000000):fY (Js n m p O F b)=some (vq n (gZ n m F b m)):=by
 have hm:=h.hm
 have hn:=h.hn
 unfold fY
 refine bind_eq (l7 n m p O F b)<|aO rfl<|bind_eq (LN n (by omega))<|bind_eq (LP h hL)<|bind_eq (congrArg some (show((vq m _).length:Int)=(m:Int) by rw[bN])) ?_
 rw[AO]
 refine aY (fun k=>((k:Int),vq n (gZ n m F b k))) m (vq n (gZ n m F b m)) rfl (fun k hk=>?_) ?_ rfl
 ·have g1:(vq m (fun i=>F i (n+m)))[k]? =some (qn (F k (n+m))):=mN hk
  have g2:=w9 (b:=b) hk
  have hl:=bN n (gZ n m F b k)
  show(some (decide ((k:Int)<(m:Int)))).bind _=_
  by_cases UI:b k<n
  ·have s:=qZ (k:=n) (j:=b k) (h:=gZ n m F b k) (x:=F k (n+m)) UI
   have s2:vq n (fun i=>if i=b k then F k (n+m)else gZ n m F b k i)=vq n (gZ n m F b (k+1)):=ir (fun i _=>by
    show _=if b k<n∧i=b k then _ else _
    by_cases e:i=b k
    ·rw[if_pos e,if_pos ⟨UI,e⟩]
    ·rw[if_neg e,if_neg (fun q=>e q.2)])
   rw[s2]at s
   rw[←s]
   clear s s2
   generalize vq n (gZ n m F b k)=l at*
   generalize qn (F k (n+m))=q at*
   obtain⟨⟨_,_⟩,⟨_,_⟩⟩:=q
   exact bind_eq (dT (by omega))<|bf rfl<|bind_eq (aQ g1)<|bind_eq (aQ g2)<|bind_eq rfl<|bB<|bf (decide_eq_true (show((b k:Nat):Int)<(n:Int) by omega))<|bind_eq (aQ g2)<|bind_eq (cf (by omega))<|bind_eq (fE (by omega))<|bind_eq (congrArg some (bw (by omega))) rfl
  ·have s2:vq n (gZ n m F b k)=vq n (gZ n m F b (k+1)):=ir (fun i _=>by
    show _=if b k<n∧i=b k then _ else _
    rw[if_neg (fun q=>UI q.1)])
   rw[←s2]
   generalize qn (F k (n+m))=q at*
   obtain⟨⟨_,_⟩,⟨_,_⟩⟩:=q
   exact bind_eq (dT (by omega))<|bf rfl<|bind_eq (aQ g1)<|bind_eq (aQ g2)<|bind_eq rfl<|bB<|aO (decide_eq_false (show ¬((b k:Nat):Int)<(n:Int) by omega))<|bind_eq (congrArg some (bw (by omega))) rfl
 ·exact bind_eq (dF (by omega))<|aO rfl rfl
theorem Ez(h:sK L n m p O F b)(hL:L≤4000000000):eU (Js n m p O F b)=some (decide (∀i,i<m→0≤F i (n+m))):=by
 have hm:=h.hm
 unfold eU
 refine bind_eq (l7 n m p O F b)<|aO rfl<|bind_eq (LP h hL)<|bind_eq (congrArg some (show((vq m _).length:Int)=(m:Int) by rw[bN])) ?_
 refine bind_eq (vi (n:=m) (p:=fun i=>0≤F i (n+m)) (e:=false) (fun k hk=>?_) (bind_eq (dF (by omega))<|aO rfl rfl)) ?_
 ·have g1:(vq m (fun i=>F i (n+m)))[k]? =some (qn (F k (n+m))):=mN hk
  have sg:=((h.f k hk (n+m)).rep h.l1).sign (by omega)
  generalize qn (F k (n+m))=q at*
  obtain⟨⟨_,_⟩,⟨_,_⟩⟩:=q
  refine bind_eq (dT (by omega))<|bf rfl<|bind_eq (aQ g1)<|bind_eq sg<|bind_eq rfl ?_
  by_cases q:F k (n+m)<0
  ·rw[if_neg (by grind)]
   exact bf (decide_eq_true (ye.2 q)) rfl
  ·rw[if_pos (by grind)]
   exact aO (decide_eq_false (fun e=>q (ye.1 e)))<|bind_eq (congrArg some (bw (by omega))) rfl
 ·by_cases q:∀i,i<m→0≤F i (n+m)
  ·rw[if_pos q,decide_eq_true q]
  ·rw[if_neg q,decide_eq_false q]
theorem CT(h:sK L n m p O F b)(hL:(m+1)*(L+L+1)≤2000000000):fK (Js n m p O F b)=some (decide (∀c,c<n+m→0≤iM (q9 n m p O F b c) (fun _=>0) (p+n))):=by
 have hX:m*(L+L+1)+(L+L+1)≤2000000000:=by rw[←Nat.succ_mul];exact hL
 have hm:=h.hm
 have hn:=h.hn
 unfold fK
 refine bind_eq (l7 n m p O F b)<|aO rfl ?_
 have hw:(IntKind.i64.wrap (Tb.vars (Js n m p O F b)+((Tb.rows (Js n m p O F b)).length:Int))).toNat=n+m:=by
  show(IntKind.i64.wrap ((n:Int)+((mq m (fun _=>n+m+1) F).length:Int))).toNat=_
  rw[gU,cz (by omega) (by omega)];omega
 refine bind_eq (a:=if ∀c,c<n+m→0≤iM (q9 n m p O F b c) (fun _=>0) (p+n)then .inl ()else .inr false) ?_ ?_
 ·refine Eq.trans (congrArg (fun k=>mB _ k ()) hw) ?_
  refine CR (n:=n+m) (p:=fun c=>0≤iM (q9 n m p O F b c) (fun _=>0) (p+n)) (e:=false) (fun k hk=>?_)
  obtain⟨e,r⟩:=PM h hL hk
  have sg:=abd r (by omega)
  rw[bN]at sg
  refine bind_eq rfl<|bind_eq e<|bind_eq sg<|bind_eq rfl ?_
  by_cases q:0≤iM (q9 n m p O F b k) (fun _=>0) (p+n)
  ·rw[if_pos q];exact aO (decide_eq_false (by omega)) rfl
  ·rw[if_neg q];exact bf (decide_eq_true (by omega)) rfl
 ·by_cases q:∀c,c<n+m→0≤iM (q9 n m p O F b c) (fun _=>0) (p+n)
  ·rw[if_pos q,decide_eq_true q]
  ·rw[if_neg q,decide_eq_false q]
end tab
end Go.Proofs.YtningmnklfpfjaaGreat
namespace Go.Proofs.YtningmnklfpfjaaGreat
open Go.Fw
def mm(F:Nat→Nat→Rat)(r c i k:Nat):Rat:=if i=r then F r k/F r c else F i k-F i c*(F r k/F r c)
section tab
variable {L n m p:Nat}{O F:Nat→Nat→Rat}{b:Nat→Nat}
theorem PN(h:sK L n m p O F b){r c:Nat}(hr:r<m)(h0:F r c≠0){i:Nat}(hi:i<m)(k:Nat):FQ (4*L+1) (mm F r c i k):=by
 have e:=(h.f r hr k).div (h.f r hr c) h0
 unfold mm
 split
 ·exact e.mono (by omega)
 ·exact((h.f i hi k).sub ((h.f i hi c).mul e)).mono (by omega)
theorem Ue(h:sK L n m p O F b){r i:Nat}(hr:r<m)(c:Nat)(hi:i<m){k:Nat}(hk:n+m+1≤k):mm F r c i k=0:=by
 unfold mm
 rw[h.z r hr k hk,h.z i hi k hk]
 have e:(0:Rat)/F r c=0:=by rw[Rat.div_def,Rat.zero_mul]
 rw[e]
 split
 ·rfl
 ·grind
theorem Jt(h:sK L n m p O F b){r c:Nat}(hr:r<m)(hc:c<n+m)(h0:F r c≠0):sK (4*L+1) n m p O (mm F r c) (fun j=>if j=r then c else b j):=
 ⟨fun i hi k=>PN h hr h0 hi k,fun i hi k=>(h.o i hi k).mono (by omega),fun i hi k hk=>Ue h hr c hi hk,by omega,h.hn,h.hm,h.hp,fun j hj=>by
  show(if j=r then c else b j)<n+m
  split
  ·exact hc
  ·exact h.hb j hj⟩
theorem Sl(h:sK L n m p O F b)(hL:L≤100000000){r c:Nat}(hr:r<m)(hc:c<n+m+1)(h0:F r c≠0){o0:Bool}{o1:Int}{o2 rows:List (List Qr)}{o3:List Int}(hrow:rows[r]? =some (vq (n+m+1) (mm F r c r))){i:Nat}(hi:i<m)(hne:i≠r):
  jT o0 o1 o2 o3 rows (vq (n+m+1) (F i)) c r=some (vq (n+m+1) (mm F r c i)):=by
 have hm:=h.hm
 have hn:=h.hn
 have h1:=h.l1
 have g1:(vq (n+m+1) (F i))[c]? =some (qn (F i c)):=mN hc
 have rq:=(h.f i hi c).rep h1
 have sg:=rq.sign (by omega)
 have ng:=rq.neg (by omega)
 have PB:r<rows.length:=(List.getElem?_eq_some_iff.1 hrow).1
 have va:=Ua ng.2 (nO (n:=n+m+1) (h:=mm F r c r) (fun k _=>PN h hr h0 hr k) (fun k hk=>Ue h hr c hr hk) (show 1≤4*L+1 by omega)) (abg h hi) (by omega) (by rw[bN];omega) (by rw[bN];omega)
 have e0:vq (max (vq (n+m+1) (mm F r c r)).length (vq (n+m+1) (F i)).length) (fun k=>-F i c*mm F r c r k+F i k)=vq (n+m+1) (mm F r c i):=by
  rw[bN,bN,Nat.max_self]
  refine ir (fun k _=>?_)
  unfold mm
  rw[if_pos rfl,if_neg hne];grind
 rw[e0]at va
 replace va:=va.1
 have same:F i c=0→vq (n+m+1) (F i)=vq (n+m+1) (mm F r c i):=fun q=>ir (fun k _=>by
  unfold mm
  rw[if_neg hne,q];grind)
 have sgd:(some (decide (lX (F i c) 0=0)):Option Bool)=some (decide (F i c=0)):=by
  congr 1
  by_cases q:F i c=0
  ·rw[decide_eq_true (show lX (F i c) 0=0 from jY.2 q),decide_eq_true q]
  ·rw[decide_eq_false (show ¬lX (F i c) 0=0 from fun e=>q (jY.1 e)),decide_eq_false q]
 unfold jT
 replace ng:=ng.1
 generalize qn (F i c)=q at*
 generalize qn (-F i c)=q' at*
 obtain⟨⟨_,_⟩,⟨_,_⟩⟩:=q
 obtain⟨⟨_,_⟩,⟨_,_⟩⟩:=q'
 refine bind_eq (aQ g1)<|bind_eq sg<|bind_eq sgd ?_
 by_cases q:F i c=0
 ·rw[←same q]
  exact bf (decide_eq_true q) rfl
 ·exact aO (decide_eq_false q)<|bind_eq (aQ g1)<|bind_eq ng<|bind_eq (cf PB)<|bind_eq hrow<|bind_eq va rfl
theorem PO{w r:Nat}{G:Nat→Nat→Rat}{f:Nat→Rat}(hr:r<m):(mq m (fun _=>w) G).set r (vq w f)=mq m (fun _=>w) (fun i=>if i=r then f else G i):=by
 apply List.ext_getElem?
 intro j
 rw[List.getElem?_set,gU]
 by_cases hj:j<m
 ·rw[o8 hj]
  by_cases e:r=j
  ·subst e;rw[if_pos rfl,if_pos hr,o8 hr,if_pos rfl]
  ·rw[if_neg e,o8 hj,if_neg (fun q=>e q.symm)]
 ·rw[List.getElem?_eq_none (l:=mq m _ _) (by rw[gU];omega),List.getElem?_eq_none (l:=mq m _ _) (by rw[gU];omega)]
  by_cases e:r=j
  ·rw[if_pos e,if_neg (by omega)]
  ·rw[if_neg e]
theorem XW(h:sK L n m p O F b)(hL:L≤100000000){r c:Nat}(hr:r<m)(hc:c<n+m+1)(h0:F r c≠0){o0:Bool}{o1:Int}{o2:List (List Qr)}{o3:List Int}:
  cX o0 o1 o2 o3 (mq m (fun _=>n+m+1) F) r c=some (o2,o3,mq m (fun _=>n+m+1) (mm F r c)):=by
 have hm:=h.hm
 have hn:=h.hn
 have h1:=h.l1
 have g1:(mq m (fun _=>n+m+1) F)[r]? =some (vq (n+m+1) (F r)):=o8 hr
 have PB:r<(mq m (fun _=>n+m+1) F).length:=by rw[gU];exact hr
 have g2:(vq (n+m+1) (F r))[c]? =some (qn (F r c)):=mN hc
 have dv:=one_eq.2.div ((h.f r hr c).rep h1) (by omega) h0
 have sc:=(PG dv.2 (abg h hr) (by omega) (by rw[bN];omega)).1
 rw[bN]at sc
 have e0:vq (n+m+1) (fun k=>1/F r c*F r k)=vq (n+m+1) (mm F r c r):=ir (fun k _=>by
  unfold mm
  rw[if_pos rfl,Rat.div_def,Rat.div_def];grind)
 rw[e0]at sc
 have st:=fE (y:=vq (n+m+1) (mm F r c r)) PB
 rw[PO hr]at st
 have e1:=one_eq.1
 replace dv:=dv.1
 have loop:∀(o:List (List Qr)→Option ((List (List Qr))×(List Int)×(List (List Qr)))),o (mq m (fun _=>n+m+1) (mm F r c))=some (o2,o3,mq m (fun _=>n+m+1) (mm F r c))→((bT (fun(xg:Int×(List (List Qr)))=>match xg with|⟨pW,gb⟩=>(show Option ((Int×(List (List Qr)))⊕((List (List Qr))))from(some (decide ((pW:Int)<(m:Int)))).bind fun TI=>(bif TI then(pG gb pW).bind fun xe=>(gb[xe]?).bind fun EW=>(some (decide ((pW:Int)≠(r:Int)))).bind fun II=>cm (fun(uE:(List (List Qr)))=>(some (IntKind.i64.wrap (pW+1))).bind fun M6=>some (.inl (M6,uE))) fun WY=>(bif II then(jT o0 o1 o2 o3 gb EW c r).bind fun L1=>(pG gb pW).bind fun IL=>(stM gb IL L1).bind fun l17=>WY l17 else WY gb)else some (.inr gb)))) (0,mq m (fun _=>n+m+1) (fun i=>if i=r then mm F r c r else F i))).bind o)=some (o2,o3,mq m (fun _=>n+m+1) (mm F r c)):=fun o ho=>by
  refine aY (fun k=>((k:Int),mq m (fun _=>n+m+1) (fun i=>if i=r∨i<k then mm F r c i else F i))) m (mq m (fun _=>n+m+1) (mm F r c)) ?_ (fun k hk=>?_) ?_ ho
  ·refine Prod.ext rfl (yg (fun i hi=>⟨rfl,fun k _=>?_⟩))
   by_cases e:i=r
   ·subst e;simp
   ·simp[e]
  ·have gk:(mq m (fun _=>n+m+1) (fun i=>if i=r∨i<k then mm F r c i else F i))[k]? =some (vq (n+m+1) (if k=r then mm F r c k else F k)):=by
    rw[o8 hk]
    congr 2
    by_cases e:k=r
    ·rw[if_pos (.inl e),if_pos e]
    ·rw[if_neg (by omega),if_neg e]
   have hl:(mq m (fun _=>n+m+1) (fun i=>if i=r∨i<k then mm F r c i else F i)).length=m:=gU _ _ _
   have gr:(mq m (fun _=>n+m+1) (fun i=>if i=r∨i<k then mm F r c i else F i))[r]? =some (vq (n+m+1) (mm F r c r)):=by
    rw[o8 hr,if_pos (.inl rfl)]
   by_cases e:k=r
   ·have s:mq m (fun _=>n+m+1) (fun i=>if i=r∨i<k then mm F r c i else F i)=mq m (fun _=>n+m+1) (fun i=>if i=r∨i<k+1 then mm F r c i else F i):=yg (fun i _=>⟨rfl,fun _ _=>by
     by_cases q:i=r∨i<k
     ·rw[if_pos q,if_pos (by omega)]
     ·rw[if_neg q,if_neg (by omega)]⟩)
    show(some (decide ((k:Int)<(m:Int)))).bind _=_
    refine bind_eq (dT (by omega))<|bf rfl<|bind_eq (cf (by omega))<|bind_eq gk<|bind_eq (dF (by omega))<|bB<|aO rfl<|bind_eq (congrArg some (bw (by omega))) ?_
    rw[s]
   ·rw[if_neg e]at gk
    have rm:=Sl h hL hr hc h0 (o0:=o0) (o1:=o1) (o2:=o2) (o3:=o3) gr hk e
    have s:(mq m (fun _=>n+m+1) (fun i=>if i=r∨i<k then mm F r c i else F i)).set k (vq (n+m+1) (mm F r c k))=mq m (fun _=>n+m+1) (fun i=>if i=r∨i<k+1 then mm F r c i else F i):=by
     rw[PO hk]
     refine yg (fun i _=>⟨rfl,fun _ _=>?_⟩)
     by_cases q:i=k
     ·subst q;rw[if_pos rfl,if_pos (.inr (by omega))]
     ·rw[if_neg q]
      by_cases q2:i=r∨i<k
      ·rw[if_pos q2,if_pos (by omega)]
      ·rw[if_neg q2,if_neg (by omega)]
    rw[←s]
    generalize mq m (fun _=>n+m+1) (fun i=>if i=r∨i<k then mm F r c i else F i)=rows at*
    show(some (decide ((k:Int)<(m:Int)))).bind _=_
    exact bind_eq (dT (by omega))<|bf rfl<|bind_eq (cf (by omega))<|bind_eq gk<|bind_eq (dT (by omega))<|bB<|bf rfl<|bind_eq rm<|bind_eq (cf (by omega))<|bind_eq (fE (by omega))<|bind_eq (congrArg some (bw (by omega))) rfl
  ·have s:mq m (fun _=>n+m+1) (fun i=>if i=r∨i<m then mm F r c i else F i)=mq m (fun _=>n+m+1) (mm F r c):=yg (fun i hi=>⟨rfl,fun _ _=>by rw[if_pos (.inr hi)]⟩)
   show(some (decide ((m:Int)<(m:Int)))).bind _=_
   rw[s]
   exact bind_eq (dF (by omega))<|aO rfl rfl
 unfold cX
 have scM:nB (vq (n+m+1) (F r)) (qn (1/F r c))=some (vq (n+m+1) (mm F r c r)):=by
  unfold nB
  generalize qn (1/F r c)=q at*
  obtain⟨⟨_,_⟩,⟨_,_⟩⟩:=q
  exact bind_eq sc rfl
 generalize qn (1/F r c)=q3 at*
 generalize qn (F r c)=q2 at*
 generalize qn 1=q1 at*
 obtain⟨⟨_,_⟩,⟨_,_⟩⟩:=q1
 obtain⟨⟨_,_⟩,⟨_,_⟩⟩:=q2
 obtain⟨⟨_,_⟩,⟨_,_⟩⟩:=q3
 refine bind_eq e1<|bind_eq (cf PB)<|bind_eq g1<|bind_eq (aQ g2)<|bind_eq dv<|bind_eq (cf PB)<|bind_eq g1<|bind_eq scM<|bind_eq (cf PB)<|bind_eq st<|bind_eq (congrArg some (by rw[gU])) ?_
 refine Eq.trans (congrArg (fun G=>(bT _ ((0:Int),mq m (fun _=>n+m+1) G)).bind _) ?_) (loop _ rfl)
 funext i
 by_cases e:i=r
 ·rw[if_pos e]
 ·rw[if_neg e]
theorem Ju(h:sK L n m p O F b)(hL:L≤100000000){r c:Nat}(hr:r<m)(hc:c<n+m)(hb:∀j,j<m→b j≠c)(h0:F r c≠0):
  aM true n (mq p (fun _=>n) O) (bq m b) (mq m (fun _=>n+m+1) F) r c=some (0,mq p (fun _=>n) O,bq m (fun j=>if j=r then c else b j),mq m (fun _=>n+m+1) (mm F r c)):=by
 have hm:=h.hm
 have hn:=h.hn
 have sv:=XW h hL hr (show c<n+m+1 by omega) h0 (o0:=true) (o1:=(n:Int)) (o2:=mq p (fun _=>n) O) (o3:=bq m b)
 have g1:(mq m (fun _=>n+m+1) F)[r]? =some (vq (n+m+1) (F r)):=o8 hr
 have g2:(vq (n+m+1) (F r))[c]? =some (qn (F r c)):=mN (by omega)
 have sg:=((h.f r hr c).rep h.l1).sign (by omega)
 have PB:r<(mq m (fun _=>n+m+1) F).length:=by rw[gU];exact hr
 have Qv:=w8 m b
 have bs:=XU (b:=b) (c:=c) hr
 have bg:∀j,j<m→(bq m b)[j]? =some ((b j:Nat):Int):=fun j hj=>w9 hj
 have wd:eR (⟨true,(n:Int),mq p (fun _=>n) O,bq m b,mq m (fun _=>n+m+1) F⟩:Tb)=some ((n+m:Nat):Int):=Gf hn hm
 have ms:cg (⟨true,(n:Int),mq p (fun _=>n) O,bq m b,mq m (fun _=>n+m+1) F⟩:Tb)=some false:=l7 n m p O F b
 have rl:=gU m (fun _=>n+m+1) F
 unfold aM
 rw[←bs]
 generalize bq m b=B at*
 generalize mq m (fun _=>n+m+1) F=rows at*
 refine bind_eq ms<|aO rfl<|bB<|bind_eq (dF (by omega))<|bind_eq (a:=false) (aO rfl<|bind_eq rfl<|bind_eq (dF (by omega)) rfl)<|bind_eq (a:=false) (aO rfl<|bind_eq (dF (by omega)) rfl)<|bind_eq (a:=false) (aO rfl<|bind_eq wd<|bind_eq (dF (by omega)) rfl)<|aO rfl<|bind_eq rfl ?_
 refine aY (fun k=>(k:Int)) m (.inl ()) rfl (fun k hk=>?_) ?_ ?_
 ·exact bind_eq (dT (by omega))<|bf rfl<|bind_eq (cf (by omega))<|bind_eq (bg k hk)<|bind_eq (dF (by have:=hb k hk;omega))<|aO rfl<|bind_eq (congrArg some (bw (by omega))) rfl
 ·exact bind_eq (dF (by omega))<|aO rfl rfl
 ·generalize qn (F r c)=q at*
  obtain⟨⟨_,_⟩,⟨_,_⟩⟩:=q
  exact bind_eq (cf PB)<|bind_eq g1<|bind_eq (aQ g2)<|bind_eq sg<|bind_eq (dF (fun e=>h0 (jY.1 e)))<|aO rfl<|bind_eq sv<|bind_eq (cf (by omega))<|bind_eq (fE (by omega)) rfl
end tab
def nP(n m:Nat)(R:Nat→Nat→Rat)(g:Nat→Rat)(i k:Nat):Rat:=if k<n then R i k else if k=n+i then 1 else if k=n+m then g i else 0
theorem KG(k w:Nat)(G:Nat→Nat→Rat):mq (k+1) (fun _=>w) G=mq k (fun _=>w) G++[vq w (G k)]:=by simp[mq,List.range_succ]
section new
variable {L M K n:Nat}{ob rw:List (List Qr)}{bd:List Qr}{O R:Nat→Nat→Rat}{g:Nat→Rat}
theorem PR{m i:Nat}(hi:i<m):(fun j=>if j=n+m then g i else if j=n+i then(1:Rat)else if j<n then R i j else 0)=nP n m R g i:=by
 funext j
 unfold nP
 by_cases h1:j<n
 ·rw[if_neg (by omega),if_neg (by omega),if_pos h1,if_pos h1]
 ·rw[if_neg h1,if_neg h1]
  by_cases h2:j=n+i
  ·rw[if_neg (by omega),if_pos h2,if_pos h2]
  ·rw[if_neg h2,if_neg h2]
theorem ag1(ho:sJ M ob O)(hr:sJ L rw R)(hb:cY K bd g)(hM:M≤4000000000)(hL:L≤4000000000)(hK:K≤4000000000)(hv:Gp n ob rw bd):
  dN ⟨(n:Int),ob,rw,bd⟩=some (true,(n:Int),mq ob.length (fun _=>n) O,bq rw.length (fun j=>n+j),mq rw.length (fun _=>n+rw.length+1) (nP n rw.length R g)):=by
 obtain⟨v1,v2,v3,v4,v5,v6,v7,v8⟩:=hv
 have n64:n≤64:=by omega
 have ag2:∀v∈ob,v.length≤n:=qY.1 (by omega)
 unfold dN
 refine bind_eq rfl ?_
 refine aY (fun k=>((k:Int),mq k (fun _=>n) O)) ob.length (mq ob.length (fun _=>n) O) rfl (fun k hk=>?_) ?_ ?_
 ·have g1:=dW (d:=[]) hk
  have rs:=Sc (ho.row k) (by omega) (by have:=ag2 _ (List.mem_of_getElem? g1);omega) (n:Int)
  rw[show(min (n:Int) 65536).toNat=n by omega]at rs
  refine bind_eq (dT (by omega))<|bf rfl<|bind_eq (aQ g1)<|bind_eq rs<|bind_eq (DF (by decide) (by rw[gU];omega))<|bind_eq (congrArg some (bw (by omega))) ?_
  rw[KG]
 ·exact bind_eq (dF (by omega))<|aO rfl rfl
 refine bind_eq rfl ?_
 refine aY (fun k=>((k:Int),bq k (fun j=>n+j),mq k (fun _=>n+rw.length+1) (nP n rw.length R g))) rw.length (bq rw.length (fun j=>n+j),mq rw.length (fun _=>n+rw.length+1) (nP n rw.length R g)) rfl (fun i hi=>?_) (bind_eq (dF (by omega))<|aO rfl rfl) rfl
 obtain⟨q,hq,rq⟩:=hb.get (i:=i) (by omega)
 have cn:=(rq.canon (by omega)).1
 have e1:=one_eq.1
 have wl:IntKind.i64.wrap ((n:Int)+(rw.length:Int))=((n+rw.length:Nat):Int):=by rw[cz (by omega) (by omega)];omega
 have wl2:IntKind.i64.wrap (((n+rw.length:Nat):Int)+1)=((n+rw.length+1:Nat):Int):=bw (by omega)
 have wi:IntKind.i64.wrap ((n:Int)+(i:Int))=((n+i:Nat):Int):=by rw[cz (by omega) (by omega)];omega
 refine bind_eq (dT (by omega))<|bf rfl<|bind_eq rfl<|bind_eq (congrArg some wl)<|bind_eq (congrArg some wl2)<|bind_eq (LN (n+rw.length+1) (by omega)) ?_
 rw[AO]
 refine aY (fun k=>((k:Int),vq (n+rw.length+1) (fun j=>if j<k then R i j else 0))) n (vq (n+rw.length+1) (fun j=>if j<n then R i j else 0)) (by simp) (fun k hk=>?_) (bind_eq (dF (by omega))<|aO rfl rfl) ?_
 ·have at_:=XS hr (by omega) i k
  have s:=qZ (k:=n+rw.length+1) (j:=k) (h:=fun j=>if j<k then R i j else 0) (x:=R i k) (by omega)
  have s2:vq (n+rw.length+1) (fun j=>if j=k then R i k else if j<k then R i j else 0)=vq (n+rw.length+1) (fun j=>if j<k+1 then R i j else 0):=ir (fun j _=>by
   by_cases e:j=k
   ·subst e;simp
   ·rw[if_neg e]
    by_cases e2:j<k
    ·rw[if_pos e2,if_pos (by omega)]
    ·rw[if_neg e2,if_neg (by omega)])
  rw[s2]at s
  have hl:=bN (n+rw.length+1) (fun j=>if j<k then R i j else 0)
  rw[←s]
  generalize vq (n+rw.length+1) (fun j=>if j<k then R i j else 0)=l at*
  clear s s2
  generalize qn (R i k)=q at*
  obtain⟨⟨_,_⟩,⟨_,_⟩⟩:=q
  exact bind_eq (dT (by omega))<|bf rfl<|bind_eq at_<|bind_eq (cf (by omega))<|bind_eq (fE (by omega))<|bind_eq (congrArg some (bw (by omega))) rfl
 ·have s1:=qZ (k:=n+rw.length+1) (j:=n+i) (h:=fun j=>if j<n then R i j else 0) (x:=1) (by omega)
  have s2:=qZ (k:=n+rw.length+1) (j:=n+rw.length) (h:=fun j=>if j=n+i then 1 else if j<n then R i j else 0) (x:=g i) (by omega)
  rw[PR hi]at s2
  have Ur:=bN (n+rw.length+1) (fun j=>if j<n then R i j else 0)
  have hl2:=bN (n+rw.length+1) (fun j=>if j=n+i then 1 else if j<n then R i j else 0)
  have b1:=w8 i (fun j=>n+j)
  have b2:=Sj i (fun j=>n+j)
  have m1:=gU i (fun _=>n+rw.length+1) (nP n rw.length R g)
  have m2:=KG i (n+rw.length+1) (nP n rw.length R g)
  have st1:=fE (y:=qn 1) (show n+i<(vq (n+rw.length+1) (fun j=>if j<n then R i j else 0)).length by omega)
  have st2:=fE (y:=qn (g i)) (show n+rw.length<(vq (n+rw.length+1) (fun j=>if j=n+i then 1 else if j<n then R i j else 0)).length by omega)
  rw[s1]at st1
  rw[s2]at st2
  generalize vq (n+rw.length+1) (fun j=>if j<n then R i j else 0)=l1 at*
  generalize vq (n+rw.length+1) (fun j=>if j=n+i then 1 else if j<n then R i j else 0)=l2 at*
  generalize vq (n+rw.length+1) (nP n rw.length R g i)=l3 at*
  generalize qn (g i)=q' at*
  generalize qn 1=q1 at*
  obtain⟨⟨_,_⟩,⟨_,_⟩⟩:=q
  obtain⟨⟨_,_⟩,⟨_,_⟩⟩:=q'
  obtain⟨⟨_,_⟩,⟨_,_⟩⟩:=q1
  refine bind_eq (congrArg some wi)<|bind_eq e1<|bind_eq (cf (by omega))<|bind_eq st1<|bind_eq rfl<|bind_eq (congrArg some (show IntKind.i64.wrap ((l2.length:Int)-1)=((n+rw.length:Nat):Int) by rw[hl2,cz (by omega) (by omega)];omega))<|bind_eq (aQ hq)<|bind_eq cn<|bind_eq (cf (by omega))<|bind_eq st2<|bind_eq (DF (by decide) (by omega))<|bind_eq (congrArg some wi)<|bind_eq (DF (by decide) (by omega))<|bind_eq (congrArg some (bw (by omega))) ?_
  rw[b2,m2]
theorem KH(ho:sJ L ob O)(hr:sJ L rw R)(hb:cY L bd g)(hL:2≤L)(hv:Gp n ob rw bd):sK L n rw.length ob.length O (nP n rw.length R g) (fun j=>n+j):=by
 obtain⟨v1,v2,v3,v4,v5,v6,v7,v8⟩:=hv
 refine⟨fun i hi k=>?_,fun i hi k=>(ho.row i).fq k,fun i hi k hk=>?_,by omega,by omega,by omega,by omega,fun j hj=>by show n+j<_;omega⟩
 ·unfold nP
  split
  ·exact(hr.row i).fq k
  ·split
   ·exact one_eq.2.fq.mono hL
   ·split
    ·exact hb.fq i
    ·exact vh (by omega)
 ·unfold nP
  rw[if_neg (by omega),if_neg (by omega),if_neg (by omega)]
theorem abh(ho:sJ M ob O)(hr:sJ L rw R)(hb:cY K bd g)(hM:M≤4000000000)(hL:L≤4000000000)(hK:K≤4000000000)(hv:Gp n ob rw bd):
  gP ⟨(n:Int),ob,rw,bd⟩=some (true,(n:Int),mq ob.length (fun _=>n) O,bq rw.length (fun j=>n+j),mq rw.length (fun _=>n+rw.length+1) (nP n rw.length R g)):=by
 have v:=yj (n:=(n:Int)) (ob:=ob) (rw:=rw) (bd:=bd) (by obtain⟨_,_,_,h,_⟩:=hv;omega) (by obtain⟨_,_,_,_,h,_⟩:=hv;omega)
 rw[decide_eq_true hv]at v
 unfold gP
 exact bind_eq v<|bind_eq rfl<|aO rfl<|bind_eq (ag1 ho hr hb hM hL hK hv) rfl
end new
end Go.Proofs.YtningmnklfpfjaaGreat
namespace Go.Proofs.YtningmnklfpfjaaGreat
open Go.Fw
theorem xb(h:Nat→Rat)(n:Nat):∀m,bn h (n+m)=bn h n+bn (fun j=>h (n+j)) m
 |0=>by show bn h n=bn h n+0;grind
 |m+1=>by
  show bn h (n+m)+h (n+m)=bn h n+(bn (fun j=>h (n+j)) m+h (n+m))
  rw[xb h n m];grind
theorem zk(h:Nat→Nat→Rat)(m:Nat):∀n,bn (fun i=>bn (fun j=>h i j) m) n=bn (fun j=>bn (fun i=>h i j) n) m
 |0=>by
  show(0:Rat)=bn (fun j=>(0:Rat)) m
  rw[kU]
 |n+1=>by
  show bn (fun i=>bn (fun j=>h i j) m) n+bn (fun j=>h n j) m=bn (fun j=>bn (fun i=>h i j) n+h n j) m
  rw[zk h m n,Ih]
def Io(n m:Nat)(F:Nat→Nat→Rat)(z:Nat→Rat):Prop:=∀i,i<m→bn (fun k=>F i k*z k) (n+m)=F i (n+m)
def Uc(m:Nat)(F:Nat→Nat→Rat)(b:Nat→Nat):Prop:=∀i j,i<m→j<m→F i (b j)=if i=j then 1 else 0
section mm
variable {n m r c:Nat}{F:Nat→Nat→Rat}{b:Nat→Nat}{z:Nat→Rat}
theorem EA(N:Nat):bn (fun k=>mm F r c r k*z k) N=(F r c)⁻¹*bn (fun k=>F r k*z k) N:=by
 rw[←o5]
 refine bX (fun k _=>?_)
 unfold mm
 rw[if_pos rfl,Rat.div_def];grind
theorem EB{i:Nat}(hne:i≠r)(N:Nat):bn (fun k=>mm F r c i k*z k) N=bn (fun k=>F i k*z k) N-F i c*((F r c)⁻¹*bn (fun k=>F r k*z k) N):=by
 rw[←o5,←o5,←CP]
 refine bX (fun k _=>?_)
 unfold mm
 rw[if_neg hne,Rat.div_def];grind
theorem Sn(hr:r<m)(h0:F r c≠0):Io n m (mm F r c) z↔Io n m F z:=by
 have hi:F r c*(F r c)⁻¹=1:=Rat.mul_inv_cancel _ h0
 have pr:mm F r c r (n+m)=(F r c)⁻¹*F r (n+m):=by unfold mm;rw[if_pos rfl,Rat.div_def];grind
 have pi:∀i,i≠r→mm F r c i (n+m)=F i (n+m)-F i c*((F r c)⁻¹*F r (n+m)):=fun i h=>by unfold mm;rw[if_neg h,Rat.div_def];grind
 constructor
 ·intro h
  have e:=h r hr
  rw[EA,pr]at e
  have er:bn (fun k=>F r k*z k) (n+m)=F r (n+m):=by
   have:=congrArg (fun x=>F r c*x) e
   simp only[←Rat.mul_assoc,hi,Rat.one_mul]at this
   exact this
  intro i hi'
  by_cases q:i=r
  ·subst q;exact er
  ·have e2:=h i hi'
   rw[EB q,pi i q,er]at e2
   grind
 ·intro h i hi'
  by_cases q:i=r
  ·subst q;rw[EA,pr,h _ hi']
  ·rw[EB q,pi i q,h i hi',h r hr]
theorem PS(hr:r<m)(h0:F r c≠0)(hu:Uc m F b):Uc m (mm F r c) (fun j=>if j=r then c else b j):=by
 have hi:F r c*(F r c)⁻¹=1:=Rat.mul_inv_cancel _ h0
 intro i j hi' hj
 show mm F r c i (if j=r then c else b j)=_
 by_cases e:j=r
 ·subst e
  rw[if_pos rfl]
  unfold mm
  by_cases q:i=j
  ·subst q;rw[if_pos rfl,if_pos rfl,Rat.div_def];exact hi
  ·rw[if_neg q,if_neg q,Rat.div_def,hi];grind
 ·rw[if_neg e]
  have z0:F r (b j)=0:=by rw[hu r j hr hj,if_neg (fun q=>e q.symm)]
  unfold mm
  rw[z0]
  by_cases q:i=r
  ·subst q;rw[if_pos rfl,if_neg (fun q=>e q.symm),Rat.div_def];grind
  ·rw[if_neg q,hu i j hi' hj,Rat.div_def];grind
theorem PT(hu:Uc m F b){i j:Nat}(hi:i<m)(hj:j<m)(e:b i=b j):i=j:=by
 by_cases q:i=j
 ·exact q
 ·have h1:=hu i i hi hi
  have h2:=hu i j hi hj
  rw[if_pos rfl]at h1
  rw[if_neg q,←e,h1]at h2
  exact absurd h2 (by decide)
end mm
theorem sK.mono{L M n m p:Nat}{O F:Nat→Nat→Rat}{b:Nat→Nat}(h:sK L n m p O F b)(hl:L≤M):sK M n m p O F b:=
 ⟨fun i hi k=>(h.f i hi k).mono hl,fun i hi k=>(h.o i hi k).mono hl,h.z,Nat.le_trans h.l1 hl,h.hn,h.hm,h.hp,h.hb⟩
theorem Jv{L n m p:Nat}{O F:Nat→Nat→Rat}{b:Nat→Nat}(h:sK L n m p O F b)(hL:L≤100000000)(hu:Uc m F b)(r c:Int):∃e F' b',
  aM true n (mq p (fun _=>n) O) (bq m b) (mq m (fun _=>n+m+1) F) r c=some (e,mq p (fun _=>n) O,bq m b',mq m (fun _=>n+m+1) F')∧sK (4*L+1) n m p O F' b'∧Uc m F' b'∧∀z,Io n m F' z↔Io n m F z:=by
 have hm:=h.hm
 have hn:=h.hn
 have same:∀e,aM true n (mq p (fun _=>n) O) (bq m b) (mq m (fun _=>n+m+1) F) r c=some (e,mq p (fun _=>n) O,bq m b,mq m (fun _=>n+m+1) F)→∃e F' b',aM true n (mq p (fun _=>n) O) (bq m b) (mq m (fun _=>n+m+1) F) r c=some (e,mq p (fun _=>n) O,bq m b',mq m (fun _=>n+m+1) F')∧sK (4*L+1) n m p O F' b'∧Uc m F' b'∧∀z,Io n m F' z↔Io n m F z:=
  fun e he=>⟨e,F,b,he,h.mono (by omega),hu,fun _=>Iff.rfl⟩
 have wd:eR (⟨true,(n:Int),mq p (fun _=>n) O,bq m b,mq m (fun _=>n+m+1) F⟩:Tb)=some ((n+m:Nat):Int):=Gf hn hm
 have ms:cg (⟨true,(n:Int),mq p (fun _=>n) O,bq m b,mq m (fun _=>n+m+1) F⟩:Tb)=some false:=l7 n m p O F b
 have rl:=gU m (fun _=>n+m+1) F
 by_cases h1:r<0
 ·refine same 1 ?_
  unfold aM
  exact bind_eq ms<|aO rfl<|bB<|bind_eq (dT h1)<|bind_eq (a:=true) (bf rfl rfl)<|bind_eq (a:=true) (bf rfl rfl)<|bind_eq (a:=true) (bf rfl rfl)<|bf rfl rfl
 by_cases h2:(m:Int)≤r
 ·refine same 1 ?_
  unfold aM
  exact bind_eq ms<|aO rfl<|bB<|bind_eq (dF h1)<|bind_eq (a:=true) (aO rfl<|bind_eq rfl<|bind_eq (dT (by omega)) rfl)<|bind_eq (a:=true) (bf rfl rfl)<|bind_eq (a:=true) (bf rfl rfl)<|bf rfl rfl
 by_cases h3:c<0
 ·refine same 1 ?_
  unfold aM
  exact bind_eq ms<|aO rfl<|bB<|bind_eq (dF h1)<|bind_eq (a:=false) (aO rfl<|bind_eq rfl<|bind_eq (dF (by omega)) rfl)<|bind_eq (a:=true) (aO rfl<|bind_eq (dT h3) rfl)<|bind_eq (a:=true) (bf rfl rfl)<|bf rfl rfl
 by_cases h4:((n+m:Nat):Int)≤c
 ·refine same 1 ?_
  unfold aM
  exact bind_eq ms<|aO rfl<|bB<|bind_eq (dF h1)<|bind_eq (a:=false) (aO rfl<|bind_eq rfl<|bind_eq (dF (by omega)) rfl)<|bind_eq (a:=false) (aO rfl<|bind_eq (dF h3) rfl)<|bind_eq (a:=true) (aO rfl<|bind_eq wd<|bind_eq (dT h4) rfl)<|bf rfl rfl
 obtain⟨r,rfl⟩:∃k:Nat,r=(k:Int):=⟨r.toNat,by omega⟩
 obtain⟨c,rfl⟩:∃k:Nat,c=(k:Int):=⟨c.toNat,by omega⟩
 have hr:r<m:=by omega
 have hc:c<n+m:=by omega
 have g1:(mq m (fun _=>n+m+1) F)[r]? =some (vq (n+m+1) (F r)):=o8 hr
 have g2:(vq (n+m+1) (F r))[c]? =some (qn (F r c)):=mN (by omega)
 have sg:=((h.f r hr c).rep h.l1).sign (by omega)
 have PB:r<(mq m (fun _=>n+m+1) F).length:=by rw[gU];exact hr
 have Qv:=w8 m b
 have bg:∀j,j<m→(bq m b)[j]? =some ((b j:Nat):Int):=fun j hj=>w9 hj
 by_cases h5:∀j,j<m→b j≠c
 ·by_cases h6:F r c=0
  ·refine same 7 ?_
   unfold aM
   generalize bq m b=B at*
   generalize mq m (fun _=>n+m+1) F=rows at*
   refine bind_eq ms<|aO rfl<|bB<|bind_eq (dF (by omega))<|bind_eq (a:=false) (aO rfl<|bind_eq rfl<|bind_eq (dF (by omega)) rfl)<|bind_eq (a:=false) (aO rfl<|bind_eq (dF (by omega)) rfl)<|bind_eq (a:=false) (aO rfl<|bind_eq wd<|bind_eq (dF (by omega)) rfl)<|aO rfl<|bind_eq rfl ?_
   refine aY (fun k=>(k:Int)) m (.inl ()) rfl (fun k hk=>?_) ?_ ?_
   ·exact bind_eq (dT (by omega))<|bf rfl<|bind_eq (cf (by omega))<|bind_eq (bg k hk)<|bind_eq (dF (by have:=h5 k hk;omega))<|aO rfl<|bind_eq (congrArg some (bw (by omega))) rfl
   ·exact bind_eq (dF (by omega))<|aO rfl rfl
   ·generalize qn (F r c)=q at*
    obtain⟨⟨_,_⟩,⟨_,_⟩⟩:=q
    exact bind_eq (cf PB)<|bind_eq g1<|bind_eq (aQ g2)<|bind_eq sg<|bind_eq (dT (jY.2 h6))<|bf rfl rfl
  ·exact⟨0,_,_,Ju h hL hr hc h5 h6,Jt h hr hc h6,PS hr h6 hu,fun z=>Sn hr h6⟩
 ·refine same 1 ?_
  unfold aM
  generalize bq m b=B at*
  generalize mq m (fun _=>n+m+1) F=rows at*
  refine bind_eq ms<|aO rfl<|bB<|bind_eq (dF (by omega))<|bind_eq (a:=false) (aO rfl<|bind_eq rfl<|bind_eq (dF (by omega)) rfl)<|bind_eq (a:=false) (aO rfl<|bind_eq (dF (by omega)) rfl)<|bind_eq (a:=false) (aO rfl<|bind_eq wd<|bind_eq (dF (by omega)) rfl)<|aO rfl<|bind_eq rfl ?_
  refine bind_eq (vi (n:=m) (p:=fun j=>b j≠c) (e:=(1,mq p (fun _=>n) O,B,rows)) (fun k hk=>?_) (bind_eq (dF (by omega))<|aO rfl rfl)) ?_
  ·refine bind_eq (dT (by omega))<|bf rfl<|bind_eq (cf (by omega))<|bind_eq (bg k hk)<|bind_eq rfl ?_
   by_cases q:b k=c
   ·rw[if_neg (fun e=>e q)];exact bf (decide_eq_true (show((b k:Nat):Int)=(c:Int) by omega)) rfl
   ·rw[if_pos q];exact aO (decide_eq_false (show ¬((b k:Nat):Int)=(c:Int) by omega))<|bind_eq (congrArg some (bw (by omega))) rfl
  ·rw[if_neg h5]
end Go.Proofs.YtningmnklfpfjaaGreat
namespace Go.Proofs.YtningmnklfpfjaaGreat
open Go.Fw
theorem PU(k:List Int):Gl (List.replicate k.length 0) k=k:=by unfold Gl;simp
theorem XX{n m p:Nat}{O F:Nat→Nat→Rat}{b:Nat→Nat}(hm:m≤128):jM (Js n m p O F b)=some (bq m b):=by
 unfold jM
 refine bind_eq (l7 n m p O F b)<|aO rfl<|bind_eq rfl<|bind_eq (sD (n:=(bq m b).length) (by decide) (by rw[w8];omega)) ?_
 show some (Gl (List.replicate (bq m b).length 0) (bq m b))=_
 rw[PU]
theorem LQ(l:List Int)(h:l.length≤1000000):lQ l l=some true:=by
 unfold lQ
 refine bind_eq rfl<|bind_eq rfl<|bind_eq (dF (by simp))<|aO rfl ?_
 refine aY (fun k=>(k:Int)) l.length (.inl ()) rfl (fun k hk=>?_) (bind_eq rfl<|bind_eq (dF (by omega))<|aO rfl rfl) rfl
 have g:=List.getElem?_eq_getElem hk
 exact bind_eq rfl<|bind_eq (dT (by omega))<|bf rfl<|bind_eq (aQ g)<|bind_eq (aQ g)<|bind_eq (dF (by simp))<|aO rfl<|bind_eq (congrArg some (bw (by omega))) rfl
def So(i j:Nat):Rat:=(((([[3,5]]:List (List Int)).getD i []).getD j 0:Int):Rat)
def exR(i j:Nat):Rat:=(((([[1,0],[0,2],[3,2]]:List (List Int)).getD i []).getD j 0:Int):Rat)
def exG(i:Nat):Rat:=((([4,12,18]:List Int).getD i 0:Int):Rat)
def LR:Nat→Nat→Rat:=nP 2 3 exR exG
def PW:Nat→Nat→Rat:=mm LR 1 1
def XY:Nat→Nat→Rat:=mm PW 2 0
def PX(j:Nat):Nat:=2+j
def Sq(j:Nat):Nat:=if j=1 then 1 else PX j
def XZ(j:Nat):Nat:=if j=2 then 0 else Sq j
theorem tB{L n:Nat}{f:Nat→Rat}{v:List Qr}{k:Nat→Rat}(h:∀i,i<n→FQ L (f i))(h1:1≤L)(hL:L≤1000000000)(hv:cY 2 v k)(hn:v.length=n)(e:∀i,i<n→f i=k i):cL (vq n f) v=some true:=by
 have:=veq (KC h h1) hv (by omega)
 rw[this,bN,hn,Nat.max_self,decide_eq_true (fun i hi=>by rw[yh hi];exact e i hi)]
theorem ER{L n:Nat}{f:Nat→Rat}{v:List Qr}{k:Nat→Rat}(h:∀i,i<n→FQ L (f i))(h1:1≤L)(hL:L≤1000000000)(hv:cY 2 v k)(hn:v.length=n):cL (vq n f) v=some (decide (∀i,i<n→f i=k i)):=by
 have:=veq (KC h h1) hv (by omega)
 rw[this,bN,hn,Nat.max_self]
 congr 1
 exact decide_eq_decide.2 ⟨fun q i hi=>by have:=q i hi;rw[yh hi]at this;exact this,fun q i hi=>by rw[yh hi];exact q i hi⟩
set_option maxRecDepth 100000 in
theorem Jw:dU=some true:=by
 obtain⟨eo,ro⟩:=Ud (l:=[[3,5]]) (by decide) (by decide)
 obtain⟨er,rr⟩:=Ud (l:=[[1,0],[0,2],[3,2]]) (by decide) (by decide)
 obtain⟨eb,rb⟩:=yf (l:=[4,12,18]) (by decide) (by decide)
 obtain⟨i1,q1⟩:=yf (l:=[-3,1,0]) (by decide) (by decide)
 obtain⟨i2,q2⟩:=yf (l:=[4,6,6]) (by decide) (by decide)
 obtain⟨i3,q3⟩:=yf (l:=[30,0,-6]) (by decide) (by decide)
 obtain⟨i4,q4⟩:=yf (l:=[2,6,2]) (by decide) (by decide)
 obtain⟨i5,q5⟩:=yf (l:=[2,6]) (by decide) (by decide)
 obtain⟨i6,q6⟩:=yf (l:=[36,-2,-6]) (by decide) (by decide)
 have l0:(vq [(4:Int),12,18].length (fun i=>(([(4:Int),12,18].getD i 0:Int):Rat))).length=3:=bN _ _
 have l1:(vq [(-3:Int),1,0].length (fun i=>(([(-3:Int),1,0].getD i 0:Int):Rat))).length=3:=bN _ _
 have l2:(vq [(4:Int),6,6].length (fun i=>(([(4:Int),6,6].getD i 0:Int):Rat))).length=3:=bN _ _
 have l3:(vq [(30:Int),0,-6].length (fun i=>(([(30:Int),0,-6].getD i 0:Int):Rat))).length=3:=bN _ _
 have l4:(vq [(2:Int),6,2].length (fun i=>(([(2:Int),6,2].getD i 0:Int):Rat))).length=3:=bN _ _
 have l5:(vq [(2:Int),6].length (fun i=>(([(2:Int),6].getD i 0:Int):Rat))).length=2:=bN _ _
 have l6:(vq [(36:Int),-2,-6].length (fun i=>(([(36:Int),-2,-6].getD i 0:Int):Rat))).length=3:=bN _ _
 generalize hmo:mq [[(3:Int),5]].length _ _=mo at eo ro
 generalize hmr:mq [[(1:Int),0],[0,2],[3,2]].length _ _=mr at er rr
 generalize vq [(4:Int),12,18].length _=vb at eb rb l0
 generalize vq [(-3:Int),1,0].length _=v1 at i1 q1 l1
 generalize vq [(4:Int),6,6].length _=v2 at i2 q2 l2
 generalize vq [(30:Int),0,-6].length _=v3 at i3 q3 l3
 generalize vq [(2:Int),6,2].length _=v4 at i4 q4 l4
 generalize vq [(2:Int),6].length _=v5 at i5 q5 l5
 generalize vq [(36:Int),-2,-6].length _=v6 at i6 q6 l6
 have lo:mo.length=1:=by rw[←hmo,gU];rfl
 have lr:mr.length=3:=by rw[←hmr,gU];rfl
 have wo:∀v∈mo,v.length≤2:=by rw[←hmo];decide+kernel
 have wr:∀v∈mr,v.length≤2:=by rw[←hmr];decide+kernel
 have co:qX mo≤2:=qY.2 wo
 have cr:qX mr≤2:=qY.2 wr
 have hv:Gp ((2:Nat):Int) mo mr vb:=⟨by decide,by decide,by omega,by omega,by omega,by omega,by omega,by omega⟩
 have eN:=abh (n:=2) ro rr rb (by decide) (by decide) (by decide) hv
 have k0:=KH (n:=2) ro rr rb (by decide) hv
 rw[lo,lr]at eN k0
 have k0:sK 2 2 3 1 So LR PX:=k0
 have eN:gP ⟨2,mo,mr,vb⟩=some (true,2,mq 1 (fun _=>2) So,bq 3 PX,mq 3 (fun _=>6) LR):=eN
 have p1:LR 1 1≠0:=by decide+kernel
 have p2:PW 2 0≠0:=by decide+kernel
 have k1:sK 9 2 3 1 So PW Sq:=Jt k0 (r:=1) (c:=1) (by decide) (by decide) p1
 have k2:sK 37 2 3 1 So XY XZ:=Jt k1 (r:=2) (c:=0) (by decide) (by decide) p2
 have t1:aM true 2 (mq 1 (fun _=>2) So) (bq 3 PX) (mq 3 (fun _=>6) LR) 1 1=some (0,mq 1 (fun _=>2) So,bq 3 Sq,mq 3 (fun _=>6) PW):=Ju k0 (by decide) (r:=1) (c:=1) (by decide) (by decide) (by decide+kernel) p1
 have t2:aM true 2 (mq 1 (fun _=>2) So) (bq 3 Sq) (mq 3 (fun _=>6) PW) 2 0=some (0,mq 1 (fun _=>2) So,bq 3 XZ,mq 3 (fun _=>6) XY):=Ju k1 (by decide) (r:=2) (c:=0) (by decide) (by decide) (by decide+kernel) p2
 have a0:jM (Js 2 3 1 So LR PX)=some [2,3,4]:=XX (by decide)
 have a0':=LQ [2,3,4] (by decide)
 have a1:=LP k0 (by decide)
 have b1:=tB (fun i hi=>k0.f i hi 5) (by decide) (by decide) rb l0 (by decide+kernel)
 have a2:=(PM k0 (by decide) (c:=0) (by decide)).1
 have b2:=tB (fun i (_:i<3)=>(PM k0 (by decide) (c:=0) (by decide)).2.fq i) (by decide) (by decide) q1 l1 (by decide+kernel)
 have a3:=LP k1 (by decide)
 have b3:=tB (fun i hi=>k1.f i hi 5) (by decide) (by decide) q2 l2 (by decide+kernel)
 have a4:=Gg k1 (by decide)
 have b4:=tB (fun i (_:i<3)=>AP k1 (fun j hj=>k1.f j hj 5) 3 (Nat.le_refl _) i) (by decide) (by decide) q3 l3 (by decide+kernel)
 have a5:=CT k1 (by decide)
 rw[decide_eq_false (by decide+kernel)]at a5
 have a6:=LP k2 (by decide)
 have b6:=tB (fun i hi=>k2.f i hi 5) (by decide) (by decide) q4 l4 (by decide+kernel)
 have a7:=Ey k2 (by decide)
 have s7:∀i,i<2→FQ 37 (gZ 2 3 XY XZ 3 i):=fun i hi=>by
  match i,hi with
  |0,_=>exact k2.f 2 (by decide) 5
  |1,_=>exact k2.f 1 (by decide) 5
 have b7:=tB s7 (by decide) (by decide) q5 l5 (by decide+kernel)
 have a8:=Gg k2 (by decide)
 have b8:=tB (fun i (_:i<3)=>AP k2 (fun j hj=>k2.f j hj 5) 3 (Nat.le_refl _) i) (by decide) (by decide) q6 l6 (by decide+kernel)
 have a9:=CT k2 (by decide)
 rw[decide_eq_true (by decide+kernel)]at a9
 have UR:=Ez k2 (by decide)
 rw[decide_eq_true (by decide+kernel)]at UR
 unfold dU mW
 refine bind_eq (bind_eq eo<|bind_eq er<|bind_eq eb rfl)<|bind_eq eN<|bB ?_
 refine bind_eq (a:=false) (aO rfl rfl)<|bind_eq (a:=false) (aO rfl<|bind_eq a0<|bind_eq a0'<|bind_eq rfl rfl)<|bind_eq (a:=false) (aO rfl<|bind_eq a1<|bind_eq eb<|bind_eq b1<|bind_eq rfl rfl)<|bind_eq (a:=false) (aO rfl<|bind_eq a2<|bind_eq i1<|bind_eq b2<|bind_eq rfl rfl)<|aO rfl<|bind_eq t1<|bB ?_
 refine bind_eq (dF (by decide))<|bind_eq (a:=false) (aO rfl<|bind_eq a3<|bind_eq i2<|bind_eq b3<|bind_eq rfl rfl)<|bind_eq (a:=false) (aO rfl<|bind_eq a4<|bind_eq i3<|bind_eq b4<|bind_eq rfl rfl)<|bind_eq (a:=false) (aO rfl<|bind_eq a5 rfl)<|aO rfl<|bind_eq t2<|bB ?_
 exact bind_eq (dT rfl)<|Jq (bind_eq a6<|bind_eq i4<|bind_eq b6 rfl)<|Jq (bind_eq a7<|bind_eq i5<|bind_eq b7 rfl)<|Jq (bind_eq a8<|bind_eq i6<|bind_eq b8 rfl)<|Jq (bind_eq a9 rfl)<|Jq (bind_eq UR rfl) rfl
end Go.Proofs.YtningmnklfpfjaaGreat
namespace Go.Proofs.YtningmnklfpfjaaGreat
open Go.Fw
theorem PY{l:List (List Qr)}{i:Nat}{P:List Qr→Prop}(hi:i<l.length)(ht:∀v∈l.take i,P v)(hp:P l[i]):∀v∈l.take (i+1),P v:=by
 rw[List.take_add_one,List.getElem?_eq_getElem hi]
 intro u hu
 rcases List.mem_append.1 hu with h|h
 ·exact ht u h
 ·simp at h;rw[h];exact hp
abbrev Sml(v:List Qr):Prop:=v.length≤20∧∀q∈v,q.num.w.length≤6∧q.den.w.length≤6
abbrev Sm8(v:List Qr):Prop:=v.length≤8∧∀q∈v,q.num.w.length≤6∧q.den.w.length≤6
theorem CU(l:List (List Qr))(hl:l.length≤9223372036854775807):∃b,gI l=some b∧(b=false→∀v∈l,Sml v):=by
 unfold gI
 refine n9 (fun y=>∃i:Nat,y=(i:Int)∧i≤l.length∧∀v∈l.take i,Sml v) (fun e=>(∃c,e=.inl c∧∀v∈l,Sml v)∨e=.inr true) (fun y=>l.length-y.toNat) ?_ ⟨0,rfl,by omega,by simp⟩ ?_
 ·rintro _ ⟨i,rfl,hi,ht⟩
  by_cases hlt:i<l.length
  ·have g:=List.getElem?_eq_getElem hlt
   by_cases h1:20<l[i].length
   ·exact .inr ⟨.inr true,bind_eq rfl<|bind_eq (dT (by omega))<|bf rfl<|bB<|bind_eq (aQ g)<|bind_eq rfl<|bind_eq (dT (by omega))<|bind_eq (a:=true) (bf rfl rfl) rfl,.inr rfl⟩
   ·obtain⟨b,hb,hs⟩:=PI l[i] (by omega)
    cases b
    ·refine .inl ⟨((i+1:Nat):Int),?_,⟨i+1,rfl,hlt,PY hlt ht ⟨by omega,hs rfl⟩⟩,by simp only[Int.toNat_natCast];omega⟩
     exact bind_eq rfl<|bind_eq (dT (by omega))<|bf rfl<|bB<|bind_eq (aQ g)<|bind_eq rfl<|bind_eq (dF (by omega))<|bind_eq (a:=false) (aO rfl<|bind_eq (aQ g)<|bind_eq hb rfl)<|aO rfl<|bind_eq (congrArg some (bw (by omega))) rfl
    ·exact .inr ⟨.inr true,bind_eq rfl<|bind_eq (dT (by omega))<|bf rfl<|bB<|bind_eq (aQ g)<|bind_eq rfl<|bind_eq (dF (by omega))<|bind_eq (a:=true) (aO rfl<|bind_eq (aQ g)<|bind_eq hb rfl) rfl,.inr rfl⟩
  ·refine .inr ⟨.inl (),?_,.inl ⟨(),rfl,?_⟩⟩
   ·exact bind_eq rfl<|bind_eq (dF (by omega))<|aO rfl rfl
   ·rw[List.take_of_length_le (by omega)]at ht;exact ht
 ·rintro e (⟨c,rfl,he⟩|rfl)
  ·exact⟨false,rfl,fun _=>he⟩
  ·exact⟨true,rfl,fun h=>by cases h⟩
theorem KI(m:List (List Qr))(h:m.length≤9223372036854775806):jV m=some (qX m:Int):=by
 unfold jV
 refine aY (fun j=>(((m.take j).foldl (fun n v=>max n v.length) 0:Nat),(j:Int))) m.length ((qX m:Nat):Int) (by simp) (fun j hj=>?_) ?_ rfl
 ·refine bind_eq rfl<|bind_eq (dT (by omega))<|bf rfl<|bind_eq (aQ (List.getElem?_eq_getElem hj))<|bind_eq rfl<|bind_eq rfl<|bind_eq (congrArg some (bw (by omega))) ?_
  rw[List.take_add_one,List.getElem?_eq_getElem hj,List.foldl_append]
  simp only[Option.toList_some,List.foldl_cons,List.foldl_nil]
  congr 3
  omega
 ·refine bind_eq rfl<|bind_eq (dF (by omega))<|aO rfl ?_
  rw[List.take_length];rfl
theorem Ij(m:List (List Qr)):∃b,jW [m]=some b∧(b=false→m.length≤8∧∀v∈m,Sm8 v):=by
 unfold jW
 have hg:cC [m] (0:Int)=some m:=rfl
 by_cases h8:8<m.length
 ·refine⟨true,?_,fun h=>by cases h⟩
  refine aY (fun j=>(j:Int)) 0 (.inr true) rfl (fun j hj=>by omega) ?_ rfl
  exact bind_eq rfl<|bind_eq (dT (by simp))<|bf rfl<|bB<|bind_eq hg<|bind_eq rfl<|bind_eq (dT (by omega))<|bind_eq (a:=true) (bf rfl rfl)<|bind_eq (a:=true) (bf rfl rfl) rfl
 by_cases hc:8<qX m
 ·refine⟨true,?_,fun h=>by cases h⟩
  refine aY (fun j=>(j:Int)) 0 (.inr true) rfl (fun j hj=>by omega) ?_ rfl
  exact bind_eq rfl<|bind_eq (dT (by simp))<|bf rfl<|bB<|bind_eq hg<|bind_eq rfl<|bind_eq (dF (by omega))<|bind_eq (a:=true) (aO rfl<|bind_eq hg<|bind_eq (KI m (by omega))<|bind_eq (dT (by omega)) rfl)<|bind_eq (a:=true) (bf rfl rfl) rfl
 obtain⟨b,hb,hs⟩:=CU m (by omega)
 cases b
 ·refine⟨false,?_,fun _=>⟨by omega,fun v hv=>⟨?_,(hs rfl v hv).2⟩⟩⟩
  ·refine aY (fun j=>(j:Int)) 1 (.inl ()) rfl (fun j hj=>?_) (bind_eq rfl<|bind_eq (dF (by simp))<|aO rfl rfl) rfl
   obtain rfl:j=0:=by omega
   exact bind_eq rfl<|bind_eq (dT (by simp))<|bf rfl<|bB<|bind_eq hg<|bind_eq rfl<|bind_eq (dF (by omega))<|bind_eq (a:=false) (aO rfl<|bind_eq hg<|bind_eq (KI m (by omega))<|bind_eq (dF (by omega)) rfl)<|bind_eq (a:=false) (aO rfl<|bind_eq hg<|bind_eq hb rfl)<|aO rfl<|bind_eq (congrArg some (bw (by omega))) rfl
  ·have:=qY.1 (Nat.le_refl (qX m)) v hv;omega
 ·refine⟨true,?_,fun h=>by cases h⟩
  refine aY (fun j=>(j:Int)) 0 (.inr true) rfl (fun j hj=>by omega) ?_ rfl
  exact bind_eq rfl<|bind_eq (dT (by simp))<|bf rfl<|bB<|bind_eq hg<|bind_eq rfl<|bind_eq (dF (by omega))<|bind_eq (a:=false) (aO rfl<|bind_eq hg<|bind_eq (KI m (by omega))<|bind_eq (dF (by omega)) rfl)<|bind_eq (a:=true) (aO rfl<|bind_eq hg<|bind_eq hb rfl)<|bf rfl rfl
theorem Sr(m:List (List Qr))(h:m.length≤1000):lO m=some (decide (∀i,i<m.length→(m.getD i []).length=0)):=by
 unfold lO
 refine bind_eq (vi (p:=fun i=>(m.getD i []).length=0) (e:=false) (n:=m.length) (fun i hi=>?_) (bind_eq rfl<|bind_eq (dF (by omega))<|aO rfl rfl)) ?_
 ·refine bind_eq rfl<|bind_eq (dT (by omega))<|bf rfl<|bind_eq (aQ (dW (d:=[]) hi))<|bind_eq rfl<|bind_eq rfl ?_
  by_cases hz:(m.getD i []).length=0
  ·rw[if_pos hz];exact aO (decide_eq_false (by omega))<|bind_eq (congrArg some (bw (by omega))) rfl
  ·rw[if_neg hz];exact bf (decide_eq_true (by omega)) rfl
 ·by_cases hp:∀i,i<m.length→(m.getD i []).length=0
  ·rw[if_pos hp,decide_eq_true hp]
  ·rw[if_neg hp,decide_eq_false hp]
structure Sm6 (ob rw:List (List Qr)) (bd:List Qr):Prop where
 lo:ob.length≤6
 lr:rw.length≤140
 lb:bd.length≤140
 so:∀v∈ob,Sm8 v
 sr:∀v∈rw,Sm8 v
 sb:Sml (bd.take (min bd.length 20))
theorem PZ{n:Int}{ob rw:List (List Qr)}{bd:List Qr}(h1:ob.length≤9223372036854775806)(h2:rw.length≤9223372036854775806)(h3:bd.length≤9223372036854775806):∃b,lP ⟨n,ob,rw,bd⟩=some b∧(b=false→Sm6 ob rw bd):=by
 unfold lP
 obtain⟨b1,e1,s1⟩:=Ij rw
 obtain⟨b2,e2,s2⟩:=Ij ob
 have abj:nC bd=some (bd.take (min bd.length 20)):=by
  unfold nC
  have hm:min (bd.length:Int) 20=((min bd.length 20:Nat):Int):=by omega
  refine bind_eq rfl<|bind_eq (congrArg some hm)<|bind_eq (qM (by omega)) rfl
 obtain⟨b3,e3,s3⟩:=CU [bd.take (min bd.length 20)] (by simp)
 by_cases c1:6<ob.length
 ·exact⟨true,bB<|bind_eq rfl<|bind_eq (dT (by omega))<|bind_eq (a:=true) (bf rfl rfl)<|bind_eq (a:=true) (bf rfl rfl)<|bind_eq (a:=true) (bf rfl rfl)<|bind_eq (a:=true) (bf rfl rfl)<|bind_eq (a:=true) (bf rfl rfl)<|bind_eq (a:=true) (bf rfl rfl) rfl,fun h=>by cases h⟩
 by_cases c2:140<rw.length
 ·exact⟨true,bB<|bind_eq rfl<|bind_eq (dF (by omega))<|bind_eq (a:=true) (aO rfl<|bind_eq rfl<|bind_eq (dT (by omega)) rfl)<|bind_eq (a:=true) (bf rfl rfl)<|bind_eq (a:=true) (bf rfl rfl)<|bind_eq (a:=true) (bf rfl rfl)<|bind_eq (a:=true) (bf rfl rfl)<|bind_eq (a:=true) (bf rfl rfl) rfl,fun h=>by cases h⟩
 by_cases c3:140<bd.length
 ·exact⟨true,bB<|bind_eq rfl<|bind_eq (dF (by omega))<|bind_eq (a:=false) (aO rfl<|bind_eq rfl<|bind_eq (dF (by omega)) rfl)<|bind_eq (a:=true) (aO rfl<|bind_eq rfl<|bind_eq (dT (by omega)) rfl)<|bind_eq (a:=true) (bf rfl rfl)<|bind_eq (a:=true) (bf rfl rfl)<|bind_eq (a:=true) (bf rfl rfl)<|bind_eq (a:=true) (bf rfl rfl) rfl,fun h=>by cases h⟩
 have eb:=Sr rw (by omega)
 by_cases c4:8<rw.length
 ·by_cases c5:∀i,i<rw.length→(rw.getD i []).length=0
  ·rw[decide_eq_true c5]at eb
   refine⟨_,bB<|bind_eq rfl<|bind_eq (dF (by omega))<|bind_eq (a:=false) (aO rfl<|bind_eq rfl<|bind_eq (dF (by omega)) rfl)<|bind_eq (a:=false) (aO rfl<|bind_eq rfl<|bind_eq (dF (by omega)) rfl)<|bind_eq (a:=false) (aO rfl<|bind_eq rfl<|bind_eq (dT (by omega))<|bind_eq (a:=false) (bf rfl<|bind_eq eb<|bind_eq rfl rfl) rfl)<|bind_eq (a:=false) (aO rfl<|bind_eq rfl<|bind_eq (dF (by omega))<|bind_eq (a:=false) (aO rfl rfl) rfl)<|Ao (fun _=>bind_eq e2 rfl)<|Ao (fun _=>bind_eq abj<|bind_eq e3 rfl) rfl,fun h=>?_⟩
   simp only[Bool.false_or,Bool.or_eq_false_iff]at h
   refine⟨by omega,by omega,by omega,(s2 h.1).2,fun v hv=>?_,s3 h.2 _ (by simp)⟩
   obtain⟨i,hi,rfl⟩:=List.getElem_of_mem hv
   have:=c5 i hi
   rw[List.getD_eq_getElem?_getD,List.getElem?_eq_getElem hi]at this
   have h0:rw[i]=[]:=List.eq_nil_of_length_eq_zero this
   rw[h0];exact⟨by decide,by simp⟩
  ·rw[decide_eq_false c5]at eb
   exact⟨true,bB<|bind_eq rfl<|bind_eq (dF (by omega))<|bind_eq (a:=false) (aO rfl<|bind_eq rfl<|bind_eq (dF (by omega)) rfl)<|bind_eq (a:=false) (aO rfl<|bind_eq rfl<|bind_eq (dF (by omega)) rfl)<|bind_eq (a:=true) (aO rfl<|bind_eq rfl<|bind_eq (dT (by omega))<|bind_eq (a:=true) (bf rfl<|bind_eq eb<|bind_eq rfl rfl) rfl)<|bind_eq (a:=true) (bf rfl rfl)<|bind_eq (a:=true) (bf rfl rfl)<|bind_eq (a:=true) (bf rfl rfl) rfl,fun h=>by cases h⟩
 ·refine⟨_,bB<|bind_eq rfl<|bind_eq (dF (by omega))<|bind_eq (a:=false) (aO rfl<|bind_eq rfl<|bind_eq (dF (by omega)) rfl)<|bind_eq (a:=false) (aO rfl<|bind_eq rfl<|bind_eq (dF (by omega)) rfl)<|bind_eq (a:=false) (aO rfl<|bind_eq rfl<|bind_eq (dF (by omega))<|bind_eq (a:=false) (aO rfl rfl) rfl)<|Ao (c:=b1) (fun _=>bind_eq rfl<|bind_eq (dT (by omega))<|bind_eq (a:=b1) (bf rfl<|bind_eq e1 rfl) rfl)<|Ao (fun _=>bind_eq e2 rfl)<|Ao (fun _=>bind_eq abj<|bind_eq e3 rfl) rfl,fun h=>?_⟩
  simp only[Bool.false_or,Bool.or_eq_false_iff]at h
  exact⟨by omega,by omega,by omega,(s2 h.1.2).2,(s1 h.1.1).2,s3 h.2 _ (by simp)⟩
end Go.Proofs.YtningmnklfpfjaaGreat
namespace Go.Proofs.YtningmnklfpfjaaGreat
open Go.Fw
abbrev OkM(m:List (List Qr)):Prop:=m.length≤9223372036854775807∧∀v∈m,OkV v
abbrev OkL(p:Lr):Prop:=fj p.vars∧OkM p.pq∧OkM p.rows∧OkV p.bounds
abbrev szL(p:Lr):Nat:=1+szM p.pq+szM p.rows+XQ p.bounds+1
theorem Gh{α:Type}(f:α→Nat)(h:∀x,1≤f x):∀l:List α,l.length≤(l.map f).sum
 |[]=>Nat.le_refl _
 |x::l=>by rw[List.map_cons,List.sum_cons,List.length_cons];have:=Gh f h l;have:=h x;omega
theorem KJ(m:List (List Qr)):m.length≤szM m:=by have:=Gh (fun x=>XQ x) (fun x=>by show 1≤_+1;omega) m;show _≤_+1;omega
theorem Ss(v:List Qr):v.length≤XQ v:=by have:=Gh (fun x=>szQ x) (fun x=>by show 1≤_+1;omega) v;show _≤_+1;omega
theorem Uf{m:List (List Qr)}(h:OkM m)(s:∀v∈m,Sm8 v):sJ 6 m (Jr m):=
 Sf (fun v hv=>Kw (fun q hq=>PJ ((h.2 v hv).2 q hq) ((s v hv).2 q hq).1 ((s v hv).2 q hq).2 (by decide)) (by decide)) (by decide)
theorem Ug{v:List Qr}(h:OkV v)(s:Sml v):cY 6 v (DI v):=Kw (fun q hq=>PJ (h.2 q hq) (s.2 q hq).1 (s.2 q hq).2 (by decide)) (by decide)
theorem P0{L:Nat}{u v:List Qr}{f h:Nat→Rat}(hu:cY L u f)(hv:cY L v h):cY L (u++v) (fun i=>if i<u.length then f i else h (i-u.length)):=by
 refine⟨fun i hi=>?_,fun i hi=>?_,hu.l1⟩
 ·show kx L (u++v)[i] (if i<u.length then f i else h (i-u.length))
  by_cases q:i<u.length
  ·rw[if_pos q,List.getElem_append_left q];exact hu.e i q
  ·rw[if_neg q,List.getElem_append_right (by omega)];exact hv.e _ (by rw[List.length_append]at hi;omega)
 ·show(if i<u.length then f i else h (i-u.length))=0
  rw[List.length_append]at hi
  rw[if_neg (by omega)];exact hv.z _ (by omega)
section refs
variable {n:Int}{ob rw:List (List Qr)}{bd:List Qr}
theorem X0(h1:ob.length≤9223372036854775806)(h2:rw.length≤9223372036854775806):kT ⟨n,ob,rw,bd⟩=some (decide (Gp n ob rw bd)):=by
 have sh:∀(m:List (List Qr)),m.length≤9223372036854775806→iY m n=some (decide ((qX m:Int)≤n)):=fun m hm=>by
  unfold iY
  exact bind_eq (KI m hm)<|bind_eq rfl rfl
 unfold kT
 refine bB<|bind_eq rfl<|Ao (fun _=>bind_eq rfl rfl)<|Ao (fun _=>bind_eq rfl<|bind_eq rfl rfl)<|Ao (fun _=>bind_eq rfl<|bind_eq rfl rfl)<|Ao (fun _=>bind_eq rfl<|bind_eq rfl rfl)<|Ao (fun _=>bind_eq rfl<|bind_eq rfl<|bind_eq rfl rfl)<|Ew (fun h=>?_) (fun h=>bB<|bind_eq (sh ob h1)<|Se (fun _=>bind_eq (sh rw h2) rfl) ?_)
 ·congr 1;symm;rw[decide_eq_false_iff_not]
  simp only[Bool.or_eq_true,decide_eq_true_eq]at h
  unfold Gp;omega
 ·congr 1
  simp only[Bool.or_eq_false_iff,decide_eq_false_iff_not]at h
  rw[←Bool.decide_and,decide_eq_decide]
  unfold Gp;omega
end refs
end Go.Proofs.YtningmnklfpfjaaGreat
namespace Go.Proofs.YtningmnklfpfjaaGreat
open Go.Fw
def vF(n m:Nat)(F:Nat→Nat→Rat)(b:Nat→Nat)(k:Nat):Rat:=bn (fun j=>if b j=k then F j (n+m)else 0) m
def L6(n m p:Nat)(O:Nat→Nat→Rat)(z:Nat→Rat)(i:Nat):Rat:=bn (fun k=>z k*ke n p O k i) (n+m)
section sol
variable {L n m p:Nat}{O F:Nat→Nat→Rat}{b:Nat→Nat}{z:Nat→Rat}
theorem KK(hu:Uc m F b):∀j,j≤m→∀k,k<n→gZ n m F b j k=bn (fun j=>if b j=k then F j (n+m)else 0) j
 |0,_,_,_=>rfl
 |j+1,hj,k,hk=>by
  show(if b j<n∧k=b j then F j (n+m)else gZ n m F b j k)=bn (fun j=>if b j=k then F j (n+m)else 0) j+(if b j=k then F j (n+m)else 0)
  by_cases e:b j=k
  ·rw[if_pos ⟨by omega,e.symm⟩,if_pos e,bX (k:=fun _=>0) (fun i hi=>if_neg (fun q=>by
    have:=PT hu (i:=i) (j:=j) (by omega) (by omega) (q.trans e.symm)
    omega)),kU];grind
  ·rw[if_neg (fun q=>e q.2.symm),if_neg e,KK hu j (by omega) k hk];grind
theorem yl:∀j k,n≤k→gZ n m F b j k=0
 |0,_,_=>rfl
 |j+1,k,hk=>by
  show(if b j<n∧k=b j then F j (n+m)else gZ n m F b j k)=0
  rw[if_neg (by omega),yl j k hk]
theorem KL(h:sK L n m p O F b):∀j,j≤m→∀k,FQ L (gZ n m F b j k)
 |0,_,_=>vh h.l1
 |j+1,hj,k=>by
  show FQ L (if b j<n∧k=b j then F j (n+m)else gZ n m F b j k)
  split
  ·exact h.f j (by omega) _
  ·exact KL h j (by omega) k
theorem X1(hu:Uc m F b){j:Nat}(hj:j<m):vF n m F b (b j)=F j (n+m):=by
 unfold vF
 rw[nE hj (fun i hi hne=>if_neg (fun q=>hne (PT hu hi hj q))),if_pos rfl]
theorem EC(h:sK L n m p O F b)(f:Nat→Rat):bn (fun k=>f k*vF n m F b k) (n+m)=bn (fun j=>f (b j)*F j (n+m)) m:=by
 rw[show(fun k=>f k*vF n m F b k)=fun k=>bn (fun j=>f k*(if b j=k then F j (n+m)else 0)) m from funext fun k=>(o5 _ _ _).symm,zk]
 refine bX (fun j hj=>?_)
 rw[nE (h.hb j hj) (fun i _ hne=>by rw[if_neg (fun q=>hne q.symm)];grind),if_pos rfl]
theorem P1(h:sK L n m p O F b)(hu:Uc m F b):Io n m F (vF n m F b):=fun i hi=>by
 rw[EC h (F i),nE hi (fun j hj hne=>by rw[hu i j hi hj,if_neg (fun q=>hne q.symm)];grind),hu i i hi hi,if_pos rfl];grind
theorem KM(h:sK L n m p O F b)(i:Nat):oa n p O b (fun j=>F j (n+m)) m i=L6 n m p O (vF n m F b) i:=by
 unfold oa L6
 rw[bX (h:=fun k=>vF n m F b k*ke n p O k i) (k:=fun k=>ke n p O k i*vF n m F b k) (fun k _=>Rat.mul_comm _ _),EC h (fun k=>ke n p O k i)]
 exact bX (fun j _=>Rat.mul_comm _ _)
theorem CV(i:Nat):L6 n m p O z i=if i<p then bn (fun k=>O i k*z k) n else if i<p+n then-z (i-p)else 0:=by
 unfold L6
 rw[xb,bX (h:=fun j=>z (n+j)*ke n p O (n+j) i) (k:=fun _=>0) (fun j _=>by unfold ke;rw[if_neg (by omega)];grind),kU]
 by_cases h1:i<p
 ·rw[if_pos h1,bX (k:=fun k=>O i k*z k) (fun k hk=>by unfold ke;rw[if_pos hk,if_pos h1,Rat.mul_comm])];grind
 ·rw[if_neg h1]
  by_cases h2:i<p+n
  ·rw[if_pos h2,nE (k:=i-p) (by omega) (fun k hk hne=>by unfold ke;rw[if_pos hk,if_neg h1,if_neg (by omega)];grind)]
   unfold ke
   rw[if_pos (by omega),if_neg h1,if_pos (by omega)];grind
  ·rw[if_neg h2,bX (k:=fun _=>0) (fun k hk=>by unfold ke;rw[if_pos hk,if_neg h1,if_neg (by omega)];grind),kU];grind
theorem P2(h:Io n m F z)(i:Nat):bn (fun k=>z k*q9 n m p O F b k i) (n+m)=oa n p O b (fun j=>F j (n+m)) m i-L6 n m p O z i:=by
 have e:∀k,z k*q9 n m p O F b k i=bn (fun j=>ke n p O (b j) i*(F j k*z k)) m-z k*ke n p O k i:=fun k=>by
  unfold q9 oa
  have:z k*bn (fun j=>F j k*ke n p O (b j) i) m=bn (fun j=>ke n p O (b j) i*(F j k*z k)) m:=by
   rw[←o5];exact bX (fun j _=>by grind)
  rw[←this];grind
 rw[bX (fun k _=>e k),CP,zk]
 unfold oa L6
 congr 1
 refine bX (fun j hj=>?_)
 rw[o5,h j hj];exact Rat.mul_comm _ _
theorem abl{R:Nat→Nat→Rat}{g:Nat→Rat}:Io n m (nP n m R g) z↔∀i,i<m→bn (fun k=>R i k*z k) n+z (n+i)=g i:=by
 refine forall_congr' fun i=>forall_congr' fun hi=>?_
 rw[xb,bX (h:=fun k=>nP n m R g i k*z k) (k:=fun k=>R i k*z k) (fun k hk=>by unfold nP;rw[if_pos hk]),nE (h:=fun j=>nP n m R g i (n+j)*z (n+j)) hi (fun j hj hne=>by unfold nP;rw[if_neg (by omega),if_neg (by omega),if_neg (by omega)];grind)]
 have e1:nP n m R g i (n+i)=1:=by unfold nP;rw[if_neg (by omega),if_pos rfl]
 have e2:nP n m R g i (n+m)=g i:=by unfold nP;rw[if_neg (by omega),if_neg (by omega),if_pos rfl]
 rw[e1,e2,Rat.one_mul]
theorem LS{R:Nat→Nat→Rat}{g:Nat→Rat}:Uc m (nP n m R g) (fun j=>n+j):=fun i j hi hj=>by
 show nP n m R g i (n+j)=_
 unfold nP
 rw[if_neg (by omega)]
 by_cases e:i=j
 ·rw[if_pos (by omega),if_pos e]
 ·rw[if_neg (by omega),if_neg (by omega),if_neg e]
end sol
def zm(f:Nat→Rat)(N:Nat):Prop:=(∀i,i<N→f i=0)∨∃i,i<N∧(∀j,j<i→f j=0)∧0<f i
theorem KN{f:Nat→Rat}:∀{N:Nat},0≤iM f (fun _=>0) N→zm f N
 |0,_=>.inl (fun i hi=>by omega)
 |N+1,h=>by
  rw[iM]at h
  by_cases q:iM f (fun _=>0) N=0
  ·rw[if_neg (fun e=>e q)]at h
   have hz:=o6.1 q
   rcases agW (f N) 0 with h1|h1|h1
   ·rw[Kv h1]at h;omega
   ·exact .inl (fun i hi=>by
     by_cases e:i<N
     ·exact hz i e
     ·rw[show i=N by omega];exact h1)
   ·exact .inr ⟨N,by omega,hz,h1⟩
  ·rw[if_pos q]at h
   rcases KN h with h1|⟨i,h1,h2,h3⟩
   ·exact absurd (o6.2 h1) q
   ·exact .inr ⟨i,by omega,h2,h3⟩
theorem zm.add{f g:Nat→Rat}{N:Nat}(hf:zm f N)(hg:zm g N):zm (fun i=>f i+g i) N:=by
 rcases hf with h1|⟨i,h1,h2,h3⟩<;>rcases hg with k1|⟨j,k1,k2,k3⟩
 ·exact .inl (fun i hi=>by show f i+g i=0;rw[h1 i hi,k1 i hi];exact Rat.add_zero 0)
 ·exact .inr ⟨j,k1,fun q hq=>by show f q+g q=0;rw[h1 q (by omega),k2 q hq];exact Rat.add_zero 0,by show 0<f j+g j;rw[h1 j k1];grind⟩
 ·exact .inr ⟨i,h1,fun q hq=>by show f q+g q=0;rw[h2 q hq,k1 q (by omega)];exact Rat.add_zero 0,by show 0<f i+g i;rw[k1 i h1];grind⟩
 ·rcases Nat.lt_trichotomy i j with e|e|e
  ·exact .inr ⟨i,h1,fun q hq=>by show f q+g q=0;rw[h2 q hq,k2 q (by omega)];exact Rat.add_zero 0,by show 0<f i+g i;rw[k2 i e];grind⟩
  ·subst e;exact .inr ⟨i,h1,fun q hq=>by show f q+g q=0;rw[h2 q hq,k2 q hq];exact Rat.add_zero 0,by show 0<f i+g i;grind⟩
  ·exact .inr ⟨j,k1,fun q hq=>by show f q+g q=0;rw[h2 q (by omega),k2 q hq];exact Rat.add_zero 0,by show 0<f j+g j;rw[h2 j e];grind⟩
theorem zm.mul{f:Nat→Rat}{N:Nat}{c:Rat}(hc:0≤c)(hf:zm f N):zm (fun i=>c*f i) N:=by
 by_cases e:c=0
 ·exact .inl (fun i _=>by show c*f i=0;rw[e];grind)
 ·have hp:0<c:=by grind
  rcases hf with h1|⟨i,h1,h2,h3⟩
  ·exact .inl (fun i hi=>by show c*f i=0;rw[h1 i hi];grind)
  ·exact .inr ⟨i,h1,fun q hq=>by show c*f q=0;rw[h2 q hq];grind,Rat.mul_pos hp h3⟩
theorem zm.sum{h:Nat→Nat→Rat}{N:Nat}:∀{K:Nat},(∀k,k<K→zm (h k) N)→zm (fun i=>bn (fun k=>h k i) K) N
 |0,_=>.inl (fun _ _=>rfl)
 |K+1,hk=>(zm.sum (K:=K) (fun k q=>hk k (by omega))).add (hk K (by omega))
def szT:Nat→Nat
 |0=>6
 |k+1=>4*szT k+1
theorem abm:∀k,k<13→szT k≤106255701:=by decide
theorem abn:∀k,k<12→szT k≤100000000:=by decide
abbrev ag3(v:Pv):Prop:=(-9223372036854775808≤v.row∧v.row≤9223372036854775807)∧(-9223372036854775808≤v.col∧v.col≤9223372036854775807)
abbrev abo(l:List Pv):Nat:=(l.map fun _=>1+1+1).sum+1
theorem al7:(dU.bind fun x=>some x)=some true:=bind_eq Jw rfl
theorem P3{n:Int}{ob rw:List (List Qr)}{bd:List Qr}(h1:ob.length≤9223372036854775806)(h2:rw.length≤9223372036854775806)(h3:bd.length≤9223372036854775806):∃b,jX ⟨n,ob,rw,bd⟩=some b∧(b=false→Sm6 ob rw bd∧(Gp n ob rw bd→rw.length≤5∧n≤6)):=by
 obtain⟨b1,e1,s1⟩:=PZ (n:=n) h1 h2 h3
 have my:=X0 (n:=n) (bd:=bd) h1 h2
 unfold jX
 refine⟨_,bB<|bind_eq e1<|Ao (c:=decide (5<rw.length)&&decide (Gp n ob rw bd)) (fun _=>bind_eq rfl<|bind_eq (congrArg some (decide_eq_decide.2 (show(5:Int)<(rw.length:Int)↔5<rw.length by omega)))<|Se (fun _=>bind_eq my rfl) rfl)<|Ao (c:=decide (6<n)&&decide (Gp n ob rw bd)) (fun _=>bind_eq rfl<|Se (fun _=>bind_eq my rfl) rfl) rfl,fun h=>?_⟩
 simp only[Bool.or_eq_false_iff,Bool.and_eq_false_iff,decide_eq_false_iff_not]at h
 refine⟨s1 h.1.1,fun hv=>⟨?_,?_⟩⟩
 ·rcases h.1.2 with q|q
  ·omega
  ·exact absurd hv q
 ·rcases h.2 with q|q
  ·omega
  ·exact absurd hv q
theorem abp{n:Int}{ob rw:List (List Qr)}{bd:List Qr}(v:gO ⟨n,ob,rw,bd⟩=some false):oU ⟨n,ob,rw,bd⟩=some ():=by
 unfold oU
 exact bind_eq v<|bind_eq rfl<|bf rfl rfl
theorem LU{n m p:Nat}{O F0:Nat→Nat→Rat}{b0:Nat→Nat}{l:List Pv}(hl:l.length≤12)(h:sK 6 n m p O F0 b0)(hu:Uc m F0 b0){R:Type}{f:List (List Qr)×List Int×List (List Qr)→Option R}{r:R}
  (hf:∀F b,sK 106255701 n m p O F b→Uc m F b→(∀z,Io n m F z↔Io n m F0 z)→f (mq p (fun _=>n) O,bq m b,mq m (fun _=>n+m+1) F)=some r):
  ((bT (fun(Qe:Int×(List (List Qr))×(List Int)×(List (List Qr)))=>match Qe with|⟨vX,sn,sq,su⟩=>(show Option ((Int×(List (List Qr))×(List Int)×(List (List Qr)))⊕((List (List Qr))×(List Int)×(List (List Qr))))from(some (l.length:Int)).bind fun sL=>(some (decide ((vX:Int)<sL))).bind fun rK=>(bif rK then(cC l vX).bind fun⟨Kg,TT⟩=>(cC l vX).bind fun⟨Ek,zJ⟩=>(aM true n sn sq su Kg zJ).bind fun⟨x62,l37,Im,l39⟩=>(some (IntKind.i64.wrap (vX+1))).bind fun sM=>some (.inl (sM,l37,Im,l39))else some (.inr (sn,sq,su))))) (0,mq p (fun _=>n) O,bq m b0,mq m (fun _=>n+m+1) F0)).bind f)=some r:=by
 refine oh (fun s=>∃(k:Nat) (F:Nat→Nat→Rat) (b:Nat→Nat),s=((k:Int),mq p (fun _=>n) O,bq m b,mq m (fun _=>n+m+1) F)∧k≤l.length∧sK (szT k) n m p O F b∧Uc m F b∧∀z,Io n m F z↔Io n m F0 z) (fun e=>∃(F:Nat→Nat→Rat) (b:Nat→Nat),e=(mq p (fun _=>n) O,bq m b,mq m (fun _=>n+m+1) F)∧sK 106255701 n m p O F b∧Uc m F b∧∀z,Io n m F z↔Io n m F0 z) (fun s=>l.length-s.1.toNat) ?_ ⟨0,F0,b0,rfl,Nat.zero_le _,h,hu,fun _=>Iff.rfl⟩ ?_
 ·rintro _ ⟨k,F,b,rfl,hk,ht,hu,hz⟩
  by_cases hlt:k<l.length
  ·have g:=List.getElem?_eq_getElem hlt
   generalize l[k]=v at g
   obtain⟨r,c⟩:=v
   obtain⟨e,F',b',hp,ht',hu',hz'⟩:=Jv ht (abn k (by omega)) hu r c
   refine .inl ⟨(((k+1:Nat):Int),mq p (fun _=>n) O,bq m b',mq m (fun _=>n+m+1) F'),?_,⟨k+1,F',b',rfl,hlt,ht',hu',fun z=>(hz' z).trans (hz z)⟩,by simp only[Int.toNat_natCast];omega⟩
   exact bind_eq rfl<|bind_eq (dT (by omega))<|bf rfl<|bind_eq (aQ g)<|bind_eq (aQ g)<|bind_eq hp<|bind_eq (congrArg some (bw (by omega))) rfl
  ·exact .inr ⟨_,bind_eq rfl<|bind_eq (dF (by omega))<|aO rfl rfl,F,b,rfl,ht.mono (abm k (by omega)),hu,hz⟩
 ·rintro _ ⟨F,b,rfl,ht,hu,hz⟩
  exact hf F b ht hu hz
end Go.Proofs.YtningmnklfpfjaaGreat
namespace Go.Proofs.YtningmnklfpfjaaGreat
open Go.Fw
theorem P4(p:Lr)(x:List Qr):lG p x=iW p x:=rfl
theorem KO{f g:Nat→Rat}{i N:Nat}(hi:i<N)(hz:∀j,j<i→f j=g j)(h:f i<g i):iM f g N=-1:=by
 have h0:iM f g i=0:=o6.2 hz
 have hc:lX (f i) (g i)=-1:=Kv h
 rw[LM h0 hi (by rw[hc];decide),hc]
theorem Gi(q:Lr)(l:List Pv)(x:List Qr)(op:OkL q)(ol:l.length≤9223372036854775807∧∀v∈l,ag3 v)(ox:OkV x)(hs:szL q+abo l+XQ x≤1048576):fD q l x=some true:=by
 obtain⟨n,ob,rw,bd⟩:=q
 obtain⟨on,oo,or_,ob_⟩:=op
 replace oo:OkM ob:=oo
 replace or_:OkM rw:=or_
 replace ob_:OkV bd:=ob_
 have z1:=KJ ob
 have z2:=KJ rw
 have z3:=Ss bd
 replace hs:1+szM ob+szM rw+XQ bd+1+abo l+XQ x≤1048576:=hs
 obtain⟨b1,e1,s1⟩:=P3 (n:=n) (ob:=ob) (rw:=rw) (bd:=bd) (by omega) (by omega) (by omega)
 obtain⟨b2,e2,s2⟩:=CU [x] (by simp)
 have v:=yj (n:=n) (ob:=ob) (rw:=rw) (bd:=bd) (by omega) (by omega)
 unfold fD
 by_cases hv:Gp n ob rw bd
 ·rw[decide_eq_true hv]at v
  rw[if_pos v]
  unfold ff
  refine bB<|bind_eq e1<|Ao (fun _=>bind_eq rfl<|bind_eq rfl rfl)<|Ao (fun _=>bind_eq e2 rfl)<|Ew (fun _=>al7) (fun hb=>?_)
  simp only[Bool.or_eq_false_iff,decide_eq_false_iff_not]at hb
  obtain⟨⟨yt,CX⟩,hb3⟩:=hb
  obtain⟨s6,s7⟩:=s1 yt
  obtain⟨hr5,hn6⟩:=s7 hv
  have sx:=s2 hb3 x (by simp)
  have lx:=sx.1
  obtain⟨v1,v2,v3,v4,v5,v6,v7,v8⟩:=id hv
  obtain⟨n,rfl⟩:∃k:Nat,n=(k:Int):=⟨n.toNat,by omega⟩
  have ro:=Uf oo s6.so
  have rr:=Uf or_ s6.sr
  have hbd:bd.take (min bd.length 20)=bd:=by rw[show min bd.length 20=bd.length by omega,List.take_length]
  have sb:=s6.sb
  rw[hbd]at sb
  have rb:=Ug ob_ sb
  have rx:=Ug ox sx
  have co:∀v∈ob,v.length≤n:=qY.1 (by omega)
  have cr:∀v∈rw,v.length≤n:=qY.1 (by omega)
  generalize Jr ob=O at ro
  generalize Jr rw=R at rr
  generalize DI bd=g at rb
  generalize DI x=f at rx
  have eN:=abh (n:=n) ro rr rb (by decide) (by decide) (by decide) hv
  have k0:=KH (n:=n) ro rr rb (by decide) hv
  have BB:l.length≤12:=by omega
  refine bind_eq eN<|bB<|bind_eq (a:=false) (aO rfl rfl)<|aO rfl ?_
  refine LU BB k0 LS ?_
  intro F b ht hu hz
  have ah6:∀N,fJ ⟨(n:Int),ob,rw,bd⟩ N=fJ ⟨(n:Int),ob,rw,bd⟩ N:=fun _=>rfl
  have ve:=yj (n:=(n:Int)) (ob:=ob) (rw:=rw) (bd:=bd) (by omega) (by omega)
  obtain⟨m,hm⟩:∃m,rw.length=m:=⟨_,rfl⟩
  obtain⟨p,hp⟩:∃p,ob.length=p:=⟨_,rfl⟩
  rw[hm,hp]at ht
  rw[hm]at hu hz
  rw[hm,hp]
  have m5:m≤5:=by omega
  have n6:n≤6:=by omega
  have hX:(m+1)*(106255701+106255701+1)≤2000000000:=by have:=Nat.mul_le_mul_right (106255701+106255701+1) (show m+1≤6 by omega);omega
  have hX2:m*(106255701+106255701+1)≤2000000000:=Nat.le_trans (Nat.mul_le_mul_right _ (Nat.le_succ m)) hX
  have a1:=Ey ht (by decide)
  have a2:=Ez ht (by decide)
  have a3:=CT ht hX
  have a4:=Gg ht hX
  have r4:=CS ht (g:=fun j=>F j (n+m)) (fun j hj=>ht.f j hj _) (Nat.le_refl m)
  have ry:cY 106255701 (vq n (gZ n m F b m)) (gZ n m F b m):=nO (fun i _=>KL ht m (Nat.le_refl m) i) (fun i hi=>yl m i hi) (by decide)
  have ly:(vq n (gZ n m F b m)).length=n:=bN _ _
  have hyz:∀k,k<n→gZ n m F b m k=vF n m F b k:=fun k hk=>KK hu m (Nat.le_refl m) k hk
  have hN8:(n+2)*(6+106255701+1)≤2000000000:=Nat.le_trans (Nat.mul_le_mul_right (6+106255701+1) (show n+2≤8 by omega)) (by decide)
  have a5:=KD (n:=(n:Int)) (ob:=ob) (N:=n) rr rb ry (fun v hv=>by have:=cr v hv;omega) hN8 (by decide) (by omega) (by omega) (by omega)
  obtain⟨a6,r6⟩:=eval_eq (n:=(n:Int)) (rw:=rw) (bd:=bd) (N:=n) ro ry (fun v hv=>by have:=co v hv;omega) (Nat.le_trans hN8 (by decide)) (by omega)
  rw[hp]at a6 r6
  have one:=lZ (n:=-1) (by decide)
  obtain⟨a7,r7⟩:=PG one.2 ry (by decide) (by omega)
  rw[ly]at a7 r7
  have abq:n*(6+106255701+1)≤1000000000:=Nat.le_trans (Nat.mul_le_mul_right (6+106255701+1) n6) (by decide)
  have hv8:m*(106255701+106255701+1)+1+(n*(6+106255701+1)+1+106255703)≤4000000000:=Nat.le_trans (Nat.add_le_add (Nat.add_le_add_right hX2 1) (Nat.add_le_add_right (Nat.add_le_add_right abq 1) _)) (by decide)
  have r8:=P0 (L:=n*(6+106255701+1)+1+106255703) (r6.mono (Nat.le_add_right _ _)) (r7.mono (Nat.le_trans (by decide:2+106255701≤106255703) (Nat.le_add_left _ _)))
  have a8:=agV r4 r8 hv8 (fun i=>by
   rw[KM ht,CV,bN]
   by_cases h1:i<p
   ·rw[if_pos h1,if_pos h1]
    exact bX (fun k hk=>by rw[hyz k hk])
   ·rw[if_neg h1,if_neg h1]
    by_cases h2:i<p+n
    ·rw[if_pos h2,←hyz (i-p) (by omega)]
     have:((-1:Int):Rat)=-1:=by decide
     rw[this];grind
    ·rw[if_neg h2,yl m (i-p) (by omega)];grind)
  have hzb:∀i,i<m→bn (fun k=>R i k*vF n m F b k) n+vF n m F b (n+i)=g i:=abl.1 ((hz _).1 (P1 ht hu))
  have hys:∀i,bn (fun k=>R i k*gZ n m F b m k) n=bn (fun k=>R i k*vF n m F b k) n:=fun i=>bX (fun k hk=>by rw[hyz k hk])
  have hfe:decide (∀i,i<m→0≤F i (n+m))=decide (LO (n:Int) ob rw bd (vq n (gZ n m F b m)) R g (gZ n m F b m) n):=by
   rw[decide_eq_decide]
   unfold LO
   rw[hm,ly]
   constructor
   ·intro h
    have nn:∀k,0≤vF n m F b k:=fun k=>zN (fun j hj=>by
     show 0≤(if b j=k then F j (n+m)else 0)
     split
     ·exact h j hj
     ·exact Rat.le_refl)
    refine⟨hv,Int.le_refl _,fun i hi=>by rw[hyz i hi];exact nn i,fun i hi=>?_⟩
    have e:=hzb i hi
    have e2:=nn (n+i)
    rw[hys i,←e];grind
   ·rintro⟨_,_,h1,h2⟩ j hj
    rw[←X1 hu hj]
    have Uq:=ht.hb j hj
    by_cases q:b j<n
    ·have:=h1 (b j) q
     rw[hyz _ q]at this;exact this
    ·have e:=hzb (b j-n) (by omega)
     have e2:=h2 (b j-n) (by omega)
     rw[hys]at e2
     rw[show n+(b j-n)=b j by omega]at e
     rw[←e]at e2;grind
  rw[←hfe]at a5
  have a9:=KD (n:=(n:Int)) (ob:=ob) (N:=n) rr rb rx (fun v hv=>by have:=cr v hv;omega) (by have:=Nat.mul_le_mul_right (6+6+1) (show n+2≤8 by omega);omega) (by decide) (by omega) (by omega) (by omega)
  obtain⟨UR,r10⟩:=eval_eq (n:=(n:Int)) (rw:=rw) (bd:=bd) (N:=n) ro rx (fun v hv=>by have:=co v hv;omega) (by have:=Nat.mul_le_mul_right (6+6+1) (show n+2≤8 by omega);omega) (by omega)
  rw[hp]at UR r10
  have c1:=Sb r10 r6 (Nat.le_trans (Nat.add_le_add (Nat.add_le_add_right (Nat.mul_le_mul_right (6+6+1) n6) 1) (Nat.add_le_add_right abq 1)) (by decide))
  rw[bN,bN,Nat.max_self]at c1
  have c2:=Sb ry rx (by decide)
  rw[ly]at c2
  have c3:=veq rx ry (by decide)
  rw[ly]at c3
  have key:∀(V C:Int),V=iM (fun i=>bn (fun j=>O i j*f j) n) (fun i=>bn (fun j=>O i j*gZ n m F b m j) n) p→C=iM (gZ n m F b m) f (max n x.length)→(∀c,c<n+m→0≤iM (q9 n m p O F b c) (fun _=>0) (p+n))→LO (n:Int) ob rw bd x R g f n→(if V=0 then C else V)<0∨∀i,i<max x.length n→f i=gZ n m F b m i:=by
   rintro V C hV hC ho ⟨_,Y8,hx0,hxs⟩
   rw[hm]at hxs
   have hf0:∀k,0≤f k:=fun k=>by
    by_cases q:k<x.length
    ·exact hx0 k q
    ·rw[rx.z k (by omega)];exact Rat.le_refl
   obtain⟨z,hzd⟩:∃z:Nat→Rat,z=fun k=>if k<n then f k else g (k-n)-bn (fun j=>R (k-n) j*f j) n:=⟨_,rfl⟩
   have zf:∀k,k<n→z k=f k:=fun k hk=>by rw[hzd];exact if_pos hk
   have zs:∀i,z (n+i)=g i-bn (fun j=>R i j*f j) n:=fun i=>by rw[hzd];show(if n+i<n then _ else _)=_;rw[if_neg (by omega),show n+i-n=i by omega]
   have ag6:Io n m F z:=(hz z).2 (abl.2 (fun i hi=>by
    rw[zs,bX (k:=fun k=>R i k*f k) (fun k hk=>by rw[zf k hk])];grind))
   have znn:∀k,k<n+m→0≤z k:=fun k hk=>by
    by_cases q:k<n
    ·rw[zf k q];exact hf0 k
    ·have:=hxs (k-n) (by omega)
     have e:=zs (k-n)
     rw[show n+(k-n)=k by omega]at e
     rw[e];grind
   have hT:=zm.sum (K:=n+m) (N:=p+n) (h:=fun k i=>z k*q9 n m p O F b k i) (fun k hk=>(KN (ho k hk)).mul (znn k hk))
   have hW:∀i,bn (fun k=>z k*q9 n m p O F b k i) (n+m)=L6 n m p O (vF n m F b) i-L6 n m p O z i:=fun i=>by rw[P2 ag6,KM ht]
   have w1:∀i,i<p→L6 n m p O z i=bn (fun j=>O i j*f j) n:=fun i hi=>by rw[CV,if_pos hi];exact bX (fun k hk=>by rw[zf k hk])
   have w2:∀i,i<p→L6 n m p O (vF n m F b) i=bn (fun j=>O i j*gZ n m F b m j) n:=fun i hi=>by rw[CV,if_pos hi];exact bX (fun k hk=>by rw[hyz k hk])
   have w3:∀k,k<n→L6 n m p O z (p+k)=-f k:=fun k hk=>by rw[CV,if_neg (by omega),if_pos (by omega),show p+k-p=k by omega,zf k hk]
   have w4:∀k,k<n→L6 n m p O (vF n m F b) (p+k)=-gZ n m F b m k:=fun k hk=>by rw[CV,if_neg (by omega),if_pos (by omega),show p+k-p=k by omega,hyz k hk]
   have out:∀k,n≤k→f k=gZ n m F b m k:=fun k hk=>by rw[rx.z k (by omega),yl m k hk]
   rcases hT with h1|⟨i,h1,h2,h3⟩
   ·refine .inr (fun k _=>?_)
    by_cases q:k<n
    ·have e:bn (fun k'=>z k'*q9 n m p O F b k' (p+k)) (n+m)=0:=h1 (p+k) (by omega)
     rw[hW,w3 k q,w4 k q]at e;grind
    ·exact out k (by omega)
   ·have h2:∀j,j<i→bn (fun k'=>z k'*q9 n m p O F b k' j) (n+m)=0:=h2
    have h3:0<bn (fun k'=>z k'*q9 n m p O F b k' i) (n+m):=h3
    left
    by_cases q:i<p
    ·have hVn:V=-1:=by
      rw[hV]
      refine KO q (fun j hj=>?_) ?_
      ·have e:=h2 j hj
       rw[hW,w1 j (by omega),w2 j (by omega)]at e;grind
      ·rw[hW,w1 i q,w2 i q]at h3;grind
     rw[hVn,if_neg (by decide)];decide
    ·have RQ:V=0:=by
      rw[hV]
      refine o6.2 (fun j hj=>?_)
      have e:=h2 j (by omega)
      rw[hW,w1 j hj,w2 j hj]at e;grind
     have hCn:C=-1:=by
      rw[hC]
      refine KO (i:=i-p) (by omega) (fun j hj=>?_) ?_
      ·have e:=h2 (p+j) (by omega)
       rw[hW,w3 j (by omega),w4 j (by omega)]at e;grind
      ·have e3:=w3 (i-p) (by omega)
       have e4:=w4 (i-p) (by omega)
       rw[show p+(i-p)=i by omega]at e3 e4
       rw[hW,e3,e4]at h3;grind
     rw[if_pos RQ,hCn];decide
  have ap:=aaL (b:=64) (l:=vq p (fun i=>bn (fun j=>O i j*gZ n m F b m j) n)) (k:=vq n (fun i=>((-1:Int):Rat)*gZ n m F b m i)) (by decide) (by rw[bN,bN];omega)
  obtain⟨V,hV⟩:∃V,V=iM (fun i=>bn (fun j=>O i j*f j) n) (fun i=>bn (fun j=>O i j*gZ n m F b m j) n) p:=⟨_,rfl⟩
  obtain⟨C,hC⟩:∃C,C=iM (gZ n m F b m) f (max n x.length):=⟨_,rfl⟩
  have key:=key V C hV hC
  rw[←hV]at c1
  rw[←hC]at c2
  have cmp:lF ⟨(n:Int),ob,rw,bd⟩ x (vq n (gZ n m F b m))=some (if V=0 then C else V):=by
   unfold lF
   refine bind_eq UR<|bind_eq a6<|bind_eq c1 ?_
   by_cases q:V=0
   ·rw[if_pos q];exact bind_eq (dF (fun e=>e q))<|aO rfl<|bind_eq c2 rfl
   ·rw[if_neg q];exact bind_eq (dT q)<|bf rfl rfl
  have evn:=P4 ⟨(n:Int),ob,rw,bd⟩ (vq n (gZ n m F b m))
  rw[a6]at evn
  have o1:=one.1
  have tail:((((!decide (∀i,i<m→0≤F i (n+m))|| !decide (∀c,c<n+m→0≤iM (q9 n m p O F b c) (fun _=>0) (p+n)))|| !decide (LO (n:Int) ob rw bd x R g f n))||decide ((if V=0 then C else V)<0))||decide (∀i,i<max x.length n→f i=gZ n m F b m i))=true:=by
   by_cases q2:∀c,c<n+m→0≤iM (q9 n m p O F b c) (fun _=>0) (p+n)
   ·by_cases q3:LO (n:Int) ob rw bd x R g f n
    ·rcases key q2 q3 with k|k
     ·rw[decide_eq_true k];simp
     ·rw[decide_eq_true k];simp
    ·rw[decide_eq_false q3];simp
   ·rw[decide_eq_false q2];simp
  generalize vq n (gZ n m F b m)=y at*
  generalize vq p (fun i=>bn (fun j=>O i j*gZ n m F b m j) n)=v6 at*
  generalize vq n (fun i=>((-1:Int):Rat)*gZ n m F b m i)=v7 at*
  generalize decide (∀i,i<m→0≤F i (n+m))=d1 at*
  generalize decide (∀c,c<n+m→0≤iM (q9 n m p O F b c) (fun _=>0) (p+n))=d2 at*
  generalize decide (LO (n:Int) ob rw bd x R g f n)=d3 at*
  generalize decide (∀i,i<max x.length n→f i=gZ n m F b m i)=d5 at*
  generalize (if V=0 then C else V)=w at*
  generalize qn ((-1:Int):Rat)=q1 at*
  obtain⟨⟨_,_⟩,⟨_,_⟩⟩:=q1
  refine bind_eq a1<|bB<|bind_eq rfl<|bind_eq (dF (by omega))<|bind_eq (a:=false) (aO rfl<|bind_eq a2<|bind_eq a5<|bind_eq (by simp) rfl)<|bind_eq (a:=false) (aO rfl<|bind_eq a4<|bind_eq evn<|bind_eq o1<|bind_eq a7<|bind_eq ap<|bind_eq a8<|bind_eq rfl rfl)<|aO rfl ?_
  refine bB<|bind_eq a2<|bind_eq rfl<|Ao (fun _=>bind_eq a3<|bind_eq rfl rfl)<|Ao (fun _=>bind_eq a9<|bind_eq rfl rfl)<|Ao (fun _=>bind_eq cmp<|bind_eq rfl rfl)<|Ao (fun _=>bind_eq c3 rfl) ?_
  rw[tail]
  exact Jq (bind_eq Jw rfl) rfl
 ·rw[decide_eq_false hv]at v
  rw[if_neg (by rw[v];decide)]
  unfold fg
  refine bB<|bind_eq e1<|Ao (fun _=>bind_eq rfl<|bind_eq rfl rfl)<|Ao (fun _=>bind_eq e2 rfl)<|Ew (fun _=>al7) (fun _=>?_)
  exact bind_eq (abp v)<|bB<|bind_eq v<|bind_eq rfl<|Jq (bind_eq Jw rfl) rfl
end Go.Proofs.YtningmnklfpfjaaGreat
namespace Go.Proofs.YtningmnklfpfjaaGreat
open Go.Fw Go.RowKit Go.ChangeShapes Go.WideShapes Go.ChangeAt
set_option linter.unusedVariables false
set_option maxRecDepth 100000 in
theorem oc(H:Type)(enc:TypeId×Value→H)(W:World)(base:Nat)(args:Array Value)(ds gs:List (DataW H))(before:List MemPlace)
  (hval:∀(j:Nat) t v,Tryz.f6.params[j]? =some t→args[j]? =some v→Value.okWide Tryz.prog W .any base t v)
  (hW:DataW.Whole enc Tryz.prog Tryz.f6.params.toList Rows.tableauOptimalSpec.vars false W args.toList ds gs before) (hk:Rows.uptoSmall H (ds++gs)=true):
  Calls Tryz.prog 6 args W fun e W'=>∃v,e=.returned v∧Rows.tableauOptimalSpec.post enc Tryz.prog Tryz.f6 false true false false W args v W':=by
 have hW':=hW
 obtain⟨p,q,hA0,hV,rfl,hfz,hnd⟩:=hW
 have hA:DataW.TrodAll enc Tryz.prog W 0 (fun _=>true) true Tryz.f6.params.toList args.toList ds p:=hA0
 rw[Tryz.params6]at hA hval
 obtain⟨v0,LX,d0,ds0,p0,q0,hargs,rfl,rfl,h0,r0⟩:=trodAll_cons hA
 obtain⟨v1,vs1,d1,ds1,p1,q1,rfl,rfl,rfl,h1,r1⟩:=trodAll_cons r0
 obtain⟨v2,vs2,d2,ds2,p2,q2,rfl,rfl,rfl,h2,r2⟩:=trodAll_cons r1
 obtain⟨rfl,rfl,rfl⟩:=trodAll_nil r2
 obtain rfl:args=#[v0,v1,v2]:=by cases args;simp_all
 obtain⟨rfl,rfl⟩:=trodVars_none hV
 have lt0:∀x∈p0,x.block<W.heap.size:=by obtain⟨m,hm⟩:=h0;exact DataW.trod_lt m _ _ _ hm
 obtain⟨x0,ok0,sz0,al0⟩:=QH (P:=Tryz.prog) (T:=25) (e:=DO) (hval 0 25 v0 rfl rfl) h0
 have lt1:∀x∈p1,x.block<W.heap.size:=by obtain⟨m,hm⟩:=h1;exact DataW.trod_lt m _ _ _ hm
 obtain⟨x1,ok1,sz1,al1⟩:=JQ (P:=Tryz.prog) (T:=26) (e:=(eS 2 P6)) (hval 1 26 v1 rfl rfl) h1
 have lt2:∀x∈p2,x.block<W.heap.size:=by obtain⟨m,hm⟩:=h2;exact DataW.trod_lt m _ _ _ hm
 obtain⟨x2,ok2,sz2,al2⟩:=JQ (P:=Tryz.prog) (T:=23) (e:=(eS 4 eQ)) (hval 2 23 v2 rfl rfl) h2
 have hsz:Rows.uptoBulk d0+Rows.uptoBulk d1+Rows.uptoBulk d2≤1048576:=by
  have:=of_decide_eq_true hk;simp only[List.cons_append,List.nil_append,List.append_nil,Rows.uptoBulkAll]at this;omega
 clear hA0
 refine(QI (qL (Gi x0 x1 x2 ok0 ok1 ok2 (Nat.le_trans (Nat.add_le_add (Nat.add_le_add sz0 sz1) sz2) hsz))) (W:=W) (vs:=[v0,v1,v2]) ⟨al0,al1.1,al2.1,trivial⟩).mono fun e W' ⟨he,bel⟩=>?_
 subst he
 exact⟨_,rfl,_,_,_,[],_,[],hW',trodAll_mk1 (shut_bool Tryz.underlying4 _),(trodAll_cons_mk (Below.trod Bg (by kernel_rfl) (of_decide_eq_true (by kernel_rfl)) h0 bel lt0) (trodAll_cons_mk (Below.trod Bg (by kernel_rfl) (of_decide_eq_true (by kernel_rfl)) h1 bel lt1) (trodAll_cons_mk (Below.trod Bg (by kernel_rfl) (of_decide_eq_true (by kernel_rfl)) h2 bel lt2) trodAll_mk0))),rfl,bel.frame _,fun h=>by cases h⟩
set_option maxRecDepth 100000 in
theorem pB(os:Os)(started:os.Started)(H:Type)(enc:TypeId×Value→H)(F:Stop.Interp):
  ReturnsInHanded {} Tryz.checked os 6 .any ((Rows.OpenSpec.upto Rows.tableauOptimalSpec).pre6 enc Tryz.prog Tryz.f6 Rows.tableauOptimalUptoRow.domain false) (((Rows.OpenSpec.upto Rows.tableauOptimalSpec).at F).post enc Tryz.prog Tryz.f6 false true false false):=by
 refine returnsInHanded_of_cond (C:=Tryz.checked) (s:=Rows.OpenSpec.upto Rows.tableauOptimalSpec) (k:=Rows.uptoSmall) rfl adk started (by kernel_rfl) Tryz.func6
  (OpenSpec.witness (enc:=enc) (C:=Tryz.checked) (s:=Rows.OpenSpec.upto Rows.tableauOptimalSpec) (k:=Rows.uptoSmall) rfl false ⟨#[],#[.agg #[.int .i64 0,.slice none 0 0,.slice none 0 0,.slice none 0 0],.slice none 0 0,.slice none 0 0],[]⟩ 8 (by kernel_rfl) (by kernel_rfl) (by kernel_rfl)
   (x:=([.agg [.lit (.int .i64 0),.nil,.nil,.nil],.nil,.nil],[],[])) (by kernel_rfl) rfl (by kernel_rfl)) ?_
 intro W base args ds gs before hval hW _ hk _
 exact oc H enc W base args ds gs before hval hW hk
theorem tableauOptimalUpto_holds:Rows.TableauOptimalUptoSaid:=
 OpenClaim.holds_of_cond 6 Tryz.f6 rfl rfl rfl rfl rfl rfl rfl ⟨rfl,rfl,rfl,rfl,rfl⟩ rfl rfl rfl rfl rfl (by kernel_rfl) Tryz.func6 (by kernel_rfl)
  (of_decide_eq_true (by kernel_rfl)) (by unfold Func.isWrapper;first|(rw[if_pos (by decide+kernel)];kernel_rfl)|(rw[if_neg (by decide+kernel)];exact⟨rfl,rfl⟩))
  (fun os started H enc _ F=>pB os started H enc F)
end Go.Proofs.YtningmnklfpfjaaGreat
