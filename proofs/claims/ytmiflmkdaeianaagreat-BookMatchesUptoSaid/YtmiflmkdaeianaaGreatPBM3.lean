/- A part of the proof: the framework, the plain functions, the followed functions, the plain laws. -/
import Derived.Test.YtmiflmkdaeianaaGreatPBM2
set_option linter.unusedVariables false
set_option linter.unusedSimpArgs false
namespace Go.Proofs.YtmiflmkdaeianaaGreat
open Go.Fw Go.Fw.Z Go.RowKit
theorem bN{x0:Int}{r:Zr}(h:aM x0=some r):Pure Tryz.prog 32 [.v (.int .i64 x0)] (.agg (eZ r)):=by
 refine aq Tryz.func32 rfl (Nat.le_of_ble_eq_true rfl) (fun c9 M vs hvs=>?_)
 unfold aM at h
 refine sr<|al (cs:=[.v (.bool false),slc 1 (List.map ah [])]) (by exact⟨SV.aa _,imp_nil,trivial⟩) rfl<|dn<|sr<|mv rfl<|lE h fun x5 h5 h=>cv _ rfl (UK.conv h5)<|ag rfl<|dn<|qq<|sr<|mv rfl<|lE h fun x7 h7 h=>ls _ rfl rfl h7<|dn ?_
 refine aC h (fun j2=>AS.bL 14 [(0,.sv (.v (.int .i64 x0))),(2,.ptr 2 0),(3,.sv (.v (.int .u64 ((j2:Nat):Int))))] [(2,⟨35,[.sv (.v (.bool false)),.sv (slc 1 (List.map ah []))]⟩)] []) (fun h=>?_) (fun Cf h=>?_)
 cases x7
 exact fs<|⟨x5,(F h),wR []⟩
 exact cT<|af<|mv rfl<|lE (V h) fun x9 h9 h=>RT.neg .none _ rfl T (UK.neg h9)<|ag rfl<|dn<|⟨x9,h,wR []⟩
 try dsimp only
 refine ae.n<|sr<|mv rfl<|lE h fun fV iV h=>ls _ rfl rfl iV<|mv rfl ?_
 obtain⟨⟨qo,qp⟩,jy,h⟩:=bS h
 refine cl (iB jy) ⟨rfl,rfl,trivial⟩<|so rfl rfl rfl<|dn<|aj ?_
 obtain rfl:=O h
 exact RZ (.agg rfl rfl (.cons rfl (.cons rfl (.nil))) rfl (.nil))
theorem di{x0:Zr}{r:Int×Bool}(h:cw x0=some r):Pure Tryz.prog 48 [.agg (eZ x0)] (.w6 [.v (.int .i64 r.1),.v (.bool r.2)]):=by
 obtain⟨aD,aB⟩:=x0
 refine aq Tryz.func48 rfl (Nat.le_of_ble_eq_true rfl) (fun c9 M vs hvs=>?_)
 unfold cw at h
 refine sr<|bx rfl<|ag rfl<|ag rfl<|dn<|sr<|fa rfl rfl<|lV rfl rfl rfl<|bE h fun x8 h8 h=>cl (aZ h8) ⟨rfl,trivial⟩<|ag rfl<|dn<|qq<|sr<|mv rfl<|lE h fun eG gG h=>ln rfl gG<|lE h fun fV iV h=>gt _ rfl rfl iV<|dn ?_
 cases fV
 refine fs<|sr<|mv rfl<|bE (F h) fun fE jy h=>cl (gI jy) ⟨rfl,trivial⟩<|ag rfl<|dn<|qq<|sr<|fa rfl rfl<|lV rfl rfl rfl<|dn ?_
 cases aD
 refine fs<|qq<|sr<|mv rfl<|lE (F h) fun gR lj h=>ge _ rfl rfl (leN (p:=9223372036854775808) (q:=fE) lj)<|dn ?_
 cases gR
 refine fs<|sr<|mv rfl<|lE (F h) fun dR lQ h=>cv _ rfl lQ<|ag rfl<|ag rfl<|dn<|aj ?_
 obtain rfl:=O h
 exact R2 rfl rfl
 refine cT<|sr<|ag rfl<|ag rfl<|dn<|aj<|ae.r ?_
 obtain rfl:=O (V h)
 exact R2 rfl rfl
 refine cT<|qq<|sr<|mv rfl<|lE (V h) fun dI iW h=>gt _ rfl rfl (O1 (p:=9223372036854775808) (q:=fE) iW)<|dn ?_
 cases dI
 refine fs<|sr<|mv rfl<|lE (F h) fun jL mW h=>RT.neg .none _ rfl T (UK.neg mW)<|lE h fun gQ kE h=>cv _ rfl kE<|ag rfl<|ag rfl<|dn<|aj<|ae.r ?_
 obtain rfl:=O h
 exact R2 rfl rfl
 refine cT<|sr<|ag rfl<|ag rfl<|dn<|aj<|ae.r<|ae.r ?_
 obtain rfl:=O (V h)
 exact R2 rfl rfl
 refine cT<|sr<|ag rfl<|ag rfl<|dn<|aj<|ae.r ?_
 obtain rfl:=O (V h)
 exact R2 rfl rfl
theorem mZ{x0:Bool}{x1:List Nat}{x2:Bool}{x3:List Nat}{r:Zr}(h:bT x0 x1 x2 x3=some r):Pure Tryz.prog 49 [.v (.bool x0),slc 1 (List.map ah x1),.v (.bool x2),slc 1 (List.map ah x3)] (.agg (eZ r)):=by
 refine aq Tryz.func49 rfl (Nat.le_of_ble_eq_true rfl) (fun c9 M vs hvs=>?_)
 unfold bT at h
 refine sr<|al (cs:=[.v (.bool false),slc 1 (List.map ah [])]) (by exact⟨SV.aa _,imp_nil,trivial⟩) rfl<|dn<|qq<|sr<|mv rfl<|mv rfl<|lE h fun fV iV h=>RT.QV .none _ rfl rfl T iV<|dn ?_
 cases fV
 refine fs<|qq<|sr<|mv rfl<|mv rfl<|bE (F h) fun jL mW h=>cl (dG mW) ⟨rfl,rfl,trivial⟩<|lE h fun gQ kE h=>ls _ rfl rfl kE<|dn ?_
 cases gQ
 refine fs<|sr<|mv rfl<|mv rfl<|mv rfl<|bE (F h) fun gx kW h=>cl (jV kW) ⟨rfl,rfl,trivial⟩ ?_
 obtain⟨⟨oP,oQ⟩,vc,h⟩:=bS h
 refine cl (dS vc) ⟨rfl,rfl,trivial⟩<|so rfl rfl rfl<|dn<|aj ?_
 obtain rfl:=O h
 exact RZ (.agg rfl rfl (.cons rfl (.cons rfl (.nil))) rfl (.nil))
 refine cT<|sr<|mv rfl<|mv rfl<|mv rfl<|bE (V h) fun dR lQ h=>cl (jV lQ) ⟨rfl,rfl,trivial⟩ ?_
 obtain⟨⟨gW,nP⟩,om,h⟩:=bS h
 refine cl (dS om) ⟨rfl,rfl,trivial⟩<|so rfl rfl rfl<|dn<|aj<|ae.r ?_
 obtain rfl:=O h
 exact RZ (.agg rfl rfl (.cons rfl (.cons rfl (.nil))) rfl (.nil))
 refine cT<|sr<|mv rfl<|mv rfl<|mv rfl<|bE (V h) fun jq nK h=>cl (nQ nK) ⟨rfl,rfl,trivial⟩ ?_
 obtain⟨⟨qt,qu⟩,jz,h⟩:=bS h
 refine cl (dS jz) ⟨rfl,rfl,trivial⟩<|so rfl rfl rfl<|dn<|aj<|ae.r ?_
 obtain rfl:=O h
 exact RZ (.agg rfl rfl (.cons rfl (.cons rfl (.nil))) rfl (.nil))
theorem fg{x0:Zr}{x1:Zr}{r:Zr}(h:cM x0 x1=some r):Pure Tryz.prog 29 [.agg (eZ x0),.agg (eZ x1)] (.agg (eZ r)):=by
 obtain⟨aD,aB⟩:=x0
 obtain⟨bt,bn⟩:=x1
 refine aq Tryz.func29 rfl (Nat.le_of_ble_eq_true rfl) (fun c9 M vs hvs=>?_)
 unfold cM at h
 refine sr<|bx rfl<|bx rfl<|al (cs:=[.v (.bool false),slc 1 (List.map ah [])]) (by exact⟨SV.aa _,imp_nil,trivial⟩) rfl<|dn<|sr<|ld rfl rfl (.cons rfl (.cons rfl (.nil))) ?_
 obtain⟨⟨xP,Cg⟩,gX,h⟩:=bS h
 refine cl (di gX) ⟨rfl,trivial⟩<|mv rfl<|ex rfl rfl<|ex rfl rfl<|ag rfl<|ag rfl<|dn<|sr<|ld rfl rfl (.cons rfl (.cons rfl (.nil))) ?_
 obtain⟨⟨zk,Ch⟩,iW,h⟩:=bS h
 refine cl (di iW) ⟨rfl,trivial⟩<|mv rfl<|ex rfl rfl<|ex rfl rfl<|ag rfl<|ag rfl<|dn<|qq<|qq ?_
 refine aC h (fun j3=>AS.bL 48 [(2,.ptr 2 0),(3,.ptr 3 0),(4,.ptr 4 0),(5,.sv (.v (.int .i64 xP))),(7,.sv (.v (.int .i64 zk))),(23,.sv (.v (.bool j3)))] [(4,⟨35,[.sv (.v (.bool false)),.sv (slc 1 (List.map ah []))]⟩),(3,⟨35,[.sv (.v (.bool bt)),.sv (slc 1 (List.map ah bn))]⟩),(2,⟨35,[.sv (.v (.bool aD)),.sv (slc 1 (List.map ah aB))]⟩)] []) (fun h=>?_) (fun va h=>?_)
 refine af<|mv rfl<|mv rfl<|bE h fun Bm At h=>?_
 cases Cg
 obtain rfl:=O (F At)
 exact ww<|pF rfl<|dn<|⟨false,h,wR []⟩
 refine gm rfl ?_
 obtain rfl:=O (V At)
 exact pT rfl<|dn<|⟨Ch,h,wR []⟩
 try dsimp only
 refine ae.n ?_
 refine aC h (fun j5=>AS.bL 48 [(2,.ptr 2 0),(3,.ptr 3 0),(4,.ptr 4 0)] [(4,⟨35,[.sv (.v (.bool false)),.sv (slc 1 (List.map ah []))]⟩),(3,⟨35,[.sv (.v (.bool bt)),.sv (slc 1 (List.map ah bn))]⟩),(2,⟨35,[.sv (.v (.bool aD)),.sv (slc 1 (List.map ah aB))]⟩)] []) (fun h=>?_) (fun j5 h=>?_)
 cases va
 exact fs<|⟨(),(F h),wR []⟩
 refine cT<|sr<|mv rfl<|mv rfl<|lE (V h) fun gu mD h=>ad _ rfl rfl mD<|ag rfl<|dn<|sr<|mv rfl<|mv rfl<|lE h fun gx kW h=>RT.xor .none _ rfl rfl T kW<|mv rfl<|mv rfl<|lE h fun iu lY h=>RT.xor .none _ rfl rfl T lY<|lE h fun iZ mu h=>RT.and .none _ rfl rfl T mu<|lE h fun lW qH h=>ge _ rfl rfl qH<|dn ?_
 cases lW
 exact fs<|⟨(),(F h),wR []⟩
 refine cT<|sr<|mv rfl ?_
 obtain⟨⟨jS,jb⟩,qI,h⟩:=bS (V h)
 refine cl (bN qI) ⟨rfl,trivial⟩<|so rfl rfl rfl<|dn<|aj<|ae.r<|ae.r ?_
 obtain rfl:=O h
 exact RZ (.agg rfl rfl (.cons rfl (.cons rfl (.nil))) rfl (.nil))
 try dsimp only
 refine ae.n<|qq<|ai mixed<|fa rfl rfl<|lV rfl rfl rfl<|fa rfl rfl<|lV rfl rfl rfl<|bE h fun vV Cm h=>cl (aZ Cm) ⟨rfl,trivial⟩<|fa rfl rfl<|lV rfl rfl rfl<|fa rfl rfl<|lV rfl rfl rfl<|bE h fun rm h46 h=>cl (aZ h46) ⟨rfl,trivial⟩ ?_
 obtain⟨⟨Bj,Bl⟩,DW,h⟩:=bS h
 refine cl (mZ DW) ⟨rfl,rfl,rfl,rfl,trivial⟩<|so rfl rfl rfl ?_
 refine RT.done ⟨by kernel_rfl,?_⟩
 refine ae.n<|aj ?_
 obtain rfl:=O h
 exact RZ (.agg rfl rfl (.cons rfl (.cons rfl (.nil))) rfl (.nil))
theorem pU{x0:Zr}{x1:Zr}{r:Zr}(h:iA x0 x1=some r):Pure Tryz.prog 31 [.agg (eZ x0),.agg (eZ x1)] (.agg (eZ r)):=by
 obtain⟨aD,aB⟩:=x0
 obtain⟨bt,bn⟩:=x1
 refine aq Tryz.func31 rfl (Nat.le_of_ble_eq_true rfl) (fun c9 M vs hvs=>?_)
 unfold iA at h
 refine sr<|bx rfl<|bx rfl<|al (cs:=[.v (.bool false),slc 1 (List.map ah [])]) (by exact⟨SV.aa _,imp_nil,trivial⟩) rfl<|dn<|sr<|ld rfl rfl (.cons rfl (.cons rfl (.nil))) ?_
 obtain⟨⟨xP,Cg⟩,gX,h⟩:=bS h
 refine cl (di gX) ⟨rfl,trivial⟩<|mv rfl<|ex rfl rfl<|ex rfl rfl<|ag rfl<|ag rfl<|dn<|sr<|ld rfl rfl (.cons rfl (.cons rfl (.nil))) ?_
 obtain⟨⟨zk,Ch⟩,iW,h⟩:=bS h
 refine cl (di iW) ⟨rfl,trivial⟩<|mv rfl<|ex rfl rfl<|ex rfl rfl<|ag rfl<|ag rfl<|dn<|qq<|qq ?_
 refine aC h (fun j3=>AS.bL 49 [(2,.ptr 2 0),(3,.ptr 3 0),(4,.ptr 4 0),(5,.sv (.v (.int .i64 xP))),(7,.sv (.v (.int .i64 zk))),(23,.sv (.v (.bool j3)))] [(4,⟨35,[.sv (.v (.bool false)),.sv (slc 1 (List.map ah []))]⟩),(3,⟨35,[.sv (.v (.bool bt)),.sv (slc 1 (List.map ah bn))]⟩),(2,⟨35,[.sv (.v (.bool aD)),.sv (slc 1 (List.map ah aB))]⟩)] []) (fun h=>?_) (fun va h=>?_)
 refine af<|mv rfl<|mv rfl<|bE h fun Bm At h=>?_
 cases Cg
 obtain rfl:=O (F At)
 exact ww<|pF rfl<|dn<|⟨false,h,wR []⟩
 refine gm rfl ?_
 obtain rfl:=O (V At)
 exact pT rfl<|dn<|⟨Ch,h,wR []⟩
 try dsimp only
 refine ae.n ?_
 refine aC h (fun j5=>AS.bL 49 [(2,.ptr 2 0),(3,.ptr 3 0),(4,.ptr 4 0)] [(4,⟨35,[.sv (.v (.bool false)),.sv (slc 1 (List.map ah []))]⟩),(3,⟨35,[.sv (.v (.bool bt)),.sv (slc 1 (List.map ah bn))]⟩),(2,⟨35,[.sv (.v (.bool aD)),.sv (slc 1 (List.map ah aB))]⟩)] []) (fun h=>?_) (fun j5 h=>?_)
 cases va
 exact fs<|⟨(),(F h),wR []⟩
 refine cT<|sr<|mv rfl<|mv rfl<|lE (V h) fun gu mD h=>sb _ rfl rfl mD<|ag rfl<|dn<|sr<|mv rfl<|mv rfl<|lE h fun gx kW h=>RT.xor .none _ rfl rfl T kW<|mv rfl<|mv rfl<|lE h fun iu lY h=>RT.xor .none _ rfl rfl T lY<|lE h fun iZ mu h=>RT.and .none _ rfl rfl T mu<|lE h fun lW qH h=>ge _ rfl rfl qH<|dn ?_
 cases lW
 exact fs<|⟨(),(F h),wR []⟩
 refine cT<|sr<|mv rfl ?_
 obtain⟨⟨jS,jb⟩,qI,h⟩:=bS (V h)
 refine cl (bN qI) ⟨rfl,trivial⟩<|so rfl rfl rfl<|dn<|aj<|ae.r<|ae.r ?_
 obtain rfl:=O h
 exact RZ (.agg rfl rfl (.cons rfl (.cons rfl (.nil))) rfl (.nil))
 try dsimp only
 refine ae.n<|qq<|ai mixed<|fa rfl rfl<|lV rfl rfl rfl<|fa rfl rfl<|lV rfl rfl rfl<|bE h fun vV Cm h=>cl (aZ Cm) ⟨rfl,trivial⟩<|fa rfl rfl<|lV rfl rfl rfl<|lE h fun AG FL h=>nt rfl _ FL<|fa rfl rfl<|lV rfl rfl rfl<|bE h fun As DW h=>cl (aZ DW) ⟨rfl,trivial⟩ ?_
 obtain⟨⟨mS,mU⟩,h48,h⟩:=bS h
 refine cl (mZ h48) ⟨rfl,rfl,rfl,rfl,trivial⟩<|so rfl rfl rfl ?_
 refine RT.done ⟨by kernel_rfl,?_⟩
 refine ae.n<|aj ?_
 obtain rfl:=O h
 exact RZ (.agg rfl rfl (.cons rfl (.cons rfl (.nil))) rfl (.nil))
theorem jW{x0:Zr}{x1:Zr}{r:Zr}(h:ff x0 x1=some r):Pure Tryz.prog 56 [.agg (eZ x0),.agg (eZ x1)] (.agg (eZ r)):=by
 obtain⟨aD,aB⟩:=x0
 obtain⟨bt,bn⟩:=x1
 refine aq Tryz.func56 rfl (Nat.le_of_ble_eq_true rfl) (fun c9 M vs hvs=>?_)
 unfold ff at h
 refine sr<|bx rfl<|bx rfl<|al (cs:=[.v (.bool false),slc 1 (List.map ah [])]) (by exact⟨SV.aa _,imp_nil,trivial⟩) rfl<|dn<|qq<|ai mixed<|fa rfl rfl<|lV rfl rfl rfl<|bE h fun x9 h9 h=>cl (aZ h9) ⟨rfl,trivial⟩<|fa rfl rfl<|lV rfl rfl rfl<|bE h fun dA gX h=>cl (aZ gX) ⟨rfl,trivial⟩<|ag rfl<|ag rfl ?_
 refine RT.done ⟨by kernel_rfl,?_⟩
 refine ae.n<|qq<|qq ?_
 refine aC h (fun j3=>AS.bL 41 [(2,.ptr 2 0),(3,.ptr 3 0),(4,.ptr 4 0),(5,.sv (slc 1 (List.map ah x9))),(6,.sv (slc 1 (List.map ah dA))),(20,.sv (.v (.bool j3)))] [(4,⟨35,[.sv (.v (.bool false)),.sv (slc 1 (List.map ah []))]⟩),(3,⟨35,[.sv (.v (.bool bt)),.sv (slc 1 (List.map ah bn))]⟩),(2,⟨35,[.sv (.v (.bool aD)),.sv (slc 1 (List.map ah aB))]⟩)] []) (fun h=>?_) (fun zm h=>?_)
 refine af<|mv rfl<|lE h fun gp kU h=>ln rfl kU<|lE h fun jq nK h=>RT.leq .none _ rfl rfl T nK<|mv rfl<|bE h fun O8 kG h=>?_
 cases jq
 obtain rfl:=O (F kG)
 exact ww<|ww<|ww<|pF rfl<|dn<|⟨false,h,wR []⟩
 refine gm rfl<|lE (V kG) fun dQ iN kG=>gn rfl iN<|lE kG fun jL mW kG=>RT.leq (.some rfl rfl) _ rfl rfl T mW ?_
 obtain rfl:=O kG
 exact pT rfl<|dn<|⟨jL,h,wR []⟩
 try dsimp only
 refine ae.n ?_
 cases zm
 refine fs<|qq<|ai mixed<|fa rfl rfl<|lV rfl rfl rfl<|fa rfl rfl<|lV rfl rfl rfl<|lE (F h) fun oH qI h=>RT.Dv .none _ rfl rfl T qI<|mv rfl<|mv rfl<|bE h fun qN Ct h=>cl (vb Ct) ⟨rfl,rfl,trivial⟩ ?_
 obtain⟨⟨mm,mq⟩,sx,h⟩:=bS h
 refine cl (dS sx) ⟨rfl,rfl,trivial⟩<|so rfl rfl rfl ?_
 refine RT.done ⟨by kernel_rfl,?_⟩
 refine ae.n<|aj ?_
 obtain rfl:=O h
 exact RZ (.agg rfl rfl (.cons rfl (.cons rfl (.nil))) rfl (.nil))
 refine cT<|qq<|ai mixed<|fa rfl rfl<|lV rfl rfl rfl<|fa rfl rfl<|lV rfl rfl rfl<|lE (V h) fun nH om h=>RT.Dv .none _ rfl rfl T om<|mv rfl<|bE h fun jr nI h=>cl (gI nI) ⟨rfl,trivial⟩<|mv rfl<|bE h fun gx kW h=>cl (gI kW) ⟨rfl,trivial⟩<|lE h fun qm vc h=>RT.mul .none _ rfl rfl T (UK.mul (a:=jr) (b:=gx) vc) ?_
 obtain⟨⟨GS,Bn⟩,sV,h⟩:=bS h
 refine cl (iB sV) ⟨rfl,rfl,trivial⟩<|so rfl rfl rfl ?_
 refine RT.done ⟨by kernel_rfl,?_⟩
 refine ae.n<|aj<|ae.r ?_
 obtain rfl:=O h
 exact RZ (.agg rfl rfl (.cons rfl (.cons rfl (.nil))) rfl (.nil))
theorem mF{x0:Zr}{r:Zr}(h:gz x0=some r):Pure Tryz.prog 81 [.agg (eZ x0)] (.agg (eZ r)):=by
 obtain⟨aD,aB⟩:=x0
 refine aq Tryz.func81 rfl (Nat.le_of_ble_eq_true rfl) (fun c9 M vs hvs=>?_)
 unfold gz at h
 refine sr<|bx rfl<|al (cs:=[.v (.bool false),slc 1 (List.map ah [])]) (by exact⟨SV.aa _,imp_nil,trivial⟩) rfl<|dn<|qq<|ai mixed<|fa rfl rfl<|lV rfl rfl rfl<|lE h fun x5 h5 h=>nt rfl _ h5<|fa rfl rfl<|lV rfl rfl rfl<|bE h fun x8 h8 h=>cl (aZ h8) ⟨rfl,trivial⟩<|bE h fun x9 h9 h=>cl (lX h9) ⟨rfl,trivial⟩ ?_
 obtain⟨⟨k7,k8⟩,gG,h⟩:=bS h
 refine cl (dS gG) ⟨rfl,rfl,trivial⟩<|so rfl rfl rfl ?_
 refine RT.done ⟨by kernel_rfl,?_⟩
 refine ae.n<|aj ?_
 obtain rfl:=O h
 exact RZ (.agg rfl rfl (.cons rfl (.cons rfl (.nil))) rfl (.nil))
theorem fG{x0:Zr}{r:Int}(h:cD x0=some r):Pure Tryz.prog 38 [.agg (eZ x0)] (.v (.int .i64 r)):=by
 obtain⟨aD,aB⟩:=x0
 refine aq Tryz.func38 rfl (Nat.le_of_ble_eq_true rfl) (fun c9 M vs hvs=>?_)
 unfold cD at h
 refine sr<|bx rfl<|ag rfl<|dn<|qq<|ax<|sr<|fa rfl rfl<|lV rfl rfl rfl<|bE h fun x6 h6 h=>cl (aZ h6) ⟨rfl,trivial⟩<|lE h fun x7 h7 h=>ln rfl h7<|lE h fun x8 h8 h=>eq _ rfl rfl (oN (p:=x7) (q:=0) h8)<|ag rfl<|dn ?_
 cases x8
 refine cF<|sr<|fa rfl rfl<|lV rfl rfl rfl<|ag rfl<|dn ?_
 replace h:=F h
 cases aD
 refine cF<|aE<|aG.n<|ae.n<|sr<|ag rfl<|dn<|aj ?_
 obtain rfl:=O (F h)
 exact R1 rfl
 refine cT<|sr<|ag rfl<|dn<|aj<|aG.r<|ae.r ?_
 obtain rfl:=O (V h)
 exact R1 rfl
 refine cT<|sr<|ag rfl<|dn<|aj<|aG.r<|ae.r ?_
 obtain rfl:=O (V h)
 exact R1 rfl
theorem Cu{x0:Zr}{x1:Zr}{r:Int}(h:lf x0 x1=some r):Pure Tryz.prog 55 [.agg (eZ x0),.agg (eZ x1)] (.v (.int .i64 r)):=by
 obtain⟨aD,aB⟩:=x0
 obtain⟨bt,bn⟩:=x1
 refine aq Tryz.func55 rfl (Nat.le_of_ble_eq_true rfl) (fun c9 M vs hvs=>?_)
 unfold lf at h
 refine sr<|bx rfl<|bx rfl<|ag rfl<|dn<|qq<|ai mixed<|ld rfl rfl (.cons rfl (.cons rfl (.nil)))<|bE h fun x8 h8 h=>cl (fG h8) ⟨rfl,trivial⟩<|ld rfl rfl (.cons rfl (.cons rfl (.nil)))<|bE h fun eG gG h=>cl (fG gG) ⟨rfl,trivial⟩<|ag rfl<|ag rfl ?_
 refine RT.done ⟨by kernel_rfl,?_⟩
 refine ae.n<|qq<|ax<|sr<|mv rfl<|mv rfl<|lE h fun gp kU h=>ls _ rfl rfl kU<|ag rfl<|dn ?_
 cases gp
 refine cF<|sr<|mv rfl<|mv rfl<|lE (F h) fun dQ iN h=>gt _ rfl rfl iN<|ag rfl<|dn ?_
 cases dQ
 refine cF<|sr<|mv rfl<|lE (F h) fun ij mX h=>ls _ rfl rfl mX<|ag rfl<|dn ?_
 cases ij
 refine cF<|aE<|aG.n<|ae.n<|qq<|ai mixed<|fa rfl rfl<|lV rfl rfl rfl<|bE (F h) fun lU sV h=>cl (aZ sV) ⟨rfl,trivial⟩<|fa rfl rfl<|lV rfl rfl rfl<|bE h fun lW qH h=>cl (aZ qH) ⟨rfl,trivial⟩<|bE h fun pH AH h=>cl (dG AH) ⟨rfl,rfl,trivial⟩<|ag rfl ?_
 refine RT.done ⟨by kernel_rfl,?_⟩
 refine ae.n<|aj ?_
 obtain rfl:=O h
 exact R1 rfl
 refine cT<|qq<|ai mixed<|fa rfl rfl<|lV rfl rfl rfl<|bE (V h) fun dR lQ h=>cl (aZ lQ) ⟨rfl,trivial⟩<|fa rfl rfl<|lV rfl rfl rfl<|bE h fun jr nI h=>cl (aZ nI) ⟨rfl,trivial⟩<|bE h fun jR ru h=>cl (dG ru) ⟨rfl,rfl,trivial⟩<|ag rfl ?_
 refine RT.done ⟨by kernel_rfl,?_⟩
 refine ae.n<|aj<|aG.r<|ae.r ?_
 obtain rfl:=O h
 exact R1 rfl
 refine cT<|sr<|ag rfl<|dn<|aj<|aG.r<|ae.r ?_
 obtain rfl:=O (V h)
 exact R1 rfl
 refine cT<|sr<|ag rfl<|dn<|aj<|aG.r<|ae.r ?_
 obtain rfl:=O (V h)
 exact R1 rfl
theorem jt{x0:Zr}{x1:Zr}{r:Zr×Zr×Int}(h:cu x0 x1=some r):Pure Tryz.prog 37 [.agg (eZ x0),.agg (eZ x1)] (.w6 [.agg (eZ r.1),.agg (eZ r.2.1),.v (.int .i64 r.2.2)]):=by
 obtain⟨aD,aB⟩:=x0
 obtain⟨bt,bn⟩:=x1
 refine aq Tryz.func37 rfl (Nat.le_of_ble_eq_true rfl) (fun c9 M vs hvs=>?_)
 unfold cu at h
 refine sr<|bx rfl<|bx rfl<|al (cs:=[.v (.bool false),slc 1 (List.map ah [])]) (by exact⟨SV.aa _,imp_nil,trivial⟩) rfl<|al (cs:=[.v (.bool false),slc 1 (List.map ah [])]) (by exact⟨SV.aa _,imp_nil,trivial⟩) rfl<|ag rfl<|dn<|qq<|ai mixed<|fa rfl rfl<|lV rfl rfl rfl<|bE h fun fE jy h=>cl (aZ jy) ⟨rfl,trivial⟩<|fa rfl rfl<|lV rfl rfl rfl ?_
 refine bE h fun ek jz h=>cl (aZ jz) ⟨rfl,trivial⟩<|ag rfl<|ag rfl ?_
 refine RT.done ⟨by kernel_rfl,?_⟩
 refine ae.n<|qq<|sr<|mv rfl<|lE h fun dQ iN h=>ln rfl iN<|lE h fun jL mW h=>eq _ rfl rfl (oN (p:=dQ) (q:=0) mW)<|dn ?_
 cases jL
 refine fs<|sr<|mv rfl<|mv rfl ?_
 obtain⟨⟨zo,Ci⟩,om,h⟩:=bS (F h)
 refine cl (nR om) ⟨rfl,rfl,trivial⟩<|mv rfl<|ex rfl rfl<|ex rfl rfl<|ag rfl<|ag rfl<|dn<|sr<|mv rfl<|bE h fun gx kW h=>cl (aZ kW) ⟨rfl,trivial⟩<|ag rfl<|dn<|qq<|qq ?_
 refine aC h (fun j3=>AS.bL 52 [(2,.ptr 2 0),(3,.ptr 3 0),(4,.ptr 4 0),(5,.ptr 5 0),(8,.sv (slc 1 (List.map ah ek))),(9,.sv (slc 1 (List.map ah zo))),(10,.sv (slc 1 (List.map ah gx))),(36,.sv (.v (.bool j3.1)))] [(5,⟨35,[.sv (.v (.bool false)),.sv (slc 1 (List.map ah []))]⟩),(4,⟨35,[.sv (.v (.bool false)),.sv (slc 1 (List.map ah []))]⟩),(3,⟨35,[.sv (.v (.bool bt)),.sv (slc 1 (List.map ah bn))]⟩),(2,⟨35,[.sv (.v (.bool j3.2)),.sv (slc 1 (List.map ah aB))]⟩)] []) (fun h=>?_) (fun j3 h=>?_)
 refine af<|fa rfl rfl<|lV rfl rfl rfl<|mv rfl<|bE h fun O9 At h=>?_
 cases aD
 obtain rfl:=O (F At)
 exact ww<|ww<|ww<|pF rfl<|dn<|⟨(false,false),h,wR []⟩
 refine gm rfl<|lE (V At) fun lW qH At=>gn rfl qH<|lE At fun pH AH At=>gg _ rfl rfl AH ?_
 obtain rfl:=O At
 exact pT rfl<|dn<|⟨(pH,true),h,wR []⟩
 obtain⟨Ke,tH⟩:=j3
 try dsimp only
 refine ae.n ?_
 refine aC h (fun j5=>AS.bL 52 [(2,.ptr 2 0),(3,.ptr 3 0),(4,.ptr 4 0),(5,.ptr 5 0),(9,.sv (slc 1 (List.map ah j5.1))),(10,.sv (slc 1 (List.map ah j5.2)))] [(5,⟨35,[.sv (.v (.bool false)),.sv (slc 1 (List.map ah []))]⟩),(4,⟨35,[.sv (.v (.bool false)),.sv (slc 1 (List.map ah []))]⟩),(3,⟨35,[.sv (.v (.bool bt)),.sv (slc 1 (List.map ah bn))]⟩),(2,⟨35,[.sv (.v (.bool tH)),.sv (slc 1 (List.map ah aB))]⟩)] []) (fun h=>?_) (fun j5 h=>?_)
 cases Ke
 exact fs<|⟨(zo,gx),(F h),wR []⟩
 exact cT<|sr<|mv rfl<|bl (l:=[1]) (e:=ah) (.one rfl (.nil)) rfl rfl rfl rfl rfl rfl<|bE (V h) fun qN Ct h=>cl (nQ Ct) ⟨rfl,rfl,trivial⟩<|ag rfl<|dn<|af<|mv rfl<|mv rfl<|bE h fun oc zx h=>cl (jV zx) ⟨rfl,rfl,trivial⟩<|ag rfl<|dn<|⟨(qN,oc),h,wR []⟩
 obtain⟨Kf,DS⟩:=j5
 try dsimp only
 refine ae.n<|sr<|fa rfl rfl<|lV rfl rfl rfl<|fa rfl rfl<|lV rfl rfl rfl<|lE h fun As DW h=>RT.Dv .none _ rfl rfl T DW<|mv rfl ?_
 obtain⟨⟨zq,zu⟩,Nh,h⟩:=bS h
 refine cl (dS Nh) ⟨rfl,rfl,trivial⟩<|mv rfl ?_
 obtain⟨⟨DT,DU⟩,IE,h⟩:=bS h
 refine cl (dS IE) ⟨rfl,rfl,trivial⟩<|so rfl rfl rfl<|so rfl rfl rfl<|ag rfl<|dn<|aj ?_
 obtain rfl:=O h
 exact RZ (.agg rfl rfl (.cons rfl (.cons rfl (.nil))) rfl (.agg rfl rfl (.cons rfl (.cons rfl (.nil))) rfl (.tmp rfl (.nil))))
 refine cT<|sr<|bI (cs:=[_,_]) (cs':=[.v (.bool false),slc 1 (List.map ah [])]) (.nil) ⟨SV.aa _,imp_nil,trivial⟩<|bI (cs:=[_,_]) (cs':=[.v (.bool false),slc 1 (List.map ah [])]) (.nil) ⟨SV.aa _,imp_nil,trivial⟩<|so rfl rfl rfl<|so rfl rfl rfl<|ag rfl<|dn<|aj<|ae.r ?_
 obtain rfl:=O (V h)
 exact RZ (.agg rfl rfl (.cons rfl (.cons rfl (.nil))) rfl (.agg rfl rfl (.cons rfl (.cons rfl (.nil))) rfl (.tmp rfl (.nil))))
theorem Cv{x0:Zr}{x1:Zr}{r:Zr}(h:jF x0 x1=some r):Pure Tryz.prog 82 [.agg (eZ x0),.agg (eZ x1)] (.agg (eZ r)):=by
 obtain⟨aD,aB⟩:=x0
 obtain⟨bt,bn⟩:=x1
 refine aq Tryz.func82 rfl (Nat.le_of_ble_eq_true rfl) (fun c9 M vs hvs=>?_)
 unfold jF at h
 refine sr<|bx rfl<|bx rfl<|al (cs:=[.v (.bool false),slc 1 (List.map ah [])]) (by exact⟨SV.aa _,imp_nil,trivial⟩) rfl<|dn<|qq<|ai mixed<|fa rfl rfl<|lV rfl rfl rfl<|bE h fun fE jy h=>cl (aZ jy) ⟨rfl,trivial⟩<|fa rfl rfl<|lV rfl rfl rfl<|bE h fun ek jz h=>cl (aZ jz) ⟨rfl,trivial⟩<|ag rfl<|ag rfl ?_
 refine RT.done ⟨by kernel_rfl,?_⟩
 refine ae.n<|qq<|bE h fun IB Kk mY=>?_
 refine aP (fun(ry:(List Nat)×(List Nat))=>AS.bL 57 [(4,.ptr 4 0),(5,.sv (slc 1 (List.map ah ry.1))),(6,.sv (slc 1 (List.map ah ry.2)))] [(4,⟨35,[.sv (.v (.bool false)),.sv (slc 1 (List.map ah []))]⟩)] []) (fun ry=>ry=IB) ?_ (fun ry Kl=>?_)
 refine ax ?_
 refine aQ Kk (fun yj=>AS.bL 57 [(4,.ptr 4 0),(5,.sv (slc 1 (List.map ah yj.1))),(6,.sv (slc 1 (List.map ah yj.2)))] [(4,⟨35,[.sv (.v (.bool false)),.sv (slc 1 (List.map ah []))]⟩)] []) (wR []) (fun yj y12 G12 h Km II=>?_)
 obtain⟨xQ,Cj⟩:=yj
 try dsimp only
 refine qq<|qq ?_
 refine aC h (fun j16=>AS.bL 57 [(4,.ptr 4 0),(5,.sv (slc 1 (List.map ah xQ))),(6,.sv (slc 1 (List.map ah Cj))),(29,.sv (.v (.bool j16)))] [(4,⟨35,[.sv (.v (.bool false)),.sv (slc 1 (List.map ah []))]⟩)] []) (fun h=>?_) (fun FE h=>?_)
 refine af<|mv rfl<|lE h fun dQ iN h=>ln rfl iN<|lE h fun jL mW h=>gt _ rfl rfl mW<|mv rfl<|bE h fun Kh Cw h=>?_
 cases jL
 obtain rfl:=O (F Cw)
 exact ww<|ww<|ww<|ww<|wu<|wu<|wu<|ww<|pF rfl<|dn<|⟨false,h,wR []⟩
 refine gm rfl<|lE (V Cw) fun gR lj Cw=>gn rfl lj<|lE Cw fun ig mB Cw=>gg _ rfl rfl mB<|gm rfl<|bE Cw fun Kg tR Cw=>?_
 cases ig
 refine gm rfl<|lE (F tR) fun gu mD tR=>gn rfl mD<|lE tR fun jr nI tR=>gg _ rfl rfl nI ?_
 obtain rfl:=O tR
 refine gF rfl ?_
 obtain rfl:=O Cw
 exact pT rfl<|dn<|⟨jr,h,wR []⟩
 obtain rfl:=O (V tR)
 refine ww<|ww<|ww<|gT rfl ?_
 obtain rfl:=O Cw
 exact pT rfl<|dn<|⟨true,h,wR []⟩
 try dsimp only
 refine ae.n ?_
 cases FE
 refine cF<|aW<|ae.x<|ae.x<|aG.x<|ae.n ?_
 obtain rfl:=O (F h)
 exact⟨(xQ,Cj),II _ rfl,wR []⟩
 refine cT<|aE<|ae.n<|ax<|sr<|mv rfl<|mv rfl ?_
 obtain⟨⟨adq,VH⟩,mu,h⟩:=bS (V h)
 refine cl (nR mu) ⟨rfl,rfl,trivial⟩<|mv rfl<|ex rfl rfl<|ex rfl rfl<|ag rfl<|ag rfl<|dn<|af<|mv rfl<|mv rfl<|bE h fun oa zw h=>cl (aZ zw) ⟨rfl,trivial⟩<|ag rfl<|ag rfl<|RT.done<|aG.n ?_
 obtain rfl:=O h
 exact ae.n ⟨(Cj,oa),Km _ rfl,wR []⟩
 subst Kl
 obtain⟨Ki,Kj⟩:=ry
 try dsimp only
 refine ae.n<|qq<|sr<|mv rfl<|lE mY fun mO sx mY=>ln rfl sx<|lE mY fun vV Cm mY=>eq _ rfl rfl (oN (p:=mO) (q:=0) Cm)<|dn ?_
 cases vV
 refine fs<|sr<|mv rfl<|bE (F mY) fun rm h46 mY=>cl (gI h46) ⟨rfl,trivial⟩<|mv rfl<|bE mY fun wo h48 mY=>cl (gI h48) ⟨rfl,trivial⟩<|ag rfl<|ag rfl<|dn<|qq<|bE mY fun V0 Sg IL=>?_
 refine aP (fun(Bo:Nat)=>AS.bL 57 [(4,.ptr 4 0),(9,.sv (.v (.int .u64 ((Bo:Nat):Int))))] [(4,⟨35,[.sv (.v (.bool false)),.sv (slc 1 (List.map ah []))]⟩)] []) (fun Bo=>Bo=V0) ?_ (fun Bo Sh=>?_)
 refine ax ?_
 refine aQ Sg (fun Pa=>AS.bL 57 [(4,.ptr 4 0),(9,.sv (.v (.int .u64 ((Pa.1:Nat):Int)))),(10,.sv (.v (.int .u64 ((Pa.2:Nat):Int))))] [(4,⟨35,[.sv (.v (.bool false)),.sv (slc 1 (List.map ah []))]⟩)] []) (wR []) (fun Pa y24 G24 h Si Nj=>?_)
 obtain⟨GW,wB⟩:=Pa
 try dsimp only
 refine qq<|sr<|mv rfl<|lE h fun tB Co h=>gt _ rfl rfl (O1 (p:=0) (q:=wB) Co)<|dn ?_
 cases tB
 refine cF<|aW<|ae.x<|ae.x<|aG.x<|ae.n ?_
 obtain rfl:=O (F h)
 exact⟨GW,Nj _ rfl,wR []⟩
 refine cT<|aE<|ae.n<|ax<|ai mixed<|mv rfl<|mv rfl<|mv rfl<|bE (V h) fun RL h54 h=>RT.rem .none _ rfl rfl T (nzR h54) (MX h54)<|ag rfl<|ag rfl ?_
 refine RT.done ⟨by kernel_rfl,?_⟩
 refine aG.n ?_
 obtain rfl:=O h
 exact ae.n ⟨(wB,RL),Si _ rfl,wR []⟩
 subst Sh
 try dsimp only
 refine ae.n<|sr<|mv rfl ?_
 obtain⟨⟨Pb,Pc⟩,R7,IL⟩:=bS IL
 refine cl (iB R7) ⟨rfl,rfl,trivial⟩<|so rfl rfl rfl<|dn<|aj ?_
 obtain rfl:=O IL
 exact RZ (.agg rfl rfl (.cons rfl (.cons rfl (.nil))) rfl (.nil))
 refine cT<|sr<|mv rfl<|bE (V mY) fun xN GX mY=>cl (lX GX) ⟨rfl,trivial⟩ ?_
 obtain⟨⟨GU,GV⟩,FL,mY⟩:=bS mY
 refine cl (dS FL) ⟨rfl,rfl,trivial⟩<|so rfl rfl rfl<|dn<|aj<|ae.r ?_
 obtain rfl:=O mY
 exact RZ (.agg rfl rfl (.cons rfl (.cons rfl (.nil))) rfl (.nil))
end Go.Proofs.YtmiflmkdaeianaaGreat
namespace Go.Fw
open Go.RowKit
def Mem.fr(M:Mem)(N:Nat):Mem:=fun b o=>if N≤b then M b o else none
theorem Mem.GY(M:Mem)(N:Nat):(M.fr N).le M:=fun b o v h=>by
 unfold Mem.fr at h
 split at h
 ·exact h
 ·cases h
theorem Mem.GZ{M M':Mem}(h:M.le M')(N:Nat):(M.fr N).le (M'.fr N):=fun b o v e=>by
 unfold Mem.fr at*
 split at e
 ·rename_i hn;rw[if_pos hn];exact h b o v e
 ·cases e
theorem Mem.V1(M:Mem)(N:Nat):(M.fr N).fr N=M.fr N:=by
 funext b o;unfold Mem.fr;split<;>rfl
def nw(N:Nat)(s:SV):SV:=⟨fun M v=>s.h (M.fr N) v∧∀g,v.ownBlock=some g→∃o,M.fr N g o=some (.agg #[]),fun hM h=>⟨s.mono (Mem.GZ hM N) h.1,fun g e=>by obtain⟨o,q⟩:=h.2 g e;exact⟨o,Mem.GZ hM N _ _ _ q⟩⟩⟩
theorem FM{N:Nat}{s:SV}:SV.imp (nw N s) s:=fun M _ h=>s.mono (Mem.GY M N) h.1
instance{N:Nat}{s:SV}{n:Nat}[h:T4 s n]:T4 (nw N s) n:=⟨fun M v hv=>h.h M v (FM M v hv)⟩
instance{N:Nat}{s:SV}{n:Nat}{rows:List (List SV)}[h:MH s n rows]:MH (nw N s) n rows:=⟨fun M v hv=>h.h M v (FM M v hv)⟩
instance{N:Nat}{s:SV}{n sz:Nat}{f:Nat→Nat→SV}[h:Sub s n sz f]:Sub (nw N s) n sz (fun a b=>nw N (f a b)):=⟨fun M v hv=>by
 obtain⟨a,c,e,hc,hs⟩:=h.h (M.fr N) v hv.1
 refine⟨a,c,e,hc,fun lo hi h1 h2=>⟨hs lo hi h1 h2,fun g hg=>hv.2 g ?_⟩⟩
 subst e
 cases a with
 |none=>split at hg<;>cases hg
 |some a=>
  split at hg
  ·exact hg
  ·have e:(a.add (lo*sz)).block=a.block:=by unfold Addr.add;split<;>rfl
   rw[show(Value.slice (Option.map (fun x=>x.add (lo*sz)) (some a)) (hi-lo) (c-lo)).ownBlock=some (a.add (lo*sz)).block from rfl,e]at hg
   exact hg⟩
instance{N:Nat}{s:SV}[h:One s]:One (nw N s):=⟨fun M v hv=>h.h _ v hv.1⟩
class Sup (N:Nat) (s:SV):Prop where
 h:∀M v,s.h M v→s.h (M.fr N) v
instance{N:Nat}{x:Value}:Sup N (.v x):=⟨fun _ _ h=>h⟩
instance{N:Nat}{s:SV}:Sup N (nw N s):=⟨fun M v h=>by show s.h ((M.fr N).fr N) v∧∀g,v.ownBlock=some g→∃o,(M.fr N).fr N g o=some (.agg #[]);rw[Mem.V1];exact h⟩
class Nk (N:Nat) (l:List SV):Prop where
 h:∀s∈l,∀M v,s.h M v→s.h (M.fr N) v
instance{N:Nat}:Nk N []:=⟨fun s h=>by cases h⟩
instance{N:Nat}{s:SV}{l:List SV}[a:Sup N s][b:Nk N l]:Nk N (s::l):=⟨fun t ht=>by
 rcases List.mem_cons.1 ht with rfl|ht
 ·exact a.h
 ·exact b.h t ht⟩
class AI (N:Nat) {α:Type} (e:α→List SV):Prop where
 h:∀x,Nk N (e x)
instance{N:Nat}:AI N Rj:=⟨fun _=>inferInstance⟩
instance{N:Nat}:AI N ah:=⟨fun _=>inferInstance⟩
instance{N:Nat}:AI N aS:=⟨fun _=>inferInstance⟩
instance{N:Nat}:AI N eB:=⟨fun _=>inferInstance⟩
abbrev fZ(N:Nat)(z:Zr):List SV:=[.v (.bool z.neg),nw N (slc 1 (z.w.map ah))]
abbrev Kq(N:Nat)(x:En):List SV:=[.v (.int .i64 x.acc),.v (.int .u8 ((x.kd:Nat):Int)),.v (.int .i64 x.hour),.v (.bool x.cW.neg),nw N (slc 1 (x.cW.w.map ah))]
instance{N:Nat}:EL (fZ N) 2:=⟨fun _=>rfl,fun _=>inferInstance⟩
instance{N:Nat}:EL (Kq N) 5:=⟨fun _=>rfl,fun _=>inferInstance⟩
instance{N:Nat}:AI N (fZ N):=⟨fun _=>inferInstance⟩
instance{N:Nat}:AI N (Kq N):=⟨fun _=>inferInstance⟩
theorem eL{α:Type}{N n:Nat}{e:α→List SV}:SV.imp (.v (.slice none 0 0)) (nw N (slc n (([]:List α).map e))):=fun _ _ h=>⟨.inl ⟨none,h,rfl⟩,fun g e=>by rw[show _=Value.slice none 0 0 from h]at e;cases e⟩
theorem cn.at:∀{l l':List SV},cn l l'→∀(k:Nat) (s':SV),l'[k]? =some s'→∃s,l[k]? =some s∧SV.imp s s':=fun h _ _ e=>cn.get h e
theorem FN{N n:Nat}{α:Type}{e:α→List SV}[he:AI N e]{l:List α}{M:Mem}{v:Value}(h:(slc n (l.map e)).h M v)(hb:∀g,v.ownBlock=some g→N≤g∧∃o,M g o=some (.agg #[])):(nw N (slc n (l.map e))).h M v:=by
 refine⟨?_,fun g hg=>by obtain⟨h1,o,h2⟩:=hb g hg;exact⟨o,by unfold Mem.fr;rw[if_pos h1];exact h2⟩⟩
 rcases h with⟨a,h1,h2⟩|⟨b,o,c,h1,h2,h3,h4⟩
 ·exact .inl ⟨a,h1,h2⟩
 ·have hN:N≤b:=(hb b (by rw[h1];rfl)).1
  refine .inr ⟨b,o,c,h1,h2,h3,fun i row hr=>⟨(h4 i row hr).1,fun k s hs=>?_⟩⟩
  obtain⟨y,hy,ho,hh⟩:=(h4 i row hr).2 k s hs
  refine⟨y,by unfold Mem.fr;rw[if_pos hN];exact hy,ho,?_⟩
  rw[List.getElem?_map]at hr
  cases hx:l[i]? with
  |none=>rw[hx]at hr;cases hr
  |some x=>
   rw[hx]at hr
   have hr:e x=row:=Option.some.inj hr
   subst hr
   exact(he.h x).h s (List.mem_of_getElem? hs) M y hh
section
variable {P:Program}{C:Ctx}{S:AS}{Q:Exit→AS→Prop}
theorem au.Nl{E:Env}{a:Act}{w:World}(h:au C S E a w)(vs:List Value)(T:TypeId)(hone:∀v∈vs,v.oneCell'=true):au C S {E with M:=fun b o=>if b=w.heap.size then(vs++[.agg #[]])[o]? else E.M b o} a (w.alloc (.cells ⟨vs⟩ T)):=by
 have hno:∀o,E.M w.heap.size o=none:=fun o=>by
  cases e:E.M w.heap.size o with
  |none=>rfl
  |some v=>have:=iU h.bV e;omega
 refine h.grow (fun b o v e=>?_) (fun b o v e=>?_) (fun b o v e=>?_) (((Below.refl _ _).alloc (Nat.le_refl _) _))
 ·have:b≠w.heap.size:=by rintro rfl;rw[hno o]at e;cases e
  simp[this,e]
 ·by_cases hb:b=w.heap.size
  ·exact .inr (by omega)
  ·simp only[if_neg hb]at e;exact .inl e
 ·by_cases hb:b=w.heap.size
  ·subst hb
   simp only[if_true]at e
   by_cases ho:o<vs.length
   ·rw[List.getElem?_append_left ho]at e
    refine .of ?_ (hone v (List.mem_of_getElem? e))
    rw[World.cell?_alloc_new];simpa using e
   ·rw[List.getElem?_append_right (by omega)]at e
    cases Ji:o-vs.length with
    |succ k=>rw[Ji]at e;simp at e
    |zero=>
     rw[Ji]at e
     simp at e
     subst e
     exact⟨⟨vs⟩,T,by show(w.heap.push _)[w.heap.size]? =_;rw[Array.getElem?_push,if_pos rfl]⟩
  ·simp only[if_neg hb]at e
   refine(h.bV b o v e).same ?_
   show(w.heap.push _)[b]? =_
   rw[Array.getElem?_push,if_neg hb]
theorem G0{c:Code}{i n N:Nat}{E1:TypeId}{α:Type}{e:α→List SV}{l:List α}[el:EL e n][he:AI N e](hN:N≤C.w0.heap.size)(hb:∀k,¬C.qO k)(hR:S.r i=.live (TR E1 n e l))(hk:Ok P C c (S.l9 i (nw N (slc n (l.map e)))) Q):Ok P C c S Q:=fun a w hs=>by
 obtain⟨E,h⟩:=hs
 have hlen:l.length≤9223372036854775807:=by
  obtain⟨⟨vs,ho,hv⟩,_⟩:=h.rx i _ hR
  rcases ho.2 with⟨_,q2⟩|⟨g',cap,cur,q1,_,q2,q3,q4,q5,q6⟩
  ·have q2:l.length=0:=q2
   omega
  ·have q3:l.length≤cap:=q3
   have:maxLen=9223372036854775807:=by decide
   omega
 exact hk a w (h.l9 hR (uT l) (by rw[List.length_map]) hlen (sn l) (fun M v hv hg=>FN hv (fun g e=>⟨(hg g e).1.elim (fun q=>Nat.le_trans hN q) (fun q=>absurd q (hb g)),(hg g e).2⟩)))
def m7(P:Program)(f:FuncId)(N:Nat)(args:List SV)(r:SV):Prop:=
 ∀(M:Mem) (w:World) (vs:List Value),N≤w.heap.size→M.bV w→SV.dw M args vs→
  Calls P f ⟨vs⟩ w fun e w'=>∃v M',e=.returned v∧M.le M'∧(∀b o x,M' b o=some x→M b o=some x∨w.heap.size≤b)∧M'.bV w'∧r.h M' v∧Below w.heap.size w w'
theorem m7.w{f:FuncId}{N:Nat}{args args':List SV}{r:SV}(h:m7 P f N args r)(hi:cn args' args):m7 P f N args' r:=fun M w vs hN hM hv=>h M w vs hN hM (hi.holds hv)
theorem fj{f:FuncId}{fn:Func}{code:Code}{N:Nat}{args:List SV}{r:SV}(hf:P.funcs[f]? =some fn)(hb:fn.body=some code)(hn:args.length≤fn.ntmps)
  (h:∀(w:World) (M:Mem) (vs:List Value),N≤w.heap.size→SV.dw M args vs→Ok P (Dy w M) code (AS.init fn.ntmps args) (fun e S=>(e=.normal∨e=.ret)∧Jd P S fn.results.toList r)):m7 P f N args r:=by
 intro M w vs hN hM hvs
 refine(callsIn_wide (n:=0)).1 (callsIn_of_wp_marks (F:=Fence.wide) hf hb trivial ?_)
 refine wpIn_mono (h w M vs hN hvs _ w ⟨_,iy hM hvs hn⟩) ?_
 rintro e a' w' ⟨S',⟨he,ss,Ms,himp⟩,E,hh⟩
 have key:LeavesInM Fence.wide 0 P fn a'.tmps (fun e w'=>∃v M',e=.returned v∧M.le M'∧(∀b o x,M' b o=some x→M b o=some x∨w.heap.size≤b)∧M'.bV w'∧r.h M' v∧Below w.heap.size w w') a'.defers .returning w':=by
  obtain⟨ds,h1,h2,h3⟩:=hh.marks
  rw[h1]
  refine iM ds w' h2 (fun r hr=>(h3 r hr).2.2) (fun w2 g1 g2 g3 g4 g5=>?_)
  have qk:=hh.qT h3 g1 g2 g3 g4 g5
  obtain⟨v,hv,hs⟩:=uL qk Ms
  refine⟨v,hv,v,E.M,rfl,qk.m0,fun b o x e=>?_,qk.bV,himp _ _ hs,qk.os,qk.tape,qk.output,qk.grown,fun k hk=>qk.frame k hk (fun h=>h)⟩
  rcases qk.cX b o x e with h|h|h
  ·exact .inl h
  ·exact .inr h
  ·exact h.elim
 rcases he with rfl|rfl
 ·exact key
 ·exact key
end
section
variable {P:Program}{C:Ctx}{ops:Array Oper}{S:AS}{nd:Bool}{K:List Ac→AS→Prop}{rest:List Oper}{acc:List Ac}
variable {gd:Option (Nat×Bool)}{rg:List Nat}{d:Nat}{ty:TypeId}{pos:String}{aft:Array Edge}{x y z:Operand}{T U E0:TypeId}
variable {α:Type}{l l' k:List α}{e:α→List SV}{n by_ N:Nat}{zv:Value}
theorem RT.m8(hg:Gd ops S gd rg){f:FuncId}[cz P f]{g:Operand}{xs:Array Operand}{at_:Array TypeId}{args:List SV}{r:SV}(hp:m7 P f N args r)(hN:N≤C.w0.heap.size)(hf:S.ev g=.sv (.v (.func (.func f) #[] #[])))(hargs:ik S xs.toList args)(hd:d<S.n)
  (next:RunT P C ops nd K rest (⟨rg++(ak g++xs.toList.flatMap ak),[],[],⟨some (d,.sv r),[],[]⟩⟩::acc) (S.set d (.sv r))):RunT P C ops nd K (⟨some d,.call ⟨.value g,xs,at_⟩,ty,pos,aft,gd⟩::rest) acc S:=by
 refine .inl ⟨_,[],[],_,?_,next⟩
 rintro S' hn ht _ _ i a w L Q ho ⟨E,h⟩ hL
 refine bG (C:=C) ho (hg.wanted h (fun s hs=>ht s (List.mem_append_left _ hs)) rfl) ?_
 have uJ:a.eval g=.func (.func f) #[] #[]:=by
  have h1:=h.ev g;rw[aA (fun _ h=>List.mem_append_right _ (List.mem_append_left _ h)) ht,hf]at h1;exact h1
 have hall:=ik.vals h hargs (fun s hs=>ht s (List.mem_append_right _ (List.mem_append_right _ hs)))
 have hr:(execOp a.eval ⟨some d,.call ⟨.value g,xs,at_⟩,ty,pos,aft,gd⟩).run P w=.ok (.enter f ⟨xs.toList.map a.eval⟩) w:=by
  have e2:xs.map a.eval=⟨xs.toList.map a.eval⟩:=by apply Array.ext';simp
  have e1:=cz.run (P:=P) (f:=f) (xs.map a.eval) w
  rw[←e2]
  simp[execOp,resolve,uJ,Deferred.ofValue,invoke,e1]
 refine bH (C:=C) (by intro c h;cases h) hr ?_
 refine⟨fun h=>by simp at h,fS ((hp E.M w _ (Nat.le_trans hN h.grown) h.bV hall).mono ?_)⟩
 rintro e w' ⟨v,M',rfl,hM,hnew,hin,hv,hb⟩
 exact hL _ _ ⟨_,(h.grow hM hnew hin hb).put (x:=.sv r) hv (by show d<S'.n;omega) dN⟩
theorem RT.G1(hg:Gd ops S gd rg){m:Nat}[tS:dD P T E0 m]{c:Int}(hx:S.ev x=.sv (nw N (slc n (l.map e))))(hd:d<S.n)(hc:(l.length:Int)=c)
  (next:RunT P C ops nd K rest (⟨rg++ak x,[],[],⟨some (d,.sv (.v (.int .i64 c))),[],[]⟩⟩::acc) (S.set d (.sv (.v (.int .i64 c))))):RunT P C ops nd K (⟨some d,.call ⟨.builtin .len,#[x],#[T]⟩,ty,pos,aft,gd⟩::rest) acc S:=
 RT.len hg hx hd (by rw[List.length_map,hc];exact next)
theorem RT.aeb(hg:Gd ops S gd rg)[tS:dD P T E0 n]{kk:IntKind}{i:Int}{a:α}(hx:S.ev x=.sv (nw N (slc n (l.map e))))(hy:S.ev y=.sv (.v (.int kk i)))(hd:d<S.n)(ha:bQ l i=some a)
  (next:RunT P C ops nd K rest (⟨rg++(ak x++ak y),[],[],⟨some (d,.sv (ref (e a))),[],[]⟩⟩::acc) (S.set d (.sv (ref (e a))))):RunT P C ops nd K (⟨some d,.indexAddr T x y,ty,pos,aft,gd⟩::rest) acc S:=
 RT.indexAddr hg (e a) hx hy hd (oM ha).1 (by rw[List.getElem?_map,(oM ha).2];rfl) next
theorem RT.Nm(hg:Gd ops S gd rg)[tS:dD P T E0 n]{lo hi:Option Operand}(a b:Int)(hx:S.ev x=.sv (nw N (slc n (l.map e))))(hlo:yN S 0 lo a)(hhi:yN S l.length hi b)(hd:d<S.n)(h:Az l a b=some l')
  (next:RunT P C ops nd K rest (⟨rg++(ak x++(me lo++me hi)),[],[],⟨some (d,.sv (nw N (slc n (l'.map e)))),[],[]⟩⟩::acc) (S.set d (.sv (nw N (slc n (l'.map e)))))):RunT P C ops nd K (⟨some d,.slice T x lo hi none,ty,pos,aft,gd⟩::rest) acc S:=by
 obtain⟨h0,h1,h2,h3⟩:=Ba h
 exact RT.slice hg hx a b hlo (by rw[List.length_map];exact hhi) hd h0 h1 (by rw[List.length_map];exact h2) _ (by rw[GH,h3]) next
theorem RT.V3(hg:Gd ops S gd rg)[tS:dD P T E0 n][tE:aK P E0 n by_ zv][el:EL e n][he:AI N e]{i:Nat}(hN:N≤C.w0.heap.size)(hb:∀k,¬C.qO k)(hx:S.ev x=.row i)(hR:S.r i=.live (TR E0 n e l))(hy:S.ev y=.sv (slc n (k.map e)))(hd:d<S.n)(v5:S.r d=.un)(uB:d<1000)(h:uC by_ l k=some l')
  (next:RunT P C ops nd K rest (⟨rg++(ak x++ak y),[],[d,i],⟨some (d,.sv (nw N (slc n (l'.map e)))),[],[(i,.dead),(d,.dead)]⟩⟩::acc) ((AS.bg [(i,.dead),(d,.dead)] S).set d (.sv (nw N (slc n (l'.map e)))))):RunT P C ops nd K (⟨some d,.call ⟨.builtin .append,#[x,y],#[T,T]⟩,ty,pos,aft,gd⟩::rest) acc S:=by
 obtain⟨h1,h2,rfl⟩:=qY h
 have hf:l.flatMap e++(k.map e).flatten=(l++k).flatMap e:=by simp[qZ]
 exact RT.GM hg (.row hx hR) hy hd v5 uB (by simpa using h1) (by simpa using h2) _ (rows':=(l++k).map e) (fun _ _ hv hg=>FN hv (fun g e=>⟨(hg g e).1.elim (fun q=>Nat.le_trans hN q) (fun q=>absurd q (hb g)),(hg g e).2⟩)) (by rw[hf];exact uT _) (by simp) (by rw[hf];exact sn _) next
theorem RT.DX(hg:Gd ops S gd rg)[tS:dD P T E0 n][tE:aK P E0 n by_ zv][he:AI N e](hN:N≤C.w0.heap.size){len:Nat}{parts:Array (Nat×Operand)}{qs:List (Nat×List SV)}(hp:mc S parts.toList qs)(hd:d<S.n)
  (hc:n8 0 qs=true) (hl:qs.length=len) (hsz:(qs.all fun q=>Nat.beq q.2.length n)=true) (hlen:Nat.ble (len*n) 16777216=true) (Im:(zv.cells.toList.all fun v=>v.oneCell')=true) (kY:qs.map (·.2)=l.map e)
  (next:RunT P C ops nd K rest (⟨rg++jQ parts.toList,[],[],⟨some (d,.sv (nw N (slc n (l.map e)))),[],[]⟩⟩::acc) (S.set d (.sv (nw N (slc n (l.map e)))))):RunT P C ops nd K (⟨some d,.buildSlice T len parts,ty,pos,aft,gd⟩::rest) acc S:=by
 refine .inl ⟨_,[],[],_,?_,next⟩
 rintro S' hn ht _ _ i a w L Q ho ⟨E,h⟩ hL
 refine bG (C:=C) ho (hg.wanted h (fun s hs=>ht s (List.mem_append_left _ hs)) rfl) ?_
 obtain⟨vs,hr,hall,hone⟩:=mL (P:=P) (T:=T) (E0:=E0) (n:=n) (by_:=by_) (zv:=zv) (d:=d) (ty:=ty) (pos:=pos) (aft:=aft) (gd:=gd) h hp (fun s hs=>ht s (List.mem_append_right _ hs)) hc hl hsz (Nat.le_of_ble_eq_true hlen) (List.all_eq_true.1 Im)
 refine bH (C:=C) (by intro c h;cases h) hr (hL _ _ ⟨_,(h.Nl vs E0 hone).put (d:=d) (x:=.sv (nw N (slc n (l.map e)))) (v:=.slice (some ⟨w.heap.size,0,none⟩) len len) ?_ (by show d<S'.n;omega) dN⟩)
 have hrw:Rows n (qs.map (·.2)) (qs.map (·.2)).flatten:=⟨rfl,fun r hr=>by
  obtain⟨q,hq,rfl⟩:=List.mem_map.1 hr
  exact Nat.eq_of_beq_eq_true (List.all_eq_true.1 hsz q hq)⟩
 have JD:=tE.p
 have hlb:len≤16777216:=Nat.le_trans (Nat.le_mul_of_pos_right _ JD) (Nat.le_of_ble_eq_true hlen)
 refine FN ?_ (fun g e=>by cases e;exact⟨Nat.le_trans hN h.grown,vs.length,by simp⟩)
 rw[←kY]
 refine .inr ⟨w.heap.size,0,len,by rw[List.length_map,hl],by rw[List.length_map,hl];exact Nat.le_refl _,by rw[List.length_map,hl];omega,fun k row hk=>?_⟩
 obtain⟨q1,q2⟩:=uN hrw k row hk
 refine⟨q1,fun j s hs=>?_⟩
 obtain⟨y,hy,hys⟩:=hall.get (q2 j s hs)
 refine⟨y,by show(if w.heap.size=w.heap.size then(vs++[Value.agg #[]])[0+k*n+j]? else _)=_;rw[if_pos rfl,Nat.zero_add,List.getElem?_append_left (List.getElem?_eq_some_iff.1 hy).1];exact hy,hone y (List.mem_of_getElem? hy),s.mono (fun b o v e=>?_) hys⟩
 have:b≠w.heap.size:=by rintro rfl;have:=iU h.bV e;omega
 simp[this,e]
end
end Go.Fw
namespace Go.Proofs.YtmiflmkdaeianaaGreat
open Go.Fw Go.Fw.Z Go.RowKit
theorem AJ{x0:List Nat}(N:Nat){r:List Nat}(h:az x0=some r):m7 Tryz.prog 50 N [nw N (slc 1 (List.map ah x0))] (nw N (slc 1 (List.map ah r))):=by
 refine fj Tryz.func50 rfl (Nat.le_of_ble_eq_true rfl) (fun c9 M vs hN hvs=>?_)
 unfold az at h
 refine sr<|aI rfl (eL (N:=N) (n:=1) (e:=ah))<|dn<|qq<|bE h fun DV tJ oh=>?_
 refine aP (fun(ze:(List Nat))=>AS.bL 21 [(0,.sv (nw N (slc 1 (List.map ah ze))))] [] []) (fun ze=>ze=DV) ?_ (fun ze tK=>?_)
 refine ax ?_
 refine aQ tJ (fun oG=>AS.bL 21 [(0,.sv (nw N (slc 1 (List.map ah oG))))] [] []) (wR []) (fun xM RN RO h tL sH=>?_)
 try dsimp only
 refine qq<|qq ?_
 refine aC h (fun Ng=>AS.bL 21 [(0,.sv (nw N (slc 1 (List.map ah xM)))),(14,.sv (.v (.bool Ng)))] [] []) (fun h=>?_) (fun zb h=>?_)
 refine af<|mv rfl<|lE h fun x4 h4 h=>RT.G1 .none rfl T h4<|lE h fun x5 h5 h=>gt _ rfl rfl h5<|mv rfl<|bE h fun Fx dO h=>?_
 cases x5
 obtain rfl:=O (F dO)
 exact ww<|ww<|ww<|ww<|ww<|ww<|ww<|pF rfl<|dn<|⟨false,h,wR []⟩
 refine gm rfl<|gm rfl<|lE (V dO) fun x9 h9 dO=>RT.G1 (.some rfl rfl) rfl T h9<|lE dO fun eG gG dO=>RT.sub (.some rfl rfl) _ rfl rfl T gG<|bE dO fun fV iV dO=>RT.aeb (.some rfl rfl) rfl rfl T iV<|gr rfl rfl<|lE dO fun fE jy dO=>DO _ rfl rfl (MW (p:=fV) (q:=0) jy) ?_
 obtain rfl:=O dO
 exact pT rfl<|dn<|⟨fE,h,wR []⟩
 try dsimp only
 refine ae.n ?_
 cases zb
 refine cF<|aW<|ae.x<|ae.x<|aG.x<|ae.n ?_
 obtain rfl:=O (F h)
 exact⟨xM,sH _ rfl,wR []⟩
 refine cT<|aE<|ae.n<|ax<|af<|mv rfl<|mv rfl<|lE (V h) fun dI iW h=>RT.G1 .none rfl T iW<|lE h fun dQ iN h=>sb _ rfl rfl iN<|bE h fun jL mW h=>RT.Nm .none 0 dQ rfl rfl ⟨_,rfl⟩ T mW<|ag rfl<|RT.done<|aG.n ?_
 obtain rfl:=O h
 exact ae.n ⟨jL,tL _ rfl,wR []⟩
 subst tK
 try dsimp only
 refine ae.n<|sr<|mv rfl<|ag rfl<|dn<|aj ?_
 obtain rfl:=O oh
 exact R1 rfl
theorem m9{x0:Bool}{x1:List Nat}(N:Nat){r:Zr}(h:bj x0 x1=some r):m7 Tryz.prog 64 N [.v (.bool x0),nw N (slc 1 (List.map ah x1))] (.agg ((fZ N) r)):=by
 refine fj Tryz.func64 rfl (Nat.le_of_ble_eq_true rfl) (fun c9 M vs hN hvs=>?_)
 unfold bj at h
 refine sr<|al (cs:=[.v (.bool false),nw N (slc 1 (List.map ah []))]) (by exact⟨SV.aa _,eL,trivial⟩) rfl<|dn<|sr<|mv rfl<|bE h fun x6 h6 h=>RT.m8 .none (AJ N h6) hN rfl ⟨rfl,trivial⟩ T<|ag rfl<|dn<|qq<|sr<|mv rfl<|lE h fun x8 h8 h=>RT.G1 .none rfl T h8<|lE h fun x9 h9 h=>eq _ rfl rfl (oN (p:=x8) (q:=0) h9)<|dn ?_
 cases x9
 refine fs<|sr<|mv rfl<|mv rfl<|bI (cs:=[_,_]) (cs':=[.v (.bool x0),nw N (slc 1 (List.map ah x6))]) (.one rfl (.one rfl (.nil))) ⟨SV.aa _,SV.aa _,trivial⟩<|so rfl rfl rfl<|dn<|aj ?_
 obtain rfl:=O (F h)
 exact RZ (.agg rfl rfl (.cons rfl (.cons rfl (.nil))) rfl (.nil))
 refine cT<|sr<|bI (cs:=[_,_]) (cs':=[.v (.bool false),nw N (slc 1 (List.map ah []))]) (.nil) ⟨SV.aa _,eL,trivial⟩<|so rfl rfl rfl<|dn<|aj<|ae.r ?_
 obtain rfl:=O (V h)
 exact RZ (.agg rfl rfl (.cons rfl (.cons rfl (.nil))) rfl (.nil))
theorem zA{x0:Bool}{x1:Nat}(N:Nat){r:Zr}(h:cP x0 x1=some r):m7 Tryz.prog 52 N [.v (.bool x0),.v (.int .u64 ((x1:Nat):Int))] (.agg ((fZ N) r)):=by
 refine fj Tryz.func52 rfl (Nat.le_of_ble_eq_true rfl) (fun c9 M vs hN hvs=>?_)
 unfold cP at h
 refine sr<|al (cs:=[.v (.bool false),nw N (slc 1 (List.map ah []))]) (by exact⟨SV.aa _,eL,trivial⟩) rfl<|dn<|qq<|ax<|sr<|mv rfl<|lE h fun x7 h7 h=>eq _ rfl rfl (MW (p:=x1) (q:=0) h7)<|ag rfl<|dn ?_
 cases x7
 refine cF<|sr<|mv rfl<|lE (F h) fun fV iV h=>RT.shr .none _ rfl rfl T (by decide) (yZ (k:=.u64) (a:=x1) (q:=32) (s:=32) rfl iV)<|lE h fun dA gX h=>eq _ rfl rfl (MW (p:=fV) (q:=0) gX)<|ag rfl<|dn ?_
 cases dA
 refine cF<|aE<|aG.n<|ae.n<|sr<|mv rfl<|mv rfl<|lE (F h) fun gQ kE h=>cv _ rfl (UK.nat kE)<|mv rfl<|lE h fun gR lj h=>RT.shr .none _ rfl rfl T (by decide) (yZ (k:=.u64) (a:=x1) (q:=32) (s:=32) rfl lj)<|lE h fun ig mB h=>cv _ rfl (UK.nat mB)<|RT.DX (l:=[gQ,ig]) (e:=ah) .none hN (.one rfl (.one rfl (.nil))) T rfl rfl rfl rfl rfl rfl<|bI (cs:=[_,_]) (cs':=[.v (.bool x0),nw N (slc 1 (List.map ah [gQ,ig]))]) (.one rfl (.one rfl (.nil))) ⟨SV.aa _,SV.aa _,trivial⟩ ?_
 refine so rfl rfl rfl<|dn<|aj ?_
 obtain rfl:=O h
 exact RZ (.agg rfl rfl (.cons rfl (.cons rfl (.nil))) rfl (.nil))
 refine cT<|sr<|mv rfl<|mv rfl<|lE (V h) fun jq nK h=>cv _ rfl (UK.nat nK)<|RT.DX (l:=[jq]) (e:=ah) .none hN (.one rfl (.nil)) T rfl rfl rfl rfl rfl rfl<|bI (cs:=[_,_]) (cs':=[.v (.bool x0),nw N (slc 1 (List.map ah [jq]))]) (.one rfl (.one rfl (.nil))) ⟨SV.aa _,SV.aa _,trivial⟩<|so rfl rfl rfl<|dn<|aj<|aG.r<|ae.r ?_
 obtain rfl:=O h
 exact RZ (.agg rfl rfl (.cons rfl (.cons rfl (.nil))) rfl (.nil))
 refine cT<|sr<|bI (cs:=[_,_]) (cs':=[.v (.bool false),nw N (slc 1 (List.map ah []))]) (.nil) ⟨SV.aa _,eL,trivial⟩<|so rfl rfl rfl<|dn<|aj<|aG.r<|ae.r ?_
 obtain rfl:=O (V h)
 exact RZ (.agg rfl rfl (.cons rfl (.cons rfl (.nil))) rfl (.nil))
theorem vg{x0:List Nat}{x1:List Nat}(N:Nat){r:List Nat}(h:cC x0 x1=some r):m7 Tryz.prog 62 N [slc 1 (List.map ah x0),slc 1 (List.map ah x1)] (nw N (slc 1 (List.map ah r))):=by
 refine fj Tryz.func62 rfl (Nat.le_of_ble_eq_true rfl) (fun c9 M vs hN hvs=>?_)
 unfold cC at h
 refine sr<|aI rfl (eL (N:=N) (n:=1) (e:=ah))<|dn<|sr<|mv rfl<|lE h fun eG gG h=>ln rfl gG<|mv rfl<|lE h fun dA gX h=>ln rfl gX<|lE h fun fE jy h=>RT.max .none _ rfl rfl T (Rf (p:=eG) (q:=dA) jy)<|lE h fun gp kU h=>ad _ rfl rfl kU<|bE h fun jq nK h=>RT.Bd (e:=ah) .none rfl rfl T rfl T nK<|RT.alloc .none T rfl rfl<|RT.n7 (cells:=[_]) .none rfl rfl rfl rfl T rfl<|dn<|sr ?_
 refine RT.uR .none (cE 0) rfl ⟨rfl,trivial⟩ T rfl rfl<|RT.alloc .none T rfl rfl<|RT.yE (cells:=[_]) .none (s:=.eV _ _) rfl rfl rfl T rfl<|dn<|qq<|sr<|mv rfl<|mv rfl<|cl (jT x0 x1) ⟨rfl,rfl,trivial⟩<|dn<|ax<|bE h fun e7 RU FI=>?_
 obtain⟨FJ,RV,RW,RX⟩:=oO RU
 refine mA (jU x0 x1) (fun _ _ _ _ _=>trivial) rfl (fun k=>AS.bL 35 [(5,.ptr 5 0),(6,.ptr 6 0),(19,.sv (yK 108 [ref [slc 1 (List.map ah x0)],ref [slc 1 (List.map ah x1)]]))] [(6,⟨118,[.eV 107 [.box 16]]⟩),(16,⟨86,[.sv (.v (.int .u64 (((FJ k).1:Nat):Int)))]⟩),(5,⟨33,[.row 302]⟩)] [(302,TR 69 1 ah (FJ k).2)]) [6,16,5] rfl (fun _=>⟨rfl,rfl⟩) (B8 rfl) (fun _=>rfl) (B9 rfl) (by(try dsimp only);rw[RV];(try dsimp only);exact dx (fun i=>bif Nat.beq i 302 then 15 else i) rfl rfl rfl rfl rfl ⟨.ptr,.ptr,.sv (SV.aa _),trivial⟩ ⟨⟨_,rfl,⟨.eV,trivial⟩⟩,⟨_,rfl,⟨.sv (SV.aa _),trivial⟩⟩,⟨_,rfl,⟨.row rfl,trivial⟩⟩,trivial⟩ ⟨⟨_,rfl,cn.refl _⟩,trivial⟩ (fun i hi=>by rw[bD (show i≠302 by omega)];rfl)) (fun k hk D hD=>?_) ?_
 have h:=RW k hk
 obtain⟨sk,RY⟩:∃q,FJ k=q:=⟨_,rfl⟩
 rw[RY]at h⊢
 obtain⟨pP,eT⟩:=sk
 dsimp only[AS.Uc,yV]
 try dsimp only at h
 refine lE h fun Vj R3 h=>?_
 rw[R3]
 refine lE h fun Vk R4 h=>?_
 rw[R4]
 refine sr<|ag rfl<|dn<|af<|ag rfl<|RT.done ?_
 refine ae.n ⟨rfl,?_⟩
 dsimp only[AS.Iq]
 refine ax<|ai mixed<|RT.iw .none (s:=.row _) rfl rfl rfl T<|RT.iw .none (s:=.eV _ _) rfl rfl rfl T<|mv rfl<|mv rfl<|lE h fun gu mD h=>ad _ rfl rfl (UK.add (a:=Vj) (b:=Vk) mD) ?_
 obtain⟨⟨jr,k9⟩,nI,h⟩:=bS h
 refine cB (aY nI) 16 rfl ⟨rfl,trivial⟩<|bl (l:=[jr]) (e:=ah) (.one rfl (.nil)) rfl rfl rfl rfl rfl rfl<|bE h fun gx kW h=>aR (k:=[jr]) (e:=ah) rfl rfl rfl kW<|RT.n7 (cells:=[_]) .none rfl rfl rfl rfl T rfl ?_
 refine RT.done ⟨by kernel_rfl,?_⟩
 refine aG.n ?_
 replace h:=Option.some.inj h
 refine⟨trivial,rfl,rfl,?_⟩
 try dsimp only
 rw[←h]
 try dsimp only
 exact dx (fun i=>bif Nat.beq i 302 then 29 else i) rfl rfl rfl rfl rfl ⟨.ptr,.ptr,.sv (SV.aa _),trivial⟩ ⟨⟨_,rfl,⟨.eV,trivial⟩⟩,⟨_,rfl,⟨.sv (SV.aa _),trivial⟩⟩,⟨_,rfl,⟨.row rfl,trivial⟩⟩,trivial⟩ ⟨⟨_,rfl,cn.refl _⟩,trivial⟩ (fun i hi=>by rw[bD (show i≠302 by omega)];rfl)
 rw[RX]
 obtain⟨pP,eT⟩:=e7
 try dsimp only
 refine aG.n<|ae.n<|qq<|ai mixed<|RT.iw .none (s:=.row _) rfl rfl rfl T<|RT.iw .none (s:=.eV _ _) rfl rfl rfl T ?_
 obtain⟨⟨iu,k11⟩,lY,FI⟩:=bS FI
 refine cB (aY lY) 16 rfl ⟨rfl,trivial⟩<|bl (l:=[iu]) (e:=ah) (.one rfl (.nil)) rfl rfl rfl rfl rfl rfl<|bE FI fun lW qH FI=>RT.V3 (k:=[iu]) (e:=ah) .none hN (fun _ h=>h) rfl rfl rfl T rfl T qH<|ag rfl ?_
 refine RT.done ⟨by kernel_rfl,?_⟩
 refine ae.n<|aj ?_
 obtain rfl:=O FI
 exact R1 rfl
theorem nS{x0:List Nat}{x1:List Nat}(N:Nat){r:List Nat}(h:bR x0 x1=some r):m7 Tryz.prog 63 N [slc 1 (List.map ah x0),slc 1 (List.map ah x1)] (nw N (slc 1 (List.map ah r))):=by
 refine fj Tryz.func63 rfl (Nat.le_of_ble_eq_true rfl) (fun c9 M vs hN hvs=>?_)
 unfold bR at h
 refine sr<|aI rfl (eL (N:=N) (n:=1) (e:=ah))<|dn<|sr<|mv rfl<|lE h fun eG gG h=>ln rfl gG<|bE h fun fV iV h=>RT.Bd (e:=ah) .none rfl rfl T rfl T iV<|RT.alloc .none T rfl rfl<|RT.n7 (cells:=[_]) .none rfl rfl rfl rfl T rfl<|dn<|sr<|RT.uR .none (cE 1) rfl ⟨rfl,trivial⟩ T rfl rfl<|RT.alloc .none T rfl rfl<|RT.yE (cells:=[_]) .none (s:=.eV _ _) rfl rfl rfl T rfl<|dn<|qq<|sr<|mv rfl ?_
 refine mv rfl<|cl (jT x0 x1) ⟨rfl,rfl,trivial⟩<|dn<|ax<|bE h fun e7 RU FI=>?_
 obtain⟨FJ,RV,RW,RX⟩:=oO RU
 refine mA (jU x0 x1) (fun _ _ _ _ _=>trivial) rfl (fun k=>AS.bL 28 [(5,.ptr 5 0),(6,.ptr 6 0),(15,.sv (yK 108 [ref [slc 1 (List.map ah x0)],ref [slc 1 (List.map ah x1)]]))] [(6,⟨118,[.eV 107 [.box 12]]⟩),(12,⟨86,[.sv (.v (.int .u64 (((FJ k).1:Nat):Int)))]⟩),(5,⟨33,[.row 302]⟩)] [(302,TR 69 1 ah (FJ k).2)]) [6,12,5] rfl (fun _=>⟨rfl,rfl⟩) (B8 rfl) (fun _=>rfl) (B9 rfl) (by(try dsimp only);rw[RV];(try dsimp only);exact dx (fun i=>bif Nat.beq i 302 then 11 else i) rfl rfl rfl rfl rfl ⟨.ptr,.ptr,.sv (SV.aa _),trivial⟩ ⟨⟨_,rfl,⟨.eV,trivial⟩⟩,⟨_,rfl,⟨.sv (SV.aa _),trivial⟩⟩,⟨_,rfl,⟨.row rfl,trivial⟩⟩,trivial⟩ ⟨⟨_,rfl,cn.refl _⟩,trivial⟩ (fun i hi=>by rw[bD (show i≠302 by omega)];rfl)) (fun k hk D hD=>?_) ?_
 have h:=RW k hk
 obtain⟨sk,RY⟩:∃q,FJ k=q:=⟨_,rfl⟩
 rw[RY]at h⊢
 obtain⟨sq,eT⟩:=sk
 dsimp only[AS.Uc,yV]
 try dsimp only at h
 refine lE h fun Vl R5 h=>?_
 rw[R5]
 refine lE h fun Vm R6 h=>?_
 rw[R6]
 refine sr<|ag rfl<|dn<|af<|ag rfl<|RT.done ?_
 refine ae.n ⟨rfl,?_⟩
 dsimp only[AS.Iq]
 refine ax<|ai mixed<|RT.iw .none (s:=.row _) rfl rfl rfl T<|RT.iw .none (s:=.eV _ _) rfl rfl rfl T<|mv rfl<|mv rfl<|lE h fun gR lj h=>sb _ rfl rfl (UK.sub (a:=4294967295) (b:=Vm) lj)<|lE h fun ig mB h=>ad _ rfl rfl (UK.add (a:=Vl) (b:=gR) mB) ?_
 obtain⟨⟨dR,k9⟩,lQ,h⟩:=bS h
 refine cB (aY lQ) 12 rfl ⟨rfl,trivial⟩<|bl (l:=[dR]) (e:=ah) (.one rfl (.nil)) rfl rfl rfl rfl rfl rfl<|bE h fun gu mD h=>aR (k:=[dR]) (e:=ah) rfl rfl rfl mD<|RT.n7 (cells:=[_]) .none rfl rfl rfl rfl T rfl ?_
 refine RT.done ⟨by kernel_rfl,?_⟩
 refine aG.n ?_
 replace h:=Option.some.inj h
 refine⟨trivial,rfl,rfl,?_⟩
 try dsimp only
 rw[←h]
 try dsimp only
 exact dx (fun i=>bif Nat.beq i 302 then 26 else i) rfl rfl rfl rfl rfl ⟨.ptr,.ptr,.sv (SV.aa _),trivial⟩ ⟨⟨_,rfl,⟨.eV,trivial⟩⟩,⟨_,rfl,⟨.sv (SV.aa _),trivial⟩⟩,⟨_,rfl,⟨.row rfl,trivial⟩⟩,trivial⟩ ⟨⟨_,rfl,cn.refl _⟩,trivial⟩ (fun i hi=>by rw[bD (show i≠302 by omega)];rfl)
 rw[RX]
 obtain⟨sq,eT⟩:=e7
 try dsimp only
 refine aG.n<|ae.n<|sr<|RT.iw .none (s:=.row _) rfl rfl rfl T<|an (s:=.row _) rfl<|dn<|G0 (i:=302) (E1:=69) (n:=1) (e:=ah) (l:=eT) hN (fun _ h=>h) rfl<|aj ?_
 obtain rfl:=O FI
 exact R1 rfl
end Go.Proofs.YtmiflmkdaeianaaGreat
namespace Go.Proofs.YtmiflmkdaeianaaGreat
open Go.Fw Go.Fw.Z Go.RowKit
theorem tW{x0:Int}(N:Nat){r:Zr}(h:aM x0=some r):m7 Tryz.prog 32 N [.v (.int .i64 x0)] (.agg ((fZ N) r)):=by
 refine fj Tryz.func32 rfl (Nat.le_of_ble_eq_true rfl) (fun c9 M vs hN hvs=>?_)
 unfold aM at h
 refine sr<|al (cs:=[.v (.bool false),nw N (slc 1 (List.map ah []))]) (by exact⟨SV.aa _,eL,trivial⟩) rfl<|dn<|sr<|mv rfl<|lE h fun x5 h5 h=>cv _ rfl (UK.conv h5)<|ag rfl<|dn<|qq<|sr<|mv rfl<|lE h fun x7 h7 h=>ls _ rfl rfl h7<|dn ?_
 refine aC h (fun j2=>AS.bL 14 [(0,.sv (.v (.int .i64 x0))),(2,.ptr 2 0),(3,.sv (.v (.int .u64 ((j2:Nat):Int))))] [(2,⟨35,[.sv (.v (.bool false)),.sv (nw N (slc 1 (List.map ah [])))]⟩)] []) (fun h=>?_) (fun Cf h=>?_)
 cases x7
 exact fs<|⟨x5,(F h),wR []⟩
 exact cT<|af<|mv rfl<|lE (V h) fun x9 h9 h=>RT.neg .none _ rfl T (UK.neg h9)<|ag rfl<|dn<|⟨x9,h,wR []⟩
 try dsimp only
 refine ae.n<|sr<|mv rfl<|lE h fun fV iV h=>ls _ rfl rfl iV<|mv rfl ?_
 obtain⟨⟨qo,qp⟩,jy,h⟩:=bS h
 refine RT.m8 .none (zA N jy) hN rfl ⟨rfl,rfl,trivial⟩ T<|so rfl rfl rfl<|dn<|aj ?_
 obtain rfl:=O h
 exact RZ (.agg rfl rfl (.cons rfl (.cons rfl (.nil))) rfl (.nil))
theorem tX{x0:Bool}{x1:List Nat}{x2:Bool}{x3:List Nat}(N:Nat){r:Zr}(h:bT x0 x1 x2 x3=some r):m7 Tryz.prog 49 N [.v (.bool x0),slc 1 (List.map ah x1),.v (.bool x2),slc 1 (List.map ah x3)] (.agg ((fZ N) r)):=by
 refine fj Tryz.func49 rfl (Nat.le_of_ble_eq_true rfl) (fun c9 M vs hN hvs=>?_)
 unfold bT at h
 refine sr<|al (cs:=[.v (.bool false),nw N (slc 1 (List.map ah []))]) (by exact⟨SV.aa _,eL,trivial⟩) rfl<|dn<|qq<|sr<|mv rfl<|mv rfl<|lE h fun fV iV h=>RT.QV .none _ rfl rfl T iV<|dn ?_
 cases fV
 refine fs<|qq<|sr<|mv rfl<|mv rfl<|bE (F h) fun jL mW h=>cl (dG mW) ⟨rfl,rfl,trivial⟩<|lE h fun gQ kE h=>ls _ rfl rfl kE<|dn ?_
 cases gQ
 refine fs<|sr<|mv rfl<|mv rfl<|mv rfl<|bE (F h) fun gx kW h=>RT.m8 .none (nS N kW) hN rfl ⟨rfl,rfl,trivial⟩ T ?_
 obtain⟨⟨oP,oQ⟩,vc,h⟩:=bS h
 refine RT.m8 .none (m9 N vc) hN rfl ⟨rfl,rfl,trivial⟩ T<|so rfl rfl rfl<|dn<|aj ?_
 obtain rfl:=O h
 exact RZ (.agg rfl rfl (.cons rfl (.cons rfl (.nil))) rfl (.nil))
 refine cT<|sr<|mv rfl<|mv rfl<|mv rfl<|bE (V h) fun dR lQ h=>RT.m8 .none (nS N lQ) hN rfl ⟨rfl,rfl,trivial⟩ T ?_
 obtain⟨⟨gW,nP⟩,om,h⟩:=bS h
 refine RT.m8 .none (m9 N om) hN rfl ⟨rfl,rfl,trivial⟩ T<|so rfl rfl rfl<|dn<|aj<|ae.r ?_
 obtain rfl:=O h
 exact RZ (.agg rfl rfl (.cons rfl (.cons rfl (.nil))) rfl (.nil))
 refine cT<|sr<|mv rfl<|mv rfl<|mv rfl<|bE (V h) fun jq nK h=>RT.m8 .none (vg N nK) hN rfl ⟨rfl,rfl,trivial⟩ T ?_
 obtain⟨⟨qt,qu⟩,jz,h⟩:=bS h
 refine RT.m8 .none (m9 N jz) hN rfl ⟨rfl,rfl,trivial⟩ T<|so rfl rfl rfl<|dn<|aj<|ae.r ?_
 obtain rfl:=O h
 exact RZ (.agg rfl rfl (.cons rfl (.cons rfl (.nil))) rfl (.nil))
theorem Cx{x0:Zr}{x1:Zr}(N:Nat){r:Zr}(h:cM x0 x1=some r):m7 Tryz.prog 29 N [.agg (eZ x0),.agg (eZ x1)] (.agg ((fZ N) r)):=by
 obtain⟨aD,aB⟩:=x0
 obtain⟨bt,bn⟩:=x1
 refine fj Tryz.func29 rfl (Nat.le_of_ble_eq_true rfl) (fun c9 M vs hN hvs=>?_)
 unfold cM at h
 refine sr<|bx rfl<|bx rfl<|al (cs:=[.v (.bool false),nw N (slc 1 (List.map ah []))]) (by exact⟨SV.aa _,eL,trivial⟩) rfl<|dn<|sr<|ld rfl rfl (.cons rfl (.cons rfl (.nil))) ?_
 obtain⟨⟨xP,Cg⟩,gX,h⟩:=bS h
 refine cl (di gX) ⟨rfl,trivial⟩<|mv rfl<|ex rfl rfl<|ex rfl rfl<|ag rfl<|ag rfl<|dn<|sr<|ld rfl rfl (.cons rfl (.cons rfl (.nil))) ?_
 obtain⟨⟨zk,Ch⟩,iW,h⟩:=bS h
 refine cl (di iW) ⟨rfl,trivial⟩<|mv rfl<|ex rfl rfl<|ex rfl rfl<|ag rfl<|ag rfl<|dn<|qq<|qq ?_
 refine aC h (fun j3=>AS.bL 48 [(2,.ptr 2 0),(3,.ptr 3 0),(4,.ptr 4 0),(5,.sv (.v (.int .i64 xP))),(7,.sv (.v (.int .i64 zk))),(23,.sv (.v (.bool j3)))] [(4,⟨35,[.sv (.v (.bool false)),.sv (nw N (slc 1 (List.map ah [])))]⟩),(3,⟨35,[.sv (.v (.bool bt)),.sv (slc 1 (List.map ah bn))]⟩),(2,⟨35,[.sv (.v (.bool aD)),.sv (slc 1 (List.map ah aB))]⟩)] []) (fun h=>?_) (fun va h=>?_)
 refine af<|mv rfl<|mv rfl<|bE h fun Bm At h=>?_
 cases Cg
 obtain rfl:=O (F At)
 exact ww<|pF rfl<|dn<|⟨false,h,wR []⟩
 refine gm rfl ?_
 obtain rfl:=O (V At)
 exact pT rfl<|dn<|⟨Ch,h,wR []⟩
 try dsimp only
 refine ae.n ?_
 refine aC h (fun j5=>AS.bL 48 [(2,.ptr 2 0),(3,.ptr 3 0),(4,.ptr 4 0)] [(4,⟨35,[.sv (.v (.bool false)),.sv (nw N (slc 1 (List.map ah [])))]⟩),(3,⟨35,[.sv (.v (.bool bt)),.sv (slc 1 (List.map ah bn))]⟩),(2,⟨35,[.sv (.v (.bool aD)),.sv (slc 1 (List.map ah aB))]⟩)] []) (fun h=>?_) (fun j5 h=>?_)
 cases va
 exact fs<|⟨(),(F h),wR []⟩
 refine cT<|sr<|mv rfl<|mv rfl<|lE (V h) fun gu mD h=>ad _ rfl rfl mD<|ag rfl<|dn<|sr<|mv rfl<|mv rfl<|lE h fun gx kW h=>RT.xor .none _ rfl rfl T kW<|mv rfl<|mv rfl<|lE h fun iu lY h=>RT.xor .none _ rfl rfl T lY<|lE h fun iZ mu h=>RT.and .none _ rfl rfl T mu<|lE h fun lW qH h=>ge _ rfl rfl qH<|dn ?_
 cases lW
 exact fs<|⟨(),(F h),wR []⟩
 refine cT<|sr<|mv rfl ?_
 obtain⟨⟨jS,jb⟩,qI,h⟩:=bS (V h)
 refine RT.m8 .none (tW N qI) hN rfl ⟨rfl,trivial⟩ T<|so rfl rfl rfl<|dn<|aj<|ae.r<|ae.r ?_
 obtain rfl:=O h
 exact RZ (.agg rfl rfl (.cons rfl (.cons rfl (.nil))) rfl (.nil))
 try dsimp only
 refine ae.n<|qq<|ai mixed<|fa rfl rfl<|lV rfl rfl rfl<|fa rfl rfl<|lV rfl rfl rfl<|bE h fun vV Cm h=>cl (aZ Cm) ⟨rfl,trivial⟩<|fa rfl rfl<|lV rfl rfl rfl<|fa rfl rfl<|lV rfl rfl rfl<|bE h fun rm h46 h=>cl (aZ h46) ⟨rfl,trivial⟩ ?_
 obtain⟨⟨Bj,Bl⟩,DW,h⟩:=bS h
 refine RT.m8 .none (tX N DW) hN rfl ⟨rfl,rfl,rfl,rfl,trivial⟩ T<|so rfl rfl rfl ?_
 refine RT.done ⟨by kernel_rfl,?_⟩
 refine ae.n<|aj ?_
 obtain rfl:=O h
 exact RZ (.agg rfl rfl (.cons rfl (.cons rfl (.nil))) rfl (.nil))
end Go.Proofs.YtmiflmkdaeianaaGreat
namespace Go.Proofs.YtmiflmkdaeianaaGreat
open Go.Fw
noncomputable def fN(x0:Zr)(x1:Zr)(x2:Zr)(x3:Zr):Option (Zr×Zr):=match x0 with|⟨aD,aB⟩=>match x1 with|⟨bt,bn⟩=>match x2 with|⟨Kr,Ks⟩=>match x3 with|⟨Sj,Sk⟩=>(ff ⟨aD,aB⟩ ⟨Sj,Sk⟩).bind fun⟨qw,qx⟩=>(ff ⟨Kr,Ks⟩ ⟨bt,bn⟩).bind fun⟨qy,qz⟩=>(iA ⟨qw,qx⟩ ⟨qy,qz⟩).bind fun⟨qt,qu⟩=>(ff ⟨bt,bn⟩ ⟨Sj,Sk⟩).bind fun⟨nT,nU⟩=>some (⟨qt,qu⟩,⟨nT,nU⟩)
noncomputable def ep(x0:Qr):Option (Zr×Zr):=match x0 with|⟨⟨aD,aB⟩,⟨cS,c8⟩⟩=>(cD ⟨cS,c8⟩).bind fun x6=>(some (decide ((x6:Int)=0))).bind fun x8=>(bif x8 then(aM 1).bind fun⟨iq,mw⟩=>some (⟨aD,aB⟩,⟨iq,mw⟩)else(some (decide ((x6:Int)=(-1)))).bind fun fE=>(bif fE then(gz ⟨aD,aB⟩).bind fun⟨qt,qu⟩=>(gz ⟨cS,c8⟩).bind fun⟨nT,nU⟩=>some (⟨qt,qu⟩,⟨nT,nU⟩)else some (⟨aD,aB⟩,⟨cS,c8⟩)))
noncomputable def ia(x0:Zr)(x1:Zr):Option (Qr):=match x0 with|⟨aD,aB⟩=>match x1 with|⟨bt,bn⟩=>(cD ⟨bt,bn⟩).bind fun x9=>(some (decide ((x9:Int)<0))).bind fun eG=>bM (fun(j2:Bool×(List Nat)×Bool×(List Nat))=>match j2 with|⟨FO,FP,FR,FU⟩=>(jF ⟨FR,FU⟩ ⟨FO,FP⟩).bind fun⟨nc,nf⟩=>(cu ⟨FR,FU⟩ ⟨nc,nf⟩).bind fun⟨⟨zB,zC⟩,⟨Sl,Sn⟩,aec⟩=>(cu ⟨FO,FP⟩ ⟨nc,nf⟩).bind fun⟨⟨zD,zE⟩,⟨So,Sq⟩,aed⟩=>(cw ⟨zD,zE⟩).bind fun⟨Sr,Ss⟩=>bM (fun(Kt:Bool)=>bM (fun(j7:Bool×(List Nat))=>match j7 with|⟨FV,FW⟩=>some ⟨⟨zB,zC⟩,⟨FV,FW⟩⟩) fun K7=>(bif Kt then K7 (false,[])else K7 (zD,zE))) fun K5=>(bif Ss then(some (decide ((Sr:Int)=1))).bind fun mO=>some mO else some false).bind fun Pf=>K5 Pf) fun K2=>(bif eG then(gz ⟨aD,aB⟩).bind fun⟨qw,qx⟩=>(gz ⟨bt,bn⟩).bind fun⟨my,mz⟩=>K2 (my,mz,qw,qx)else K2 (bt,bn,aD,aB))
noncomputable def iO(x0:Qr):Option (Int×Int×Bool):=match x0 with|⟨⟨aD,aB⟩,⟨cS,c8⟩⟩=>(cw ⟨aD,aB⟩).bind fun⟨Cy,Nn⟩=>(cw ⟨cS,c8⟩).bind fun⟨AK,V4⟩=>bM (fun(FX:Bool)=>(bif FX then some (0,0,false)else(some (decide ((AK:Int)=0))).bind fun xN=>bM (fun(Uk:Int×Int)=>match Uk with|⟨Pg,Ph⟩=>some (Pg,Ph,true)) fun K24=>(bif xN then K24 (Cy,1)else(some (decide ((AK:Int)<0))).bind fun rm=>bM (fun(Ul:Int×Int)=>match Ul with|⟨Ku,Kv⟩=>K24 (Ku,Kv)) fun K26=>(bif rm then(some (IntKind.i64.wrap (0-Cy))).bind fun wo=>(some (IntKind.i64.wrap (0-AK))).bind fun tB=>K26 (wo,tB)else K26 (Cy,AK))))) fun K21=>(some (!Nn)).bind fun gQ=>(bif gQ then some true else(some (!V4)).bind fun ig=>some ig).bind fun Kw=>(bif Kw then some true else(some (decide ((Cy:Int)≤(-2147483648)))).bind fun jr=>some jr).bind fun St=>(bif St then some true else(some (decide ((2147483648:Int)≤Cy))).bind fun lU=>some lU).bind fun Su=>(bif Su then some true else(some (decide ((AK:Int)≤(-2147483648)))).bind fun pH=>some pH).bind fun Sv=>(bif Sv then some true else(some (decide ((2147483648:Int)≤AK))).bind fun qN=>some qN).bind fun Sw=>K21 Sw
noncomputable def jX(x0:Int)(x1:Int):Option (Qr):=(bC (fun(s6:Int×Int)=>match s6 with|⟨lT,qJ⟩=>(show Option ((Int×Int)⊕(Int))from(some (decide ((qJ:Int)≠0))).bind fun eG=>(bif eG then(AA lT qJ).bind fun gp=>some (.inl (qJ,gp))else some (.inr lT)))) (x0,x1)).bind fun sJ=>(some (decide ((sJ:Int)<0))).bind fun ek=>bM (fun(IM:Int)=>(some (decide ((IM:Int)=x1))).bind fun ij=>(bif ij then(qF x0 IM).bind fun dR=>(aM dR).bind fun⟨gW,nP⟩=>some ⟨⟨gW,nP⟩,⟨false,[]⟩⟩else(qF x0 IM).bind fun gx=>(aM gx).bind fun⟨oP,oQ⟩=>(qF x1 IM).bind fun iZ=>(aM iZ).bind fun⟨Bp,xl⟩=>some ⟨⟨oP,oQ⟩,⟨Bp,xl⟩⟩)) fun K8=>(bif ek then(some (IntKind.i64.wrap (0-sJ))).bind fun dQ=>K8 dQ else K8 sJ)
noncomputable def nV(x0:Int):Option (Int):=(some (decide ((x0:Int)<0))).bind fun x5=>(bif x5 then some (-1)else(some (decide ((0:Int)<x0))).bind fun x8=>(bif x8 then some 1 else some 0))
noncomputable def kX(x0:Zr):Option (Zr):=match x0 with|⟨aD,aB⟩=>(cM ⟨aD,aB⟩ ⟨false,[]⟩).bind fun⟨Kx,Ky⟩=>some ⟨Kx,Ky⟩
noncomputable def iC(x1:Qr)(x2:Qr):Option (Qr):=match x1 with|⟨⟨bt,bn⟩,⟨oq,ot⟩⟩=>match x2 with|⟨⟨Kr,Ks⟩,⟨V5,V6⟩⟩=>(ep ⟨⟨bt,bn⟩,⟨oq,ot⟩⟩).bind fun⟨⟨tY,tZ⟩,⟨wF,wG⟩⟩=>(ep ⟨⟨Kr,Ks⟩,⟨V5,V6⟩⟩).bind fun⟨⟨kL,kM⟩,⟨rA,rB⟩⟩=>(fN ⟨tY,tZ⟩ ⟨wF,wG⟩ ⟨kL,kM⟩ ⟨rA,rB⟩).bind fun⟨⟨Kz,KA⟩,⟨KB,KC⟩⟩=>(ia ⟨Kz,KA⟩ ⟨KB,KC⟩).bind fun⟨⟨mR,mh⟩,⟨DY,DZ⟩⟩=>some ⟨⟨mR,mh⟩,⟨DY,DZ⟩⟩
noncomputable def kN(x0:Int)(x1:Int):Option (Qr×Int):=(some (decide ((x1:Int)=0))).bind fun x7=>(bif x7 then some (⟨⟨false,[]⟩,⟨false,[]⟩⟩,7)else(aM x0).bind fun⟨k7,k8⟩=>(aM x1).bind fun⟨qw,qx⟩=>(ia ⟨k7,k8⟩ ⟨qw,qx⟩).bind fun⟨⟨qo,qp⟩,⟨Pj,Pk⟩⟩=>some (⟨⟨qo,qp⟩,⟨Pj,Pk⟩⟩,0))
noncomputable def dJ(x0:Zr):Option (Qr):=match x0 with|⟨aD,aB⟩=>(kX ⟨aD,aB⟩).bind fun⟨ou,ow⟩=>some ⟨⟨ou,ow⟩,⟨false,[]⟩⟩
noncomputable def kO(x0:Qr)(x1:Qr):Option (Qr):=match x0 with|⟨⟨aD,aB⟩,⟨cS,c8⟩⟩=>match x1 with|⟨⟨bt,bn⟩,⟨oq,ot⟩⟩=>(iO ⟨⟨aD,aB⟩,⟨cS,c8⟩⟩).bind fun⟨Sx,No,Sy⟩=>(iO ⟨⟨bt,bn⟩,⟨oq,ot⟩⟩).bind fun⟨SA,Np,SB⟩=>bM (fun(KD:Bool)=>(bif KD then(some (IntKind.i64.wrap (Sx*Np))).bind fun gx=>(some (IntKind.i64.wrap (SA*No))).bind fun iu=>(some (IntKind.i64.wrap (gx-iu))).bind fun iZ=>(some (IntKind.i64.wrap (No*Np))).bind fun oH=>(jX iZ oH).bind fun⟨⟨rC,rD⟩,⟨Pm,Pn⟩⟩=>some ⟨⟨rC,rD⟩,⟨Pm,Pn⟩⟩else(iC ⟨⟨aD,aB⟩,⟨cS,c8⟩⟩ ⟨⟨bt,bn⟩,⟨oq,ot⟩⟩).bind fun⟨⟨mm,mq⟩,⟨D0,D1⟩⟩=>some ⟨⟨mm,mq⟩,⟨D0,D1⟩⟩)) fun K3=>(bif Sy then some SB else some false).bind fun Po=>K3 Po
noncomputable def ng(x0:Qr)(x1:Qr):Option (Int):=match x0 with|⟨⟨aD,aB⟩,⟨cS,c8⟩⟩=>match x1 with|⟨⟨bt,bn⟩,⟨oq,ot⟩⟩=>(ep ⟨⟨aD,aB⟩,⟨cS,c8⟩⟩).bind fun⟨⟨tY,tZ⟩,⟨wF,wG⟩⟩=>(ep ⟨⟨bt,bn⟩,⟨oq,ot⟩⟩).bind fun⟨⟨kL,kM⟩,⟨rA,rB⟩⟩=>(cD ⟨tY,tZ⟩).bind fun gR=>(cD ⟨kL,kM⟩).bind fun dR=>bM (fun(KE:Bool)=>(bif KE then(some (IntKind.i64.wrap (gR-dR))).bind fun lW=>(nV lW).bind fun pH=>some pH else(ff ⟨tY,tZ⟩ ⟨rA,rB⟩).bind fun⟨Pp,Pq⟩=>(ff ⟨kL,kM⟩ ⟨wF,wG⟩).bind fun⟨D2,D3⟩=>(lf ⟨Pp,Pq⟩ ⟨D2,D3⟩).bind fun oc=>some oc)) fun K3=>(some (decide ((gR:Int)≠dR))).bind fun jr=>(bif jr then some true else(some (decide ((gR:Int)=0))).bind fun qm=>some qm).bind fun Pr=>K3 Pr
noncomputable def jY(x0:Qr):Option (Zr):=match x0 with|⟨⟨aD,aB⟩,⟨cS,c8⟩⟩=>(ep ⟨⟨aD,aB⟩,⟨cS,c8⟩⟩).bind fun⟨⟨Ps,Pt⟩,⟨Pu,Pv⟩⟩=>(cu ⟨Ps,Pt⟩ ⟨Pu,Pv⟩).bind fun⟨⟨rE,rF⟩,⟨FY,FZ⟩,SC⟩=>some ⟨rE,rF⟩
end Go.Proofs.YtmiflmkdaeianaaGreat
namespace Go.Proofs.YtmiflmkdaeianaaGreat
open Go.Fw Go.Fw.Z Go.RowKit
abbrev KF:List (Value×Value):=[(.int .u8 43,.agg #[.func (.func 99) #[] #[]]),(.int .u8 45,.agg #[.func (.func 100) #[] #[]]),(.int .u8 42,.agg #[.func (.func 101) #[] #[]]),(.int .u8 47,.agg #[.func (.func 102) #[] #[]])]
theorem ua:Pure Tryz.prog 84 [] (JY KF):=by
 refine aq Tryz.func84 rfl (Nat.le_of_ble_eq_true rfl) (fun c9 M vs hvs=>?_)
 refine bA<|af<|RT.B7 .none rfl T<|RT.done<|ae.n<|bA<|M5 (Nat.le_of_ble_eq_true rfl) rfl rfl rfl (fun S' h0=>?_)
 exact aj (R1 h0)
theorem rG{x0:Zr}{x1:Zr}{x2:Zr}{x3:Zr}{r:Zr×Zr}(h:fN x0 x1 x2 x3=some r):Pure Tryz.prog 100 [.agg (eZ x0),.agg (eZ x1),.agg (eZ x2),.agg (eZ x3)] (.w6 [.agg (eZ r.1),.agg (eZ r.2)]):=by
 obtain⟨aD,aB⟩:=x0
 obtain⟨bt,bn⟩:=x1
 obtain⟨Kr,Ks⟩:=x2
 obtain⟨Sj,Sk⟩:=x3
 refine aq Tryz.func100 rfl (Nat.le_of_ble_eq_true rfl) (fun c9 M vs hvs=>?_)
 unfold fN at h
 refine sr<|bx rfl<|bx rfl<|bx rfl<|bx rfl<|al (cs:=[.v (.bool false),slc 1 (List.map ah [])]) (by exact⟨SV.aa _,imp_nil,trivial⟩) rfl<|al (cs:=[.v (.bool false),slc 1 (List.map ah [])]) (by exact⟨SV.aa _,imp_nil,trivial⟩) rfl<|dn<|qq<|ai mixed<|ld rfl rfl (.cons rfl (.cons rfl (.nil)))<|ld rfl rfl (.cons rfl (.cons rfl (.nil))) ?_
 obtain⟨⟨qw,qx⟩,gX,h⟩:=bS h
 refine cl (jW gX) ⟨rfl,rfl,trivial⟩<|ld rfl rfl (.cons rfl (.cons rfl (.nil)))<|ld rfl rfl (.cons rfl (.cons rfl (.nil))) ?_
 obtain⟨⟨qy,qz⟩,nK,h⟩:=bS h
 refine cl (jW nK) ⟨rfl,rfl,trivial⟩ ?_
 obtain⟨⟨qt,qu⟩,jz,h⟩:=bS h
 refine cl (pU jz) ⟨rfl,rfl,trivial⟩<|ld rfl rfl (.cons rfl (.cons rfl (.nil)))<|ld rfl rfl (.cons rfl (.cons rfl (.nil))) ?_
 obtain⟨⟨nT,nU⟩,mW,h⟩:=bS h
 refine cl (jW mW) ⟨rfl,rfl,trivial⟩<|so rfl rfl rfl<|so rfl rfl rfl ?_
 refine RT.done ⟨by kernel_rfl,?_⟩
 refine ae.n<|aj ?_
 obtain rfl:=O h
 exact RZ (.agg rfl rfl (.cons rfl (.cons rfl (.nil))) rfl (.agg rfl rfl (.cons rfl (.cons rfl (.nil))) rfl (.nil)))
theorem jc{x0:Qr}{r:Zr×Zr}(h:ep x0=some r):Pure Tryz.prog 53 [.agg (eQ x0)] (.w6 [.agg (eZ r.1),.agg (eZ r.2)]):=by
 obtain⟨⟨aD,aB⟩,⟨cS,c8⟩⟩:=x0
 refine aq Tryz.func53 rfl (Nat.le_of_ble_eq_true rfl) (fun c9 M vs hvs=>?_)
 unfold ep at h
 refine sr<|bx rfl<|al (cs:=[.v (.bool false),slc 1 (List.map ah [])]) (by exact⟨SV.aa _,imp_nil,trivial⟩) rfl<|al (cs:=[.v (.bool false),slc 1 (List.map ah [])]) (by exact⟨SV.aa _,imp_nil,trivial⟩) rfl<|dn<|qq<|sr<|fa rfl rfl<|ld rfl rfl (.cons rfl (.cons rfl (.nil)))<|bE h fun x6 h6 h=>cl (fG h6) ⟨rfl,trivial⟩<|dn<|ax<|sr<|lE h fun x8 h8 h=>eq _ rfl rfl (oN (p:=x6) (q:=0) h8) ?_
 refine ag rfl<|dn ?_
 cases x8
 refine cF<|sr<|lE (F h) fun fE jy h=>eq _ rfl rfl (oN (p:=x6) (q:=(-1)) jy)<|ag rfl<|dn ?_
 cases fE
 refine cF<|aE<|aG.n<|ae.n<|qq<|ai mixed<|fa rfl rfl<|ld rfl rfl (.cons rfl (.cons rfl (.nil)))<|fa rfl rfl<|ld rfl rfl (.cons rfl (.cons rfl (.nil)))<|so rfl rfl rfl<|so rfl rfl rfl ?_
 refine RT.done ⟨by kernel_rfl,?_⟩
 refine ae.n<|aj ?_
 obtain rfl:=O (F h)
 exact RZ (.agg rfl rfl (.cons rfl (.cons rfl (.nil))) rfl (.agg rfl rfl (.cons rfl (.cons rfl (.nil))) rfl (.nil)))
 refine cT<|qq<|ai mixed<|fa rfl rfl<|ld rfl rfl (.cons rfl (.cons rfl (.nil))) ?_
 obtain⟨⟨qt,qu⟩,jz,h⟩:=bS (V h)
 refine cl (mF jz) ⟨rfl,trivial⟩<|fa rfl rfl<|ld rfl rfl (.cons rfl (.cons rfl (.nil))) ?_
 obtain⟨⟨nT,nU⟩,mW,h⟩:=bS h
 refine cl (mF mW) ⟨rfl,trivial⟩<|so rfl rfl rfl<|so rfl rfl rfl ?_
 refine RT.done ⟨by kernel_rfl,?_⟩
 refine ae.n<|aj<|aG.r<|ae.r ?_
 obtain rfl:=O h
 exact RZ (.agg rfl rfl (.cons rfl (.cons rfl (.nil))) rfl (.agg rfl rfl (.cons rfl (.cons rfl (.nil))) rfl (.nil)))
 refine cT<|qq<|ai mixed<|fa rfl rfl<|ld rfl rfl (.cons rfl (.cons rfl (.nil))) ?_
 obtain⟨⟨iq,mw⟩,iV,h⟩:=bS (V h)
 refine cl (bN iV) ⟨rfl,trivial⟩<|so rfl rfl rfl<|so rfl rfl rfl ?_
 refine RT.done ⟨by kernel_rfl,?_⟩
 refine ae.n<|aj<|aG.r<|ae.r ?_
 obtain rfl:=O h
 exact RZ (.agg rfl rfl (.cons rfl (.cons rfl (.nil))) rfl (.agg rfl rfl (.cons rfl (.cons rfl (.nil))) rfl (.nil)))
theorem rH{x0:Zr}{x1:Zr}{r:Qr}(h:ia x0 x1=some r):Pure Tryz.prog 51 [.agg (eZ x0),.agg (eZ x1)] (.agg (eQ r)):=by
 obtain⟨aD,aB⟩:=x0
 obtain⟨bt,bn⟩:=x1
 refine aq Tryz.func51 rfl (Nat.le_of_ble_eq_true rfl) (fun c9 M vs hvs=>?_)
 unfold ia at h
 refine sr<|bx rfl<|bx rfl<|al (cs:=[.v (.bool false),slc 1 (List.map ah []),.v (.bool false),slc 1 (List.map ah [])]) (by exact⟨SV.aa _,imp_nil,SV.aa _,imp_nil,trivial⟩) rfl<|dn<|qq<|sr<|ld rfl rfl (.cons rfl (.cons rfl (.nil)))<|bE h fun x9 h9 h=>cl (fG h9) ⟨rfl,trivial⟩<|lE h fun eG gG h=>ls _ rfl rfl gG<|dn ?_
 refine aC h (fun j2=>AS.bL 46 [(2,.ptr 2 0),(3,.ptr 3 0),(4,.ptr 4 0)] [(4,⟨37,[.sv (.v (.bool false)),.sv (slc 1 (List.map ah [])),.sv (.v (.bool false)),.sv (slc 1 (List.map ah []))]⟩),(3,⟨35,[.sv (.v (.bool j2.1)),.sv (slc 1 (List.map ah j2.2.1))]⟩),(2,⟨35,[.sv (.v (.bool j2.2.2.1)),.sv (slc 1 (List.map ah j2.2.2.2))]⟩)] []) (fun h=>?_) (fun j2 h=>?_)
 cases eG
 exact fs<|⟨(bt,bn,aD,aB),(F h),wR []⟩
 refine cT<|ai mixed<|ld rfl rfl (.cons rfl (.cons rfl (.nil))) ?_
 obtain⟨⟨qw,qx⟩,gX,h⟩:=bS (V h)
 refine cl (mF gX) ⟨rfl,trivial⟩<|ld rfl rfl (.cons rfl (.cons rfl (.nil))) ?_
 obtain⟨⟨my,mz⟩,kU,h⟩:=bS h
 refine cl (mF kU) ⟨rfl,trivial⟩<|so rfl rfl rfl<|so rfl rfl rfl ?_
 refine RT.done ⟨by kernel_rfl,?_⟩
 exact ae.n<|⟨(my,mz,qw,qx),h,wR []⟩
 obtain⟨FO,FP,FR,FU⟩:=j2
 try dsimp only
 refine ae.n<|sr<|ld rfl rfl (.cons rfl (.cons rfl (.nil)))<|ld rfl rfl (.cons rfl (.cons rfl (.nil))) ?_
 obtain⟨⟨nc,nf⟩,iW,h⟩:=bS h
 refine cl (Cv iW) ⟨rfl,rfl,trivial⟩<|al (cs:=[.v (.bool false),slc 1 (List.map ah [])]) (by exact⟨SV.aa _,imp_nil,trivial⟩) rfl<|so rfl rfl rfl<|dn<|sr<|ld rfl rfl (.cons rfl (.cons rfl (.nil)))<|ld rfl rfl (.cons rfl (.cons rfl (.nil))) ?_
 obtain⟨⟨⟨zB,zC⟩,⟨Sl,Sn⟩,aec⟩,mX,h⟩:=bS h
 refine cl (jt mX) ⟨rfl,rfl,trivial⟩<|mv rfl<|ex rfl rfl<|ex rfl rfl<|ex rfl rfl<|so rfl rfl rfl<|dn<|sr<|ld rfl rfl (.cons rfl (.cons rfl (.nil)))<|ld rfl rfl (.cons rfl (.cons rfl (.nil))) ?_
 obtain⟨⟨⟨zD,zE⟩,⟨So,Sq⟩,aed⟩,ru,h⟩:=bS h
 refine cl (jt ru) ⟨rfl,rfl,trivial⟩<|mv rfl<|ex rfl rfl<|ex rfl rfl<|ex rfl rfl<|so rfl rfl rfl<|dn<|qq<|sr<|ld rfl rfl (.cons rfl (.cons rfl (.nil))) ?_
 obtain⟨⟨Sr,Ss⟩,qH,h⟩:=bS h
 refine cl (di qH) ⟨rfl,trivial⟩<|mv rfl<|ex rfl rfl<|ex rfl rfl<|ag rfl<|ag rfl<|dn<|qq ?_
 refine aC h (fun j5=>AS.bL 46 [(2,.ptr 2 0),(3,.ptr 3 0),(4,.ptr 4 0),(41,.sv (.v (.bool j5)))] [(4,⟨37,[.sv (.v (.bool false)),.sv (slc 1 (List.map ah [])),.sv (.v (.bool false)),.sv (slc 1 (List.map ah []))]⟩),(3,⟨35,[.sv (.v (.bool zD)),.sv (slc 1 (List.map ah zE))]⟩),(2,⟨35,[.sv (.v (.bool zB)),.sv (slc 1 (List.map ah zC))]⟩)] []) (fun h=>?_) (fun Kt h=>?_)
 refine af<|mv rfl<|mv rfl<|bE h fun Pf Nq h=>?_
 cases Ss
 obtain rfl:=O (F Nq)
 exact ww<|ww<|pF rfl<|dn<|⟨false,h,wR []⟩
 refine gm rfl<|lE (V Nq) fun mO sx Nq=>DO _ rfl rfl (oN (p:=Sr) (q:=1) sx) ?_
 obtain rfl:=O Nq
 exact pT rfl<|dn<|⟨mO,h,wR []⟩
 try dsimp only
 refine ae.n ?_
 refine aC h (fun j7=>AS.bL 46 [(2,.ptr 2 0),(3,.ptr 3 0),(4,.ptr 4 0)] [(4,⟨37,[.sv (.v (.bool false)),.sv (slc 1 (List.map ah [])),.sv (.v (.bool false)),.sv (slc 1 (List.map ah []))]⟩),(3,⟨35,[.sv (.v (.bool j7.1)),.sv (slc 1 (List.map ah j7.2))]⟩),(2,⟨35,[.sv (.v (.bool zB)),.sv (slc 1 (List.map ah zC))]⟩)] []) (fun h=>?_) (fun j7 h=>?_)
 cases Kt
 exact fs<|⟨(zD,zE),(F h),wR []⟩
 exact cT<|af<|bI (cs:=[_,_]) (cs':=[.v (.bool false),slc 1 (List.map ah [])]) (.nil) ⟨SV.aa _,imp_nil,trivial⟩<|so rfl rfl rfl<|dn<|⟨(false,[]),(V h),wR []⟩
 obtain⟨FV,FW⟩:=j7
 try dsimp only
 refine ae.n<|sr<|ld rfl rfl (.cons rfl (.cons rfl (.nil)))<|ld rfl rfl (.cons rfl (.cons rfl (.nil)))<|bI (cs:=[_,_,_,_]) (cs':=[.v (.bool zB),slc 1 (List.map ah zC),.v (.bool FV),slc 1 (List.map ah FW)]) (.agg rfl (.agg rfl (.nil))) ⟨SV.aa _,SV.aa _,SV.aa _,SV.aa _,trivial⟩<|so rfl rfl rfl<|dn<|aj ?_
 obtain rfl:=O h
 exact RZ (.agg rfl rfl (.cons rfl (.cons rfl (.cons rfl (.cons rfl (.nil))))) rfl (.nil))
theorem sW{x0:Qr}{r:Int×Int×Bool}(h:iO x0=some r):Pure Tryz.prog 57 [.agg (eQ x0)] (.w6 [.v (.int .i64 r.1),.v (.int .i64 r.2.1),.v (.bool r.2.2)]):=by
 obtain⟨⟨aD,aB⟩,⟨cS,c8⟩⟩:=x0
 refine aq Tryz.func57 rfl (Nat.le_of_ble_eq_true rfl) (fun c9 M vs hvs=>?_)
 unfold iO at h
 refine sr<|bx rfl<|ag rfl<|ag rfl<|ag rfl<|dn<|sr<|fa rfl rfl<|ld rfl rfl (.cons rfl (.cons rfl (.nil))) ?_
 obtain⟨⟨Cy,Nn⟩,gG,h⟩:=bS h
 refine cl (di gG) ⟨rfl,trivial⟩<|mv rfl<|ex rfl rfl<|ex rfl rfl<|ag rfl<|ag rfl<|dn<|sr<|fa rfl rfl<|ld rfl rfl (.cons rfl (.cons rfl (.nil))) ?_
 obtain⟨⟨AK,V4⟩,jz,h⟩:=bS h
 refine cl (di jz) ⟨rfl,trivial⟩<|mv rfl<|ex rfl rfl<|ex rfl rfl<|ag rfl<|ag rfl<|dn<|qq<|qq ?_
 refine aC h (fun j21=>AS.bL 53 [(2,.sv (.v (.int .i64 Cy))),(3,.sv (.v (.int .i64 AK))),(40,.sv (.v (.bool j21)))] [] []) (fun h=>?_) (fun FX h=>?_)
 refine af<|mv rfl<|lE h fun gQ kE h=>nt rfl _ kE<|mv rfl<|bE h fun Kw Nr h=>?_
 cases gQ
 refine gm rfl<|lE (F Nr) fun ig mB Nr=>gt_ rfl _ mB ?_
 obtain rfl:=O Nr
 refine pF rfl<|mv rfl<|bE h fun aee Ns h=>?_
 cases ig
 refine gm rfl<|lE (F Ns) fun jr nI Ns=>RT.leq (.some rfl rfl) _ rfl rfl T nI ?_
 obtain rfl:=O Ns
 refine pF rfl<|mv rfl<|bE h fun aef Cz h=>?_
 cases jr
 refine gm rfl<|lE (F Cz) fun lU sV Cz=>RT.geq (.some rfl rfl) _ rfl rfl T sV ?_
 obtain rfl:=O Cz
 refine pF rfl<|mv rfl<|bE h fun aeg CA h=>?_
 cases lU
 refine gm rfl<|lE (F CA) fun pH AH CA=>RT.leq (.some rfl rfl) _ rfl rfl T AH ?_
 obtain rfl:=O CA
 refine pF rfl<|mv rfl<|bE h fun aeh IN h=>?_
 cases pH
 refine gm rfl<|lE (F IN) fun qN Ct IN=>RT.geq (.some rfl rfl) _ rfl rfl T Ct ?_
 obtain rfl:=O IN
 exact pF rfl<|dn<|⟨qN,h,wR []⟩
 obtain rfl:=O (V IN)
 exact ww<|ww<|pT rfl<|dn<|⟨true,h,wR []⟩
 obtain rfl:=O (V CA)
 refine ww<|ww<|pT rfl<|mv rfl<|bE h fun aei aej h=>?_
 obtain rfl:=O (V aej)
 exact ww<|ww<|pT rfl<|dn<|⟨true,h,wR []⟩
 obtain rfl:=O (V Cz)
 refine ww<|ww<|pT rfl<|mv rfl<|bE h fun aek IP h=>?_
 obtain rfl:=O (V IP)
 refine ww<|ww<|pT rfl<|mv rfl<|bE h fun ael KG h=>?_
 obtain rfl:=O (V KG)
 exact ww<|ww<|pT rfl<|dn<|⟨true,h,wR []⟩
 obtain rfl:=O (V Ns)
 refine ww<|ww<|pT rfl<|mv rfl<|bE h fun aem AL h=>?_
 obtain rfl:=O (V AL)
 refine ww<|ww<|pT rfl<|mv rfl<|bE h fun aen AM h=>?_
 obtain rfl:=O (V AM)
 refine ww<|ww<|pT rfl<|mv rfl<|bE h fun aeo xS h=>?_
 obtain rfl:=O (V xS)
 exact ww<|ww<|pT rfl<|dn<|⟨true,h,wR []⟩
 obtain rfl:=O (V Nr)
 refine ww<|ww<|pT rfl<|mv rfl<|bE h fun aep SD h=>?_
 obtain rfl:=O (V SD)
 refine ww<|ww<|pT rfl<|mv rfl<|bE h fun aeq SE h=>?_
 obtain rfl:=O (V SE)
 refine ww<|ww<|pT rfl<|mv rfl<|bE h fun aer SF h=>?_
 obtain rfl:=O (V SF)
 refine ww<|ww<|pT rfl<|mv rfl<|bE h fun aes aet h=>?_
 obtain rfl:=O (V aet)
 exact ww<|ww<|pT rfl<|dn<|⟨true,h,wR []⟩
 try dsimp only
 refine ae.n ?_
 cases FX
 refine fs<|qq<|ax<|sr<|mv rfl<|lE (F h) fun xN GX h=>eq _ rfl rfl (oN (p:=AK) (q:=0) GX)<|ag rfl<|dn ?_
 refine aC h (fun Uk=>AS.bL 53 [(2,.sv (.v (.int .i64 Uk.1))),(3,.sv (.v (.int .i64 Uk.2)))] [] []) (fun h=>?_) (fun Uk h=>?_)
 cases xN
 refine cF<|sr<|mv rfl<|lE (F h) fun rm h46 h=>ls _ rfl rfl h46<|ag rfl<|dn ?_
 refine aC h (fun Ul=>AS.bL 53 [(2,.sv (.v (.int .i64 Ul.1))),(3,.sv (.v (.int .i64 Ul.2)))] [] []) (fun h=>?_) (fun Ul h=>?_)
 cases rm
 exact fs<|⟨(Cy,AK),(F h),wR []⟩
 exact cT<|af<|mv rfl<|lE (V h) fun wo h48 h=>RT.neg .none _ rfl T h48<|mv rfl<|lE h fun tB Co h=>RT.neg .none _ rfl T Co<|ag rfl<|ag rfl<|dn<|⟨(wo,tB),h,wR []⟩
 obtain⟨Ku,Kv⟩:=Ul
 try dsimp only
 exact ae.n<|⟨(Ku,Kv),h,wR []⟩
 exact cT<|af<|ag rfl<|dn<|⟨(Cy,1),(V h),wR []⟩
 obtain⟨Pg,Ph⟩:=Uk
 try dsimp only
 refine aG.n<|ae.n<|sr<|mv rfl<|mv rfl<|ag rfl<|ag rfl<|ag rfl<|dn<|aj ?_
 obtain rfl:=O h
 exact RZ (.tmp rfl (.tmp rfl (.tmp rfl (.nil))))
 refine cT<|sr<|ag rfl<|ag rfl<|ag rfl<|dn<|aj<|ae.r ?_
 obtain rfl:=O (V h)
 exact RZ (.tmp rfl (.tmp rfl (.tmp rfl (.nil))))
theorem AN{x0:Int}{x1:Int}{r:Qr}(h:jX x0 x1=some r):Pure Tryz.prog 58 [.v (.int .i64 x0),.v (.int .i64 x1)] (.agg (eQ r)):=by
 refine aq Tryz.func58 rfl (Nat.le_of_ble_eq_true rfl) (fun c9 M vs hvs=>?_)
 unfold jX at h
 refine sr<|al (cs:=[.v (.bool false),slc 1 (List.map ah []),.v (.bool false),slc 1 (List.map ah [])]) (by exact⟨SV.aa _,imp_nil,SV.aa _,imp_nil,trivial⟩) rfl<|dn<|sr<|mv rfl<|mv rfl<|ag rfl<|ag rfl<|dn<|qq<|bE h fun e6 FF kV=>?_
 refine aP (fun(sJ:Int)=>AS.bL 36 [(0,.sv (.v (.int .i64 x0))),(1,.sv (.v (.int .i64 x1))),(4,.ptr 4 0),(5,.sv (.v (.int .i64 sJ)))] [(4,⟨37,[.sv (.v (.bool false)),.sv (slc 1 (List.map ah [])),.sv (.v (.bool false)),.sv (slc 1 (List.map ah []))]⟩)] []) (fun sJ=>sJ=e6) ?_ (fun sJ FG=>?_)
 refine ax ?_
 refine aQ FF (fun s6=>AS.bL 36 [(0,.sv (.v (.int .i64 x0))),(1,.sv (.v (.int .i64 x1))),(4,.ptr 4 0),(5,.sv (.v (.int .i64 s6.1))),(6,.sv (.v (.int .i64 s6.2)))] [(4,⟨37,[.sv (.v (.bool false)),.sv (slc 1 (List.map ah [])),.sv (.v (.bool false)),.sv (slc 1 (List.map ah []))]⟩)] []) (wR []) (fun s6 y6 G6 h FH Ck=>?_)
 obtain⟨lT,qJ⟩:=s6
 try dsimp only
 refine qq<|sr<|mv rfl<|lE h fun eG gG h=>ne _ rfl rfl (It (p:=qJ) (q:=0) gG)<|dn ?_
 cases eG
 refine cF<|aW<|ae.x<|ae.x<|aG.x<|ae.n ?_
 obtain rfl:=O (F h)
 exact⟨lT,Ck _ rfl,wR []⟩
 refine cT<|aE<|ae.n<|ax<|ai mixed<|mv rfl<|mv rfl<|mv rfl<|bE (V h) fun gp kU h=>RT.rem .none _ rfl rfl T (Rh kU) (Ri kU)<|ag rfl<|ag rfl ?_
 refine RT.done ⟨by kernel_rfl,?_⟩
 refine aG.n ?_
 obtain rfl:=O h
 exact ae.n ⟨(qJ,gp),FH _ rfl,wR []⟩
 subst FG
 try dsimp only
 refine ae.n<|qq<|sr<|mv rfl<|lE kV fun ek jz kV=>ls _ rfl rfl jz<|dn ?_
 refine aC kV (fun j8=>AS.bL 36 [(0,.sv (.v (.int .i64 x0))),(1,.sv (.v (.int .i64 x1))),(4,.ptr 4 0),(5,.sv (.v (.int .i64 j8)))] [(4,⟨37,[.sv (.v (.bool false)),.sv (slc 1 (List.map ah [])),.sv (.v (.bool false)),.sv (slc 1 (List.map ah []))]⟩)] []) (fun kV=>?_) (fun IM kV=>?_)
 cases ek
 exact fs<|⟨sJ,(F kV),wR []⟩
 exact cT<|af<|mv rfl<|lE (V kV) fun dQ iN kV=>RT.neg .none _ rfl T iN<|ag rfl<|dn<|⟨dQ,kV,wR []⟩
 try dsimp only
 refine ae.n<|qq<|sr<|mv rfl<|mv rfl<|lE kV fun ij mX kV=>eq _ rfl rfl (oN (p:=IM) (q:=x1) mX)<|dn ?_
 cases ij
 refine fs<|qq<|ai mixed<|mv rfl<|mv rfl<|bE (F kV) fun gx kW kV=>RT.quo .none _ rfl rfl T (U7 kW) (JU kW) ?_
 obtain⟨⟨oP,oQ⟩,vc,kV⟩:=bS kV
 refine cl (bN vc) ⟨rfl,trivial⟩<|mv rfl<|mv rfl<|bE kV fun iZ mu kV=>RT.quo .none _ rfl rfl T (U7 mu) (JU mu) ?_
 obtain⟨⟨Bp,xl⟩,qH,kV⟩:=bS kV
 refine cl (bN qH) ⟨rfl,trivial⟩<|bI (cs:=[_,_,_,_]) (cs':=[.v (.bool oP),slc 1 (List.map ah oQ),.v (.bool Bp),slc 1 (List.map ah xl)]) (.agg rfl (.agg rfl (.nil))) ⟨SV.aa _,SV.aa _,SV.aa _,SV.aa _,trivial⟩<|so rfl rfl rfl ?_
 refine RT.done ⟨by kernel_rfl,?_⟩
 refine ae.n<|aj ?_
 obtain rfl:=O kV
 exact RZ (.agg rfl rfl (.cons rfl (.cons rfl (.cons rfl (.cons rfl (.nil))))) rfl (.nil))
 refine cT<|sr<|mv rfl<|mv rfl<|bE (V kV) fun dR lQ kV=>RT.quo .none _ rfl rfl T (U7 lQ) (JU lQ) ?_
 obtain⟨⟨gW,nP⟩,om,kV⟩:=bS kV
 refine cl (bN om) ⟨rfl,trivial⟩<|bI (cs:=[_,_,_,_]) (cs':=[.v (.bool gW),slc 1 (List.map ah nP),.v (.bool false),slc 1 (List.map ah [])]) (.agg rfl (.nil)) ⟨SV.aa _,SV.aa _,SV.aa _,imp_nil,trivial⟩<|so rfl rfl rfl<|dn<|aj<|ae.r ?_
 obtain rfl:=O kV
 exact RZ (.agg rfl rfl (.cons rfl (.cons rfl (.cons rfl (.cons rfl (.nil))))) rfl (.nil))
theorem CB{x0:Int}{r:Int}(h:nV x0=some r):Pure Tryz.prog 54 [.v (.int .i64 x0)] (.v (.int .i64 r)):=by
 refine aq Tryz.func54 rfl (Nat.le_of_ble_eq_true rfl) (fun c9 M vs hvs=>?_)
 unfold nV at h
 refine sr<|ag rfl<|dn<|qq<|ax<|sr<|mv rfl<|lE h fun x5 h5 h=>ls _ rfl rfl h5<|ag rfl<|dn ?_
 cases x5
 refine cF<|sr<|mv rfl<|lE (F h) fun x8 h8 h=>gt _ rfl rfl h8<|ag rfl<|dn ?_
 cases x8
 refine cF<|aE<|aG.n<|ae.n<|sr<|ag rfl<|dn<|aj ?_
 obtain rfl:=O (F h)
 exact R1 rfl
 refine cT<|sr<|ag rfl<|dn<|aj<|aG.r<|ae.r ?_
 obtain rfl:=O (V h)
 exact R1 rfl
 refine cT<|sr<|ag rfl<|dn<|aj<|aG.r<|ae.r ?_
 obtain rfl:=O (V h)
 exact R1 rfl
theorem zF{x0:Zr}{r:Zr}(h:kX x0=some r):Pure Tryz.prog 60 [.agg (eZ x0)] (.agg (eZ r)):=by
 obtain⟨aD,aB⟩:=x0
 refine aq Tryz.func60 rfl (Nat.le_of_ble_eq_true rfl) (fun c9 M vs hvs=>?_)
 unfold kX at h
 refine sr<|bx rfl<|al (cs:=[.v (.bool false),slc 1 (List.map ah [])]) (by exact⟨SV.aa _,imp_nil,trivial⟩) rfl<|dn<|sr<|ld rfl rfl (.cons rfl (.cons rfl (.nil)))<|bI (cs:=[_,_]) (cs':=[.v (.bool false),slc 1 (List.map ah [])]) (.nil) ⟨SV.aa _,imp_nil,trivial⟩ ?_
 obtain⟨⟨Kx,Ky⟩,h5,h⟩:=bS h
 refine cl (fg h5) ⟨rfl,rfl,trivial⟩<|so rfl rfl rfl<|dn<|aj ?_
 obtain rfl:=O h
 exact RZ (.agg rfl rfl (.cons rfl (.cons rfl (.nil))) rfl (.nil))
theorem xT{x1:Qr}{x2:Qr}{r:Qr}(h:iC x1 x2=some r):Pure Tryz.prog 59 [.v (.int .u8 ((45:Nat):Int)),.agg (eQ x1),.agg (eQ x2)] (.agg (eQ r)):=by
 obtain⟨⟨bt,bn⟩,⟨oq,ot⟩⟩:=x1
 obtain⟨⟨Kr,Ks⟩,⟨V5,V6⟩⟩:=x2
 refine aq Tryz.func59 rfl (Nat.le_of_ble_eq_true rfl) (fun c9 M vs hvs=>?_)
 unfold iC at h
 refine sr<|bx rfl<|bx rfl<|al (cs:=[.v (.bool false),slc 1 (List.map ah []),.v (.bool false),slc 1 (List.map ah [])]) (by exact⟨SV.aa _,imp_nil,SV.aa _,imp_nil,trivial⟩) rfl<|dn<|sr<|ld rfl rfl (.cons rfl (.cons rfl (.cons rfl (.cons rfl (.nil))))) ?_
 obtain⟨⟨⟨tY,tZ⟩,⟨wF,wG⟩⟩,jy,h⟩:=bS h
 refine cl (jc jy) ⟨rfl,trivial⟩<|mv rfl<|ex rfl rfl<|ex rfl rfl<|al (cs:=[.v (.bool false),slc 1 (List.map ah [])]) (by exact⟨SV.aa _,imp_nil,trivial⟩) rfl<|al (cs:=[.v (.bool false),slc 1 (List.map ah [])]) (by exact⟨SV.aa _,imp_nil,trivial⟩) rfl<|so rfl rfl rfl<|so rfl rfl rfl<|dn<|sr<|ld rfl rfl (.cons rfl (.cons rfl (.cons rfl (.cons rfl (.nil))))) ?_
 obtain⟨⟨⟨kL,kM⟩,⟨rA,rB⟩⟩,iN,h⟩:=bS h
 refine cl (jc iN) ⟨rfl,trivial⟩<|mv rfl<|ex rfl rfl<|ex rfl rfl<|al (cs:=[.v (.bool false),slc 1 (List.map ah [])]) (by exact⟨SV.aa _,imp_nil,trivial⟩) rfl<|al (cs:=[.v (.bool false),slc 1 (List.map ah [])]) (by exact⟨SV.aa _,imp_nil,trivial⟩) rfl<|so rfl rfl rfl<|so rfl rfl rfl<|dn<|qq<|ai mixed<|cl ua trivial<|mv rfl ?_
 refine RT.look .none [.func (.func 100) #[] #[]] rfl rfl rfl T<|fl rfl rfl<|ld rfl rfl (.cons rfl (.cons rfl (.nil)))<|ld rfl rfl (.cons rfl (.cons rfl (.nil)))<|ld rfl rfl (.cons rfl (.cons rfl (.nil)))<|ld rfl rfl (.cons rfl (.cons rfl (.nil))) ?_
 obtain⟨⟨⟨Kz,KA⟩,⟨KB,KC⟩⟩,kW,h⟩:=bS h
 refine cl (rG kW) ⟨rfl,rfl,rfl,rfl,trivial⟩<|ex rfl rfl<|ex rfl rfl ?_
 obtain⟨⟨⟨mR,mh⟩,⟨DY,DZ⟩⟩,lY,h⟩:=bS h
 refine cl (rH lY) ⟨rfl,rfl,trivial⟩<|so rfl rfl rfl ?_
 refine RT.done ⟨by kernel_rfl,?_⟩
 refine ae.n<|aj ?_
 obtain rfl:=O h
 exact RZ (.agg rfl rfl (.cons rfl (.cons rfl (.cons rfl (.cons rfl (.nil))))) rfl (.nil))
end Go.Proofs.YtmiflmkdaeianaaGreat
namespace Go.Proofs.YtmiflmkdaeianaaGreat
open Go.Fw Go.Fw.Z Go.RowKit
theorem xm{x0:Int}{x1:Int}{r:Qr×Int}(h:kN x0 x1=some r):Pure Tryz.prog 30 [.v (.int .i64 x0),.v (.int .i64 x1)] (.w6 [.agg (eQ r.1),.v (.int .i64 r.2)]):=by
 refine aq Tryz.func30 rfl (Nat.le_of_ble_eq_true rfl) (fun c9 M vs hvs=>?_)
 unfold kN at h
 refine sr<|al (cs:=[.v (.bool false),slc 1 (List.map ah []),.v (.bool false),slc 1 (List.map ah [])]) (by exact⟨SV.aa _,imp_nil,SV.aa _,imp_nil,trivial⟩) rfl<|ag rfl<|dn<|qq<|sr<|mv rfl<|lE h fun x7 h7 h=>eq _ rfl rfl (oN (p:=x1) (q:=0) h7)<|dn ?_
 cases x7
 refine fs<|sr<|mv rfl ?_
 obtain⟨⟨k7,k8⟩,gG,h⟩:=bS (F h)
 refine cl (bN gG) ⟨rfl,trivial⟩<|mv rfl ?_
 obtain⟨⟨qw,qx⟩,gX,h⟩:=bS h
 refine cl (bN gX) ⟨rfl,trivial⟩ ?_
 obtain⟨⟨⟨qo,qp⟩,⟨Pj,Pk⟩⟩,jy,h⟩:=bS h
 refine cl (rH jy) ⟨rfl,rfl,trivial⟩<|so rfl rfl rfl<|ag rfl<|dn<|aj ?_
 obtain rfl:=O h
 exact RZ (.agg rfl rfl (.cons rfl (.cons rfl (.cons rfl (.cons rfl (.nil))))) rfl (.tmp rfl (.nil)))
 refine cT<|sr<|bI (cs:=[_,_,_,_]) (cs':=[.v (.bool false),slc 1 (List.map ah []),.v (.bool false),slc 1 (List.map ah [])]) (.nil) ⟨SV.aa _,imp_nil,SV.aa _,imp_nil,trivial⟩<|so rfl rfl rfl<|ag rfl<|dn<|aj<|ae.r ?_
 obtain rfl:=O (V h)
 exact RZ (.agg rfl rfl (.cons rfl (.cons rfl (.cons rfl (.cons rfl (.nil))))) rfl (.tmp rfl (.nil)))
theorem sK{x0:Zr}{r:Qr}(h:dJ x0=some r):Pure Tryz.prog 36 [.agg (eZ x0)] (.agg (eQ r)):=by
 obtain⟨aD,aB⟩:=x0
 refine aq Tryz.func36 rfl (Nat.le_of_ble_eq_true rfl) (fun c9 M vs hvs=>?_)
 unfold dJ at h
 refine sr<|bx rfl<|al (cs:=[.v (.bool false),slc 1 (List.map ah []),.v (.bool false),slc 1 (List.map ah [])]) (by exact⟨SV.aa _,imp_nil,SV.aa _,imp_nil,trivial⟩) rfl<|dn<|sr<|ld rfl rfl (.cons rfl (.cons rfl (.nil))) ?_
 obtain⟨⟨ou,ow⟩,h4,h⟩:=bS h
 refine cl (zF h4) ⟨rfl,trivial⟩<|bI (cs:=[_,_,_,_]) (cs':=[.v (.bool ou),slc 1 (List.map ah ow),.v (.bool false),slc 1 (List.map ah [])]) (.agg rfl (.nil)) ⟨SV.aa _,SV.aa _,SV.aa _,imp_nil,trivial⟩<|so rfl rfl rfl<|dn<|aj ?_
 obtain rfl:=O h
 exact RZ (.agg rfl rfl (.cons rfl (.cons rfl (.cons rfl (.cons rfl (.nil))))) rfl (.nil))
theorem D4{x0:Qr}{x1:Qr}{r:Qr}(h:kO x0 x1=some r):Pure Tryz.prog 35 [.agg (eQ x0),.agg (eQ x1)] (.agg (eQ r)):=by
 obtain⟨⟨aD,aB⟩,⟨cS,c8⟩⟩:=x0
 obtain⟨⟨bt,bn⟩,⟨oq,ot⟩⟩:=x1
 refine aq Tryz.func35 rfl (Nat.le_of_ble_eq_true rfl) (fun c9 M vs hvs=>?_)
 unfold kO at h
 refine sr<|bx rfl<|bx rfl<|al (cs:=[.v (.bool false),slc 1 (List.map ah []),.v (.bool false),slc 1 (List.map ah [])]) (by exact⟨SV.aa _,imp_nil,SV.aa _,imp_nil,trivial⟩) rfl<|dn<|sr<|ld rfl rfl (.cons rfl (.cons rfl (.cons rfl (.cons rfl (.nil))))) ?_
 obtain⟨⟨Sx,No,Sy⟩,jy,h⟩:=bS h
 refine cl (sW jy) ⟨rfl,trivial⟩<|mv rfl<|ex rfl rfl<|ex rfl rfl<|ex rfl rfl<|ag rfl<|ag rfl<|ag rfl<|dn<|sr<|ld rfl rfl (.cons rfl (.cons rfl (.cons rfl (.cons rfl (.nil))))) ?_
 obtain⟨⟨SA,Np,SB⟩,mW,h⟩:=bS h
 refine cl (sW mW) ⟨rfl,trivial⟩<|mv rfl<|ex rfl rfl<|ex rfl rfl<|ex rfl rfl<|ag rfl<|ag rfl<|ag rfl<|dn<|qq<|qq ?_
 refine aC h (fun j3=>AS.bL 41 [(2,.ptr 2 0),(3,.ptr 3 0),(4,.ptr 4 0),(5,.sv (.v (.int .i64 Sx))),(6,.sv (.v (.int .i64 No))),(8,.sv (.v (.int .i64 SA))),(9,.sv (.v (.int .i64 Np))),(26,.sv (.v (.bool j3)))] [(4,⟨37,[.sv (.v (.bool false)),.sv (slc 1 (List.map ah [])),.sv (.v (.bool false)),.sv (slc 1 (List.map ah []))]⟩),(3,⟨37,[.sv (.v (.bool bt)),.sv (slc 1 (List.map ah bn)),.sv (.v (.bool oq)),.sv (slc 1 (List.map ah ot))]⟩),(2,⟨37,[.sv (.v (.bool aD)),.sv (slc 1 (List.map ah aB)),.sv (.v (.bool cS)),.sv (slc 1 (List.map ah c8))]⟩)] []) (fun h=>?_) (fun KD h=>?_)
 refine af<|mv rfl<|mv rfl<|bE h fun Po kG h=>?_
 cases Sy
 obtain rfl:=O (F kG)
 exact ww<|pF rfl<|dn<|⟨false,h,wR []⟩
 refine gm rfl ?_
 obtain rfl:=O (V kG)
 exact pT rfl<|dn<|⟨SB,h,wR []⟩
 try dsimp only
 refine ae.n ?_
 cases KD
 refine fs<|sr<|ld rfl rfl (.cons rfl (.cons rfl (.cons rfl (.cons rfl (.nil)))))<|ld rfl rfl (.cons rfl (.cons rfl (.cons rfl (.cons rfl (.nil))))) ?_
 obtain⟨⟨⟨mm,mq⟩,⟨D0,D1⟩⟩,sx,h⟩:=bS (F h)
 refine cl (xT sx) ⟨rfl,rfl,rfl,trivial⟩<|so rfl rfl rfl<|dn<|aj ?_
 obtain rfl:=O h
 exact RZ (.agg rfl rfl (.cons rfl (.cons rfl (.cons rfl (.cons rfl (.nil))))) rfl (.nil))
 refine cT<|sr<|mv rfl<|mv rfl<|lE (V h) fun gx kW h=>RT.mul .none _ rfl rfl T kW<|mv rfl<|mv rfl<|lE h fun iu lY h=>RT.mul .none _ rfl rfl T lY<|lE h fun iZ mu h=>sb _ rfl rfl mu<|mv rfl<|mv rfl<|lE h fun oH qI h=>RT.mul .none _ rfl rfl T qI ?_
 obtain⟨⟨⟨rC,rD⟩,⟨Pm,Pn⟩⟩,xR,h⟩:=bS h
 refine cl (AN xR) ⟨rfl,rfl,trivial⟩<|so rfl rfl rfl<|dn<|aj<|ae.r ?_
 obtain rfl:=O h
 exact RZ (.agg rfl rfl (.cons rfl (.cons rfl (.cons rfl (.cons rfl (.nil))))) rfl (.nil))
theorem D5{x0:Qr}{x1:Qr}{r:Int}(h:ng x0 x1=some r):Pure Tryz.prog 34 [.agg (eQ x0),.agg (eQ x1)] (.v (.int .i64 r)):=by
 obtain⟨⟨aD,aB⟩,⟨cS,c8⟩⟩:=x0
 obtain⟨⟨bt,bn⟩,⟨oq,ot⟩⟩:=x1
 refine aq Tryz.func34 rfl (Nat.le_of_ble_eq_true rfl) (fun c9 M vs hvs=>?_)
 unfold ng at h
 refine sr<|bx rfl<|bx rfl<|ag rfl<|dn<|sr<|ld rfl rfl (.cons rfl (.cons rfl (.cons rfl (.cons rfl (.nil))))) ?_
 obtain⟨⟨⟨tY,tZ⟩,⟨wF,wG⟩⟩,jy,h⟩:=bS h
 refine cl (jc jy) ⟨rfl,trivial⟩<|mv rfl<|ex rfl rfl<|ex rfl rfl<|al (cs:=[.v (.bool false),slc 1 (List.map ah [])]) (by exact⟨SV.aa _,imp_nil,trivial⟩) rfl<|al (cs:=[.v (.bool false),slc 1 (List.map ah [])]) (by exact⟨SV.aa _,imp_nil,trivial⟩) rfl<|so rfl rfl rfl<|so rfl rfl rfl<|dn<|sr<|ld rfl rfl (.cons rfl (.cons rfl (.cons rfl (.cons rfl (.nil))))) ?_
 obtain⟨⟨⟨kL,kM⟩,⟨rA,rB⟩⟩,iN,h⟩:=bS h
 refine cl (jc iN) ⟨rfl,trivial⟩<|mv rfl<|ex rfl rfl<|ex rfl rfl<|al (cs:=[.v (.bool false),slc 1 (List.map ah [])]) (by exact⟨SV.aa _,imp_nil,trivial⟩) rfl<|al (cs:=[.v (.bool false),slc 1 (List.map ah [])]) (by exact⟨SV.aa _,imp_nil,trivial⟩) rfl<|so rfl rfl rfl<|so rfl rfl rfl<|dn<|qq<|qq<|ai mixed<|ld rfl rfl (.cons rfl (.cons rfl (.nil)))<|bE h fun gR lj h=>?_
 refine cl (fG lj) ⟨rfl,trivial⟩<|ld rfl rfl (.cons rfl (.cons rfl (.nil)))<|bE h fun dR lQ h=>cl (fG lQ) ⟨rfl,trivial⟩<|ag rfl<|ag rfl ?_
 refine RT.done ⟨by kernel_rfl,?_⟩
 refine ae.n<|qq ?_
 refine aC h (fun j3=>AS.bL 43 [(5,.ptr 5 0),(6,.ptr 6 0),(7,.ptr 7 0),(8,.ptr 8 0),(9,.sv (.v (.int .i64 gR))),(10,.sv (.v (.int .i64 dR))),(31,.sv (.v (.bool j3)))] [(8,⟨35,[.sv (.v (.bool rA)),.sv (slc 1 (List.map ah rB))]⟩),(7,⟨35,[.sv (.v (.bool kL)),.sv (slc 1 (List.map ah kM))]⟩),(6,⟨35,[.sv (.v (.bool wF)),.sv (slc 1 (List.map ah wG))]⟩),(5,⟨35,[.sv (.v (.bool tY)),.sv (slc 1 (List.map ah tZ))]⟩)] []) (fun h=>?_) (fun KE h=>?_)
 refine af<|mv rfl<|mv rfl<|lE h fun jr nI h=>ne _ rfl rfl (It (p:=gR) (q:=dR) nI)<|mv rfl<|bE h fun Pr kG h=>?_
 cases jr
 refine gm rfl<|lE (F kG) fun qm vc kG=>DO _ rfl rfl (oN (p:=gR) (q:=0) vc) ?_
 obtain rfl:=O kG
 exact pF rfl<|dn<|⟨qm,h,wR []⟩
 obtain rfl:=O (V kG)
 exact ww<|ww<|pT rfl<|dn<|⟨true,h,wR []⟩
 try dsimp only
 refine ae.n ?_
 cases KE
 refine fs<|qq<|ai mixed<|ld rfl rfl (.cons rfl (.cons rfl (.nil)))<|ld rfl rfl (.cons rfl (.cons rfl (.nil))) ?_
 obtain⟨⟨Pp,Pq⟩,zw,h⟩:=bS (F h)
 refine cl (jW zw) ⟨rfl,rfl,trivial⟩<|ld rfl rfl (.cons rfl (.cons rfl (.nil)))<|ld rfl rfl (.cons rfl (.cons rfl (.nil))) ?_
 obtain⟨⟨D2,D3⟩,Cm,h⟩:=bS h
 refine cl (jW Cm) ⟨rfl,rfl,trivial⟩<|bE h fun oc zx h=>cl (Cu zx) ⟨rfl,rfl,trivial⟩<|ag rfl ?_
 refine RT.done ⟨by kernel_rfl,?_⟩
 refine ae.n<|aj ?_
 obtain rfl:=O h
 exact R1 rfl
 refine cT<|sr<|mv rfl<|mv rfl<|lE (V h) fun lW qH h=>sb _ rfl rfl qH<|bE h fun pH AH h=>cl (CB AH) ⟨rfl,trivial⟩<|ag rfl<|dn<|aj<|ae.r ?_
 obtain rfl:=O h
 exact R1 rfl
theorem AO{x0:Qr}{r:Zr}(h:jY x0=some r):Pure Tryz.prog 33 [.agg (eQ x0)] (.agg (eZ r)):=by
 obtain⟨⟨aD,aB⟩,⟨cS,c8⟩⟩:=x0
 refine aq Tryz.func33 rfl (Nat.le_of_ble_eq_true rfl) (fun c9 M vs hvs=>?_)
 unfold jY at h
 refine sr<|bx rfl<|al (cs:=[.v (.bool false),slc 1 (List.map ah [])]) (by exact⟨SV.aa _,imp_nil,trivial⟩) rfl<|dn<|sr<|ld rfl rfl (.cons rfl (.cons rfl (.cons rfl (.cons rfl (.nil))))) ?_
 obtain⟨⟨⟨Ps,Pt⟩,⟨Pu,Pv⟩⟩,h8,h⟩:=bS h
 refine cl (jc h8) ⟨rfl,trivial⟩<|ex rfl rfl<|ex rfl rfl ?_
 obtain⟨⟨⟨rE,rF⟩,⟨FY,FZ⟩,SC⟩,iV,h⟩:=bS h
 refine cl (jt iV) ⟨rfl,rfl,trivial⟩<|mv rfl<|ex rfl rfl<|ex rfl rfl<|ex rfl rfl<|al (cs:=[.v (.bool false),slc 1 (List.map ah [])]) (by exact⟨SV.aa _,imp_nil,trivial⟩) rfl<|al (cs:=[.v (.bool false),slc 1 (List.map ah [])]) (by exact⟨SV.aa _,imp_nil,trivial⟩) rfl<|so rfl rfl rfl<|so rfl rfl rfl<|ag rfl<|dn<|sr<|ld rfl rfl (.cons rfl (.cons rfl (.nil))) ?_
 refine so rfl rfl rfl<|dn<|aj ?_
 obtain rfl:=O h
 exact RZ (.agg rfl rfl (.cons rfl (.cons rfl (.nil))) rfl (.nil))
end Go.Proofs.YtmiflmkdaeianaaGreat
namespace Go.Fw
open Go.RowKit
def jA:List (Nat×Row×Value)→(Nat→Value)→Nat→Value
 |[],ν,j=>ν j
 |(k,_,v)::l,ν,j=>if j=k then v else jA l ν j
theorem lp{ν:Nat→Value}:∀{l:List (Nat×Row×Value)} {j:Nat},(∀R v,(j,R,v)∉l)→jA l ν j=ν j
 |[],_,_=>rfl
 |(k,R,v)::l,j,h=>by
  have:j≠k:=fun e=>h R v (by rw[e];simp)
  rw[jA,if_neg this]
  exact lp (fun R v hm=>h R v (List.mem_cons_of_mem _ hm))
theorem gY{ν:Nat→Value}:∀{l:List (Nat×Row×Value)} {j:Nat} {R:Row} {v:Value},(l.map (·.1)).Nodup→(j,R,v)∈l→jA l ν j=v
 |(k,R',v')::l,j,R,v,hn,h=>by
  rw[List.map_cons,List.nodup_cons]at hn
  rcases List.mem_cons.1 h with e|e
  ·cases e;rw[jA,if_pos rfl]
  ·have:j≠k:=fun q=>hn.1 (List.mem_map.2 ⟨(j,R,v),e,q⟩)
   rw[jA,if_neg this];exact gY hn.2 e
def vh(olds:List Nat)(news:List (Nat×Row×Value)):List (Nat×jK):=olds.map (fun j=>(j,.dead))++news.map (fun n=>(n.1,.live n.2.1))
theorem pV:∀(l k:List (Nat×jK)) (j:Nat),cJ (l++k) j=match cJ k j with|some R=>some R|none=>cJ l j
 |[],k,j=>by cases h:cJ k j<;>simp[h,cJ]
 |(i,R)::l,k,j=>by
  rw[List.cons_append,cJ,cJ,pV l k j]
  cases h:cJ k j<;>simp
theorem uc{l:List (Nat×jK)}{j:Nat}(h:∀R,(j,R)∉l):cJ l j=none:=by
 induction l with
 |nil=>rfl
 |cons p l ih=>
  obtain⟨i,R⟩:=p
  rw[cJ,ih (fun R hm=>h R (List.mem_cons_of_mem _ hm))]
  have:j≠i:=fun e=>h R (by rw[e];simp)
  simp[this]
theorem ud{l:List (Nat×jK)}{j:Nat}{R:jK}(h:cJ l j=some R):(j,R)∈l:=by
 induction l with
 |nil=>cases h
 |cons p l ih=>
  obtain⟨i,R'⟩:=p
  rw[cJ]at h
  cases e:cJ l j with
  |some R2=>rw[e]at h;cases h;exact List.mem_cons_of_mem _ (ih e)
  |none=>
   rw[e]at h
   by_cases q:j=i
   ·subst q;simp at h;subst h;simp
   ·simp[q]at h
theorem zG{l:List (Nat×jK)}{j:Nat}{R:jK}(h:(j,R)∈l):∃R',cJ l j=some R':=by
 induction l with
 |nil=>cases h
 |cons p l ih=>
  obtain⟨i,R'⟩:=p
  rw[cJ]
  rcases List.mem_cons.1 h with e|e
  ·cases e
   cases q:cJ l j with
   |some R2=>exact⟨R2,rfl⟩
   |none=>exact⟨R,by simp⟩
  ·obtain⟨R2,h2⟩:=ih e
   exact⟨R2,by rw[h2]⟩
section swap
variable {C:Ctx}{S:AS}
theorem au.V7{E:Env}{a:Act}{w w':World}(h:au C S E a w){i:Nat}{T:TypeId}{cells cells':List AV}{us':List Value}{M':Mem}(hB:S.b i=some ⟨T,cells⟩)(olds:List Nat)(news:List (Nat×Row×Value))
  (hold:∀j∈olds,∃R,S.r j=.live R) (hnew:∀k R v,(k,R,v)∈news→S.r k=.un∧k<1000) (hnd:(news.map (·.1)).Nodup)
  (hM:E.M.le M') (hmn:∀b o x,M' b o=some x→E.M b o=some x∨w.heap.size≤b∨∃j∈olds,(E.ν j).ownBlock=some b) (hin:M'.bV w')
  (aeu:w'.heap[E.β i]? =some (.cells ⟨us'⟩ T (0,0))) (hnb:∀o,M' (E.β i) o=none) (tf:bW {E with M:=M',ν:=jA news E.ν} cells' us')
  (hcb:∀x∈cells',(∀j,¬x.mb j)∧∀j,x.mr j→∃R v,(j,R,v)∈news)
  (hrow:∀k R v,(k,R,v)∈news→(∃vs:List Value,w'.ownsRow 0 R.E R.sz v R.n vs∧SV.dw M' R.cells vs)∧∀g,v.ownBlock=some g→((∃j∈olds,(E.ν j).ownBlock=some g)∨w.heap.size≤g)∧(∀o,M' g o=none)∧g≠E.β i)
  (V8:∀k R v k' R' v' g,(k,R,v)∈news→(k',R',v')∈news→v.ownBlock=some g→v'.ownBlock=some g→k=k')
  (hos:w'.os=w.os) (lq:w'.tape=w.tape) (hout:w'.output=w.output) (hsize:w.heap.size≤w'.heap.size)
  (kD:∀k,k<w.heap.size→k≠E.β i→(∀j∈olds,(E.ν j).ownBlock≠some k)→w'.heap[k]? =w.heap[k]?):
  au C (AS.bg (vh olds news) (AS.ee [(i,⟨T,cells'⟩)] S)) {E with M:=M',ν:=jA news E.ν} a w':=by
 obtain⟨IQ,aev,Nt,Jf,IS,_⟩:=h.bx i _ hB
 have ag9:E.β i<w.heap.size:=(Array.getElem?_eq_some_iff.1 IS).1
 obtain⟨n1,n2,n3,n4,n5⟩:=eo (vh olds news) (AS.ee [(i,⟨T,cells'⟩)] S)
 have tOf:(AS.bg (vh olds news) (AS.ee [(i,⟨T,cells'⟩)] S)).t=S.t:=n2
 have v7:∀j,(AS.bg (vh olds news) (AS.ee [(i,⟨T,cells'⟩)] S)).b j=if j=i then some ⟨T,cells'⟩else S.b j:=fun j=>by
  rw[n3]
  by_cases e:j=i
  ·subst e;rw[if_pos rfl];exact AS.cq _ _ _
  ·rw[if_neg e];exact AS.aX _ _ _ _ e
 have V9:∀k R v,(k,R,v)∈news→cJ (news.map (fun n=>(n.1,jK.live n.2.1))) k=some (.live R):=fun k R v hm=>by
  obtain⟨R',nJ⟩:=zG (l:=news.map (fun n=>(n.1,jK.live n.2.1))) (j:=k) (R:=.live R) (List.mem_map.2 ⟨(k,R,v),hm,rfl⟩)
  obtain⟨⟨k2,R2,v2⟩,Jq,e⟩:=List.mem_map.1 (ud nJ)
  have e1:k2=k:=congrArg Prod.fst e
  have e2:jK.live R2=R':=congrArg Prod.snd e
  rw[e1]at Jq
  have:R2=R:=by
   have key:∀(l:List (Nat×Row×Value)),(l.map (·.1)).Nodup→(k,R2,v2)∈l→(k,R,v)∈l→R2=R:=by
    intro l
    induction l with
    |nil=>intro _ h;cases h
    |cons p l ih=>
     intro hn h1 h2
     rw[List.map_cons,List.nodup_cons]at hn
     rcases List.mem_cons.1 h1 with e1|e1<;>rcases List.mem_cons.1 h2 with e2|e2
     ·rw[←e1]at e2;cases e2;rfl
     ·exact absurd (List.mem_map.2 ⟨_,e2,by rw[←e1]⟩) hn.1
     ·exact absurd (List.mem_map.2 ⟨_,e1,by rw[←e2]⟩) hn.1
     ·exact ih hn.2 e1 e2
   exact key news hnd Jq hm
  rw[nJ,←e2,this]
 have Wa:∀k R v,(k,R,v)∈news→(AS.bg (vh olds news) (AS.ee [(i,⟨T,cells'⟩)] S)).r k=.live R:=fun k R v hm=>by
  rw[jn,vh,pV,V9 k R v hm];rfl
 have Wb:∀j,(∀R v,(j,R,v)∉news)→(AS.bg (vh olds news) (AS.ee [(i,⟨T,cells'⟩)] S)).r j=if j∈olds then .dead else S.r j:=fun j hn=>by
  have e1:cJ (news.map (fun n=>(n.1,jK.live n.2.1))) j=none:=uc (fun R hm=>by
   obtain⟨⟨k2,R2,v2⟩,Jq,e⟩:=List.mem_map.1 hm
   cases e;exact hn R2 v2 Jq)
  rw[jn,vh,pV,e1]
  by_cases ho:j∈olds
  ·rw[if_pos ho]
   obtain⟨R',nJ⟩:=zG (l:=olds.map (fun j=>(j,jK.dead))) (j:=j) (R:=.dead) (List.mem_map.2 ⟨j,ho,rfl⟩)
   obtain⟨j2,_,e⟩:=List.mem_map.1 (ud nJ)
   cases e
   rw[nJ];rfl
  ·rw[if_neg ho,uc (fun R hm=>by obtain⟨j2,Jq,e⟩:=List.mem_map.1 hm;cases e;exact ho Jq)];rfl
 have KH:∀j,S.r j≠ .un→∀R v,(j,R,v)∉news:=fun j hj R v hm=>hj (hnew j R v hm).1
 have rne:∀j,S.r j≠ .un→(AS.bg (vh olds news) (AS.ee [(i,⟨T,cells'⟩)] S)).r j≠ .un:=fun j hj=>by
  rw[Wb j (KH j hj)]
  split
  ·simp
  ·exact hj
 have wH:∀j∈olds,∀g,(E.ν j).ownBlock=some g→(C.w0.heap.size≤g∨C.qO g)∧(∀o,E.M g o=none)∧¬E.O g∧(∀n B,S.b n=some B→E.β n≠g)∧g<w.heap.size∧∃c e,w.heap[g]? =some (Obj.cells c e (0,0)):=fun j hj g hg=>by
  obtain⟨R,hR⟩:=hold j hj
  obtain⟨⟨us,q1,_⟩,q2⟩:=h.rx j R hR
  obtain⟨q3,q4,q5,q6⟩:=q2 g hg
  refine⟨q3,q4,q5,q6,iv h hR hg,?_⟩
  rcases q1.2 with⟨q7,_⟩|⟨g',cap,cur,q7,_,q8,_⟩
  ·rw[q7]at hg;cases hg
  ·rw[q7]at hg;cases hg;exact⟨_,_,q8⟩
 have keep:∀x:AV,(∀j,x.mr j→S.r j≠ .un)→∀v,x.holds E v→x.holds {E with M:=M',ν:=jA news E.ν} v:=fun x hx v hv=>
  AV.bO (E:=E) (E':={E with M:=M',ν:=jA news E.ν}) hM (fun _ _=>rfl) (fun j hj=>lp (KH j (hx j hj))) hv
 have SG:∀b,b<w.heap.size→(∀o,E.M b o=none)→(∀j∈olds,(E.ν j).ownBlock≠some b)→∀o,M' b o=none:=fun b h1 h2 h3 o=>by
  cases e:M' b o with
  |none=>rfl
  |some v=>
   rcases hmn b o v e with q|q|⟨j,q1,q2⟩
   ·rw[h2 o]at q;cases q
   ·omega
   ·exact absurd q2 (h3 j q1)
 have live:∀j R,(AS.bg (vh olds news) (AS.ee [(i,⟨T,cells'⟩)] S)).r j=.live R→(∃v,(j,R,v)∈news)∨((∀R v,(j,R,v)∉news)∧j∉olds∧S.r j=.live R):=fun j R hj=>by
  by_cases hn:∃R v,(j,R,v)∈news
  ·obtain⟨R',v,hm⟩:=hn
   rw[Wa j R' v hm]at hj;cases hj;exact .inl ⟨v,hm⟩
  ·have hn:∀R v,(j,R,v)∉news:=fun R v hm=>hn ⟨R,v,hm⟩
   rw[Wb j hn]at hj
   by_cases ho:j∈olds
   ·rw[if_pos ho]at hj;cases hj
   ·rw[if_neg ho]at hj;exact .inr ⟨hn,ho,hj⟩
 have Wc:∀j R,S.r j=.live R→j∉olds→∀g,(E.ν j).ownBlock=some g→∀j'∈olds,(E.ν j').ownBlock≠some g:=fun j R hR ho g hg j' hj' e=>by
  obtain⟨R',nJ⟩:=hold j' hj'
  have:=h.dB j j' R R' hR nJ g hg e
  subst this;exact ho hj'
 exact{
  wf:=by
   refine⟨fun s j hj=>?_,fun s j hj=>?_,fun j B dW x hx m hm=>?_,fun j B dW x hx m hm=>?_⟩
   ·rw[tOf]at hj
    obtain⟨B,dW⟩:=h.wf.tb s j hj
    rw[v7]
    by_cases e:j=i
    ·exact⟨_,if_pos e⟩
    ·exact⟨B,by rw[if_neg e];exact dW⟩
   ·rw[tOf]at hj
    exact rne j (h.wf.tr s j hj)
   ·rw[v7]at dW⊢
    by_cases e:j=i
    ·rw[if_pos e]at dW;cases dW;exact absurd hm ((hcb x hx).1 m)
    ·rw[if_neg e]at dW
     obtain⟨B2,hB2⟩:=h.wf.bb j B dW x hx m hm
     by_cases e2:m=i
     ·exact⟨_,if_pos e2⟩
     ·exact⟨B2,by rw[if_neg e2];exact hB2⟩
   ·rw[v7]at dW
    by_cases e:j=i
    ·rw[if_pos e]at dW;cases dW
     obtain⟨R,v,Jq⟩:=(hcb x hx).2 m hm
     rw[Wa m R v Jq];simp
    ·rw[if_neg e]at dW;exact rne m (h.wf.br j B dW x hx m hm)
  marks:=by
   obtain⟨ds,d1,d2,d3⟩:=h.marks
   refine⟨ds,d1,d2,fun r hr=>?_⟩
   obtain⟨p1,p2,p3⟩:=d3 r hr
   refine⟨p1,p2,?_⟩
   rw[kD r (Array.getElem?_eq_some_iff.1 p3).1 (fun e=>by rw[e,IS]at p3;cases p3) (fun j hj e=>by
    obtain⟨_,_,_,_,_,c,e2,q⟩:=wH j hj r e
    rw[q]at p3;cases p3)]
   exact p3
  size:=by rw[n1];exact h.size
  os:=hos.trans h.os
  tape:=lq.trans h.tape
  output:=hout.trans h.output
  grown:=Nat.le_trans h.grown hsize
  frame:=fun k hk hown=>by
   rw[kD k (Nat.lt_of_lt_of_le hk h.grown) (fun e=>by
    rcases IQ with q|q
    ·omega
    ·exact hown (C.Ap _ (by rw[e];exact q))) (fun j hj e=>by
    rcases(wH j hj k e).1 with q|q
    ·omega
    ·exact hown (C.Ap _ q))]
   exact h.frame k hk hown
  m0:=Mem.le_trans h.m0 hM
  cX:=fun b o v e=>by
   rcases hmn b o v e with q|q|⟨j,q1,q2⟩
   ·exact h.cX b o v q
   ·exact .inr (.inl (Nat.le_trans h.grown q))
   ·rcases(wH j q1 b q2).1 with q|q
    ·exact .inr (.inl q)
    ·exact .inr (.inr (C.Ap _ q))
  bV:=hin
  tm:=fun s=>by rw[tOf];exact keep _ (h.wf.tr s) _ (h.tm s)
  bx:=fun j B dW=>by
   rw[v7]at dW
   by_cases e:j=i
   ·rw[if_pos e]at dW;cases dW;subst e
    exact⟨IQ,hnb,Nt,us',aeu,tf⟩
   ·rw[if_neg e]at dW
    obtain⟨p1,p2,p3,vs,p4,p5⟩:=h.bx j B dW
    have hlt:=(Array.getElem?_eq_some_iff.1 p4).1
    have hno:∀j'∈olds,(E.ν j').ownBlock≠some (E.β j):=fun j' hj' q=>(wH j' hj' _ q).2.2.2.1 j B dW rfl
    refine⟨p1,SG _ hlt p2 hno,p3,vs,?_,p5.imp (fun x hx v hv=>keep x (h.wf.br j B dW x hx) v hv)⟩
    show w'.heap[E.β j]? =_
    rw[kD _ hlt (fun q=>e (h.inj j i B _ dW hB q)) hno];exact p4
  inj:=fun j j' B B' h1 h2 e=>by
   have key:∀n B,(AS.bg (vh olds news) (AS.ee [(i,⟨T,cells'⟩)] S)).b n=some B→∃B',S.b n=some B':=fun n B hn=>by
    rw[v7]at hn
    by_cases e:n=i
    ·subst e;exact⟨_,hB⟩
    ·rw[if_neg e]at hn;exact⟨B,hn⟩
   obtain⟨B1,p1⟩:=key j B h1
   obtain⟨B2,p2⟩:=key j' B' h2
   exact h.inj j j' B1 B2 p1 p2 e
  rx:=fun j R hj=>by
   have boxes:∀g,(∀n B,S.b n=some B→E.β n≠g)→∀n B,(AS.bg (vh olds news) (AS.ee [(i,⟨T,cells'⟩)] S)).b n=some B→E.β n≠g:=fun g hg n B hn=>by
    rw[v7]at hn
    by_cases e:n=i
    ·subst e;exact hg _ _ hB
    ·rw[if_neg e]at hn;exact hg n B hn
   rcases live j R hj with⟨v,hm⟩|⟨hn,ho,hR⟩
   ·rw[show({E with M:=M',ν:=jA news E.ν}:Env).ν j=v from gY hnd hm]
    obtain⟨p1,p2⟩:=hrow j R v hm
    refine⟨p1,fun g hg=>?_⟩
    obtain⟨p3,p4,p5⟩:=p2 g hg
    rcases p3 with⟨j',q1,q2⟩|p3
    ·obtain⟨o1,o2,o3,o4,_⟩:=wH j' q1 g q2
     exact⟨o1,p4,o3,boxes g o4⟩
    ·refine⟨.inl (Nat.le_trans h.grown p3),p4,fun q=>?_,boxes g (fun n B hn q=>?_)⟩
     ·have:=(h.iT g q).1;omega
     ·obtain⟨_,_,_,vs,q4,_⟩:=h.bx n B hn
      have:=(Array.getElem?_eq_some_iff.1 q4).1
      omega
   ·rw[show({E with M:=M',ν:=jA news E.ν}:Env).ν j=E.ν j from lp hn]
    obtain⟨⟨us,p1,p2⟩,p3⟩:=h.rx j R hR
    refine⟨⟨us,cc p1 fun g hg=>kD g (iv h hR hg) (fun e=>(p3 g hg).2.2.2 i _ hB e.symm) (Wc j R hR ho g hg),p2.mono hM⟩,fun g hg=>?_⟩
    obtain⟨p4,p5,p6,p7⟩:=p3 g hg
    exact⟨p4,SG g (iv h hR hg) p5 (Wc j R hR ho g hg),p6,boxes g p7⟩
  dB:=fun j j' R R' h1 h2 g e1 e2=>by
   have mixed:∀j R v j' R' g,(j,R,v)∈news→S.r j'=.live R'→j'∉olds→v.ownBlock=some g→(E.ν j').ownBlock=some g→False:=fun j R v j' R' g hm nJ ho e1 e2=>by
    rcases((hrow j R v hm).2 g e1).1 with⟨j2,q1,q2⟩|q
    ·exact Wc j' R' nJ ho g e2 j2 q1 q2
    ·have:=iv h nJ e2;omega
   rcases live j R h1 with⟨v,hm⟩|⟨hn,ho,hR⟩<;>rcases live j' R' h2 with⟨v',hm'⟩|⟨hn',ho',nJ⟩
   ·rw[show({E with M:=M',ν:=jA news E.ν}:Env).ν j=v from gY hnd hm]at e1
    rw[show({E with M:=M',ν:=jA news E.ν}:Env).ν j'=v' from gY hnd hm']at e2
    exact V8 j R v j' R' v' g hm hm' e1 e2
   ·rw[show({E with M:=M',ν:=jA news E.ν}:Env).ν j=v from gY hnd hm]at e1
    rw[show({E with M:=M',ν:=jA news E.ν}:Env).ν j'=E.ν j' from lp hn']at e2
    exact(mixed j R v j' R' g hm nJ ho' e1 e2).elim
   ·rw[show({E with M:=M',ν:=jA news E.ν}:Env).ν j=E.ν j from lp hn]at e1
    rw[show({E with M:=M',ν:=jA news E.ν}:Env).ν j'=v' from gY hnd hm']at e2
    exact(mixed j' R' v' j R g hm' hR ho e2 e1).elim
   ·rw[show({E with M:=M',ν:=jA news E.ν}:Env).ν j=E.ν j from lp hn]at e1
    rw[show({E with M:=M',ν:=jA news E.ν}:Env).ν j'=E.ν j' from lp hn']at e2
    exact h.dB j j' R R' hR nJ g e1 e2
  fK:=h.fK
  cI:=fun k v e=>by
   rw[show({E with M:=M',ν:=jA news E.ν}:Env).ν k=E.ν k from lp (fun R v hm=>by have:=(hnew k R v hm).2;have:=C.GA k _ e;omega)]
   exact h.cI k v e
  iT:=fun b hb=>by
   obtain⟨p1,p2,p3⟩:=h.iT b hb
   exact⟨Nat.lt_of_lt_of_le p1 hsize,SG b p1 p2 (fun j hj e=>(wH j hj b e).2.2.1 hb),p3⟩
  jj:=by
   have hj:=C.jf S.g S.go E.O E.M M' w w' h.jj hM hin (fun b o v e=>by
    rcases hmn b o v e with q|q|⟨j,q1,q2⟩
    ·exact .inl q
    ·exact .inr ⟨.inl (Nat.le_trans h.grown q),fun q2=>by have:=(h.iT b q2).1;omega⟩
    ·obtain⟨o1,_,o3,_⟩:=wH j q1 b q2
     exact .inr ⟨o1,o3⟩) (fun b hb=>by
    have hlt:b<w.heap.size∨w.heap.size≤b:=Nat.lt_or_ge _ _
    have hb':b<w.heap.size:=by
     rcases hb with⟨q,_⟩|q
     ·exact Nat.lt_of_lt_of_le q h.grown
     ·exact(h.iT b q).1
    refine kD b hb' (fun e=>?_) (fun j hj e=>?_)
    ·subst e
     rcases hb with⟨q1,q2⟩|q
     ·rcases IQ with p|p
      ·omega
      ·exact q2 p
     ·exact Nt q
    ·obtain⟨o1,_,o3,_⟩:=wH j hj b e
     rcases hb with⟨q1,q2⟩|q
     ·rcases o1 with p|p
      ·omega
      ·exact q2 p
     ·exact o3 q) hos lq hout hsize
   rw[n4,n5];exact hj}
end swap
end Go.Fw
namespace Go.Fw
open Go.RowKit
inductive Oc where
 |s (x:SV)
 |r (R:Row)
def rI(M:Mem)(w:World):List Oc→List Value→Prop
 |[],[]=>True
 |.s x::l,v::vs=>x.h M v∧rI M w l vs
 |.r R::l,v::vs=>(∃us:List Value,w.ownsRow 0 R.E R.sz v R.n us∧SV.dw M R.cells us)∧rI M w l vs
 |_,_=>False
def rowsOf:List Oc→List Row
 |[]=>[]
 |.s _::l=>rowsOf l
 |.r R::l=>R::rowsOf l
def bk:List Oc→List Value→List (Row×Value)
 |.s _::l,_::vs=>bk l vs
 |.r R::l,v::vs=>(R,v)::bk l vs
 |_,_=>[]
def fL(c:List Oc)(us:List Value)(g:Nat):Prop:=∃p∈bk c us,p.2.ownBlock=some g
def bP:List Nat→List Oc→List AV
 |ids,.s x::l=>.sv x::bP ids l
 |i::ids,.r _::l=>.row i::bP ids l
 |[],.r _::l=>.sv .any::bP [] l
 |_,[]=>[]
def G2(l:List (Row×Value)):Prop:=l.Pairwise fun p q=>∀g,p.2.ownBlock=some g→q.2.ownBlock≠some g
structure qA (M:Mem) (w:World) (β:Nat) (T:TypeId) (c:List Oc) (us:List Value):Prop where
 hp:w.heap[β]? =some (.cells ⟨us⟩ T (0,0))
 al:rI M w c us
 nb:∀o,M β o=none
 nr:∀g,fL c us g→g≠β∧∀o,M g o=none
 ap:G2 (bk c us)
theorem gA{M:Mem}{w:World}:∀{c:List Oc} {us:List Value},rI M w c us→(bk c us).map (·.1)=rowsOf c
 |[],[],_=>rfl
 |.s _::l,_::vs,h=>gA (c:=l) (us:=vs) h.2
 |.r R::l,v::vs,h=>congrArg (R:: ·) (gA (c:=l) (us:=vs) h.2)
 |[],_::_,h=>h.elim
 |.s _::_,[],h=>h.elim
 |.r _::_,[],h=>h.elim
theorem kP{M:Mem}{w:World}:∀{c:List Oc} {us:List Value},rI M w c us→∀p∈bk c us,∃vs:List Value,w.ownsRow 0 p.1.E p.1.sz p.2 p.1.n vs∧SV.dw M p.1.cells vs
 |[],[],_,p,hp=>by cases hp
 |.s _::l,_::vs,h,p,hp=>kP (c:=l) (us:=vs) h.2 p hp
 |.r R::l,v::vs,h,p,hp=>by
  rcases List.mem_cons.1 hp with rfl|hp
  ·exact h.1
  ·exact kP (c:=l) (us:=vs) h.2 p hp
 |[],_::_,h,_,_=>h.elim
 |.s _::_,[],h,_,_=>h.elim
 |.r _::_,[],h,_,_=>h.elim
theorem ir{α β:Type}:∀{l:List α} {k:List β} {a:α} {b:β},(a,b)∈l.zip k→a∈l∧b∈k
 |_::_,_::_,_,_,h=>by
  rw[List.zip_cons_cons]at h
  rcases List.mem_cons.1 h with e|e
  ·cases e;simp
  ·have:=ir e;exact⟨List.mem_cons_of_mem _ this.1,List.mem_cons_of_mem _ this.2⟩
 |[],_,_,_,h=>by simp at h
 |_::_,[],_,_,h=>by simp at h
theorem yl{α β:Type}:∀{l:List α} {k:List β},l.length=k.length→(l.zip k).map (·.1)=l
 |[],[],_=>rfl
 |_::l,_::k,h=>by rw[List.zip_cons_cons,List.map_cons,yl (by simpa using h)]
 |[],_::_,h=>by simp at h
 |_::_,[],h=>by simp at h
theorem wI:∀{ids:List Nat} {l:List (Row×Value)},ids.Nodup→G2 l→∀k R v k' R' v' g,(k,R,v)∈ids.zip l→(k',R',v')∈ids.zip l→v.ownBlock=some g→v'.ownBlock=some g→k=k'
 |i::ids,p::l,hn,ha,k,R,v,k',R',v',g,h1,h2,e1,e2=>by
  rw[List.zip_cons_cons]at h1 h2
  rw[List.nodup_cons]at hn
  obtain⟨ha1,ha2⟩:=List.pairwise_cons.1 ha
  rcases List.mem_cons.1 h1 with q1|q1<;>rcases List.mem_cons.1 h2 with q2|q2
  ·cases q1;cases q2;rfl
  ·cases q1;exact absurd e2 (ha1 (R',v') (ir q2).2 g e1)
  ·cases q2;exact absurd e1 (ha1 (R,v) (ir q1).2 g e2)
  ·exact wI hn.2 ha2 k R v k' R' v' g q1 q2 e1 e2
 |[],_,_,_,_,_,_,_,_,_,_,h1,_,_,_=>by simp at h1
 |_::_,[],_,_,_,_,_,_,_,_,_,h1,_,_,_=>by simp at h1
theorem nh{E:Env}{w:World}:∀{ids:List Nat} {c:List Oc} {us:List Value},ids.length=(rowsOf c).length→rI E.M w c us→(∀i p,(i,p)∈ids.zip (bk c us)→E.ν i=p.2)→bW E (bP ids c) us
 |ids,[],[],_,_,_=>by cases ids<;>exact trivial
 |ids,.s x::l,v::vs,hl,h,hv=>by
  have ih:=nh (E:=E) (w:=w) (ids:=ids) (c:=l) (us:=vs) hl h.2 hv
  cases ids<;>exact⟨h.1,ih⟩
 |i::ids,.r R::l,v::vs,hl,h,hv=>by
  refine⟨(hv i (R,v) (by rw[bk,List.zip_cons_cons];simp)).symm,nh (w:=w) (ids:=ids) (c:=l) (us:=vs) (by simpa[rowsOf]using hl) h.2 (fun j p hm=>hv j p ?_)⟩
  rw[bk,List.zip_cons_cons];exact List.mem_cons_of_mem _ hm
 |[],.r R::l,_::_,hl,_,_=>by simp[rowsOf]at hl
 |_,[],_::_,_,h,_=>h.elim
 |_,.s _::_,[],_,h,_=>h.elim
 |_,.r _::_,[],_,h,_=>h.elim
theorem ni:∀{ids:List Nat} {c:List Oc} (x:AV),x∈bP ids c→(∀j,¬x.mb j)∧∀j,x.mr j→j∈ids
 |ids,[],x,h=>by cases ids<;>simp[bP]at h
 |ids,.s y::l,x,h=>by
  have h':x∈AV.sv y::bP ids l:=by cases ids<;>exact h
  rcases List.mem_cons.1 h' with rfl|h'
  ·exact⟨fun j e=>e,fun j e=>e.elim⟩
  ·exact ni x h'
 |i::ids,.r _::l,x,h=>by
  rcases List.mem_cons.1 (show x∈AV.row i::bP ids l from h)with rfl|h'
  ·exact⟨fun j e=>e,fun j e=>by cases e;simp⟩
  ·obtain⟨h1,h2⟩:=ni x h'
   exact⟨h1,fun j e=>List.mem_cons_of_mem _ (h2 j e)⟩
 |[],.r _::l,x,h=>by
  rcases List.mem_cons.1 (show x∈AV.sv .any::bP [] l from h)with rfl|h'
  ·exact⟨fun j e=>e,fun j e=>e.elim⟩
  ·exact ni x h'
def Lv(S:AS):List Nat→List Row→Prop
 |[],[]=>True
 |j::js,R::Rs=>S.r j=.live R∧Lv S js Rs
 |_,_=>False
theorem Lv.len{S:AS}:∀{js:List Nat} {Rs:List Row},Lv S js Rs→js.length=Rs.length
 |[],[],_=>rfl
 |_::_,_::_,h=>congrArg (· +1) (Lv.len h.2)
 |[],_::_,h=>h.elim
 |_::_,[],h=>h.elim
theorem Lv.mem{S:AS}:∀{js:List Nat} {Rs:List Row},Lv S js Rs→∀j∈js,∃R,S.r j=.live R
 |j::js,R::Rs,h,k,hk=>by
  rcases List.mem_cons.1 hk with rfl|hk
  ·exact⟨R,h.1⟩
  ·exact Lv.mem h.2 k hk
 |[],_,_,k,hk=>by cases hk
 |_::_,[],h,_,_=>h.elim
theorem rJ{C:Ctx}{S:AS}{E:Env}{a:Act}{w:World}(h:au C S E a w):∀{js:List Nat} {c:List Oc} {us:List Value},Lv S js (rowsOf c)→bW E (bP js c) us→rI E.M w c us∧bk c us=(rowsOf c).zip (js.map E.ν)
 |[],[],[],_,_=>⟨trivial,rfl⟩
 |js,.s x::l,v::vs,hL,hv=>by
  have sG:bW E (AV.sv x::bP js l) (v::vs):=by cases js<;>exact hv
  obtain⟨h1,h2⟩:=rJ h (js:=js) (c:=l) (us:=vs) hL sG.2
  exact⟨⟨sG.1,h1⟩,h2⟩
 |j::js,.r R::l,v::vs,hL,hv=>by
  have hL:S.r j=.live R∧Lv S js (rowsOf l):=hL
  have sG:bW E (AV.row j::bP js l) (v::vs):=hv
  obtain⟨h1,h2⟩:=rJ h (js:=js) (c:=l) (us:=vs) hL.2 sG.2
  have e:v=E.ν j:=sG.1
  obtain⟨q1,_⟩:=h.rx j R hL.1
  rw[←e]at q1
  refine⟨⟨q1,h1⟩,?_⟩
  rw[bk,h2,e];rfl
 |[],.r _::_,_,hL,_=>hL.elim
 |_::_,[],_,hL,_=>hL.elim
 |[],[],_::_,_,hv=>by simp[bP]at hv;exact hv.elim
 |js,.s x::l,[],_,hv=>by
  have sG:bW E (AV.sv x::bP js l) []:=by cases js<;>exact hv
  exact sG.elim
 |_::_,.r _::_,[],_,hv=>hv.elim
theorem rK{α β:Type}:∀{l:List α} {k:List β} {b:β},l.length=k.length→b∈k→∃a,(a,b)∈l.zip k
 |a::l,c::k,b,h,hb=>by
  rcases List.mem_cons.1 hb with rfl|hb
  ·exact⟨a,by rw[List.zip_cons_cons];simp⟩
  ·obtain⟨a',h'⟩:=rK (l:=l) (k:=k) (by simpa using h) hb
   exact⟨a',by rw[List.zip_cons_cons];exact List.mem_cons_of_mem _ h'⟩
 |[],[],_,_,hb=>by cases hb
 |[],_::_,_,h,_=>by simp at h
theorem oS{C:Ctx}{S:AS}{E:Env}{a:Act}{w:World}(h:au C S E a w){i:Nat}{T:TypeId}{js:List Nat}{c:List Oc}(hB:S.b i=some ⟨T,bP js c⟩)(hL:Lv S js (rowsOf c))(hn:js.Nodup):
  ∃us,qA E.M w (E.β i) T c us∧(∀g,fL c us g↔∃j∈js,(E.ν j).ownBlock=some g):=by
 obtain⟨_,q1,_,us,q2,q3⟩:=h.bx i _ hB
 obtain⟨p1,p2⟩:=rJ h hL q3
 have hlen:=hL.len
 have B5:∀g,fL c us g↔∃j∈js,(E.ν j).ownBlock=some g:=fun g=>by
  unfold fL
  rw[p2]
  constructor
  ·rintro⟨⟨R,v⟩,hm,hg⟩
   obtain⟨j,hj,rfl⟩:=List.mem_map.1 (ir hm).2
   exact⟨j,hj,hg⟩
  ·rintro⟨j,hj,hg⟩
   obtain⟨R,hR⟩:=rK (l:=rowsOf c) (k:=js.map E.ν) (by simp[hlen]) (List.mem_map.2 ⟨j,hj,rfl⟩)
   exact⟨(R,E.ν j),hR,hg⟩
 refine⟨us,⟨q2,p1,q1,fun g hg=>?_,?_⟩,B5⟩
 ·obtain⟨j,hj,xK⟩:=(B5 g).1 hg
  obtain⟨R,hR⟩:=hL.mem j hj
  obtain⟨_,q4⟩:=h.rx j R hR
  obtain⟨_,q5,_,q6⟩:=q4 g xK
  exact⟨fun e=>q6 i _ hB e.symm,q5⟩
 ·rw[p2]
  have key:∀(js:List Nat) (Rs:List Row),Lv S js Rs→js.Nodup→G2 (Rs.zip (js.map E.ν)):=by
   intro js
   induction js with
   |nil=>intro Rs hL _;cases Rs with|nil=>exact List.Pairwise.nil|cons _ _=>exact hL.elim
   |cons j js ih=>
    intro Rs hL hn
    cases Rs with
    |nil=>exact hL.elim
    |cons R Rs=>
     rw[List.nodup_cons]at hn
     rw[List.map_cons,List.zip_cons_cons]
     refine List.pairwise_cons.2 ⟨fun p hp g e1 e2=>?_,ih Rs hL.2 hn.2⟩
     obtain⟨R',v'⟩:=p
     obtain⟨j',hj',rfl⟩:=List.mem_map.1 (ir hp).2
     obtain⟨R2,hR2⟩:=hL.2.mem j' hj'
     have:=h.dB j j' R R2 hL.1 hR2 g e1 e2
     subst this;exact hn.1 hj'
  exact key js _ hL hn
def rL(M:Mem)(β:Nat):Env:=⟨fun _=>β,fun _=>.nilIface,fun _=>False,M⟩
def Fc.oy:Fc→Bool
 |.val _=>true
 |.box i=>Nat.beq i 1000
 |.row _=>false
def AV.oy:AV→Bool
 |.sv _=>true
 |.ptr i _=>Nat.beq i 1000
 |.cmp _ js=>js.all Fc.oy
 |_=>false
def Fc.Pw(i:Nat):Fc→Fc
 |.box _=>.box i
 |c=>c
def AV.Pw(i:Nat):AV→AV
 |.ptr _ o=>.ptr i o
 |.cmp t js=>.cmp t (js.map (Fc.Pw i))
 |x=>x
theorem IT{E:Env}{i:Nat}{x:AV}{v:Value}(hx:x.oy=true)(h:(x.Pw i).holds E v):x.holds (rL E.M (E.β i)) v:=by
 cases x with
 |sv s=>exact h
 |ptr k o=>exact h
 |cmp t js=>
  obtain⟨vs,rfl,h⟩:=h
  refine⟨vs,rfl,?_⟩
  have key:∀(l:List Fc) (vs:List Value),(l.all Fc.oy)=true→uF E (l.map (Fc.Pw i)) vs→uF (rL E.M (E.β i)) l vs:=by
   intro l
   induction l with
   |nil=>intro vs _ h;cases vs with|nil=>trivial|cons _ _=>exact h.elim
   |cons c l ih=>
    intro vs ho h
    rw[List.all_cons,Bool.and_eq_true]at ho
    cases vs with
    |nil=>exact h.elim
    |cons u vs=>
     refine⟨?_,ih vs ho.2 h.2⟩
     cases c with
     |val s=>exact h.1
     |box k=>exact h.1
     |row k=>exact(Bool.false_ne_true ho.1).elim
  exact key js vs hx h
 |_=>exact(Bool.false_ne_true hx).elim
theorem ym{E:Env}{i:Nat}:∀{l:List AV} {vs:List Value},(l.all AV.oy)=true→bW E (l.map (AV.Pw i)) vs→bW (rL E.M (E.β i)) l vs
 |[],[],_,_=>trivial
 |x::l,v::vs,h,hv=>by
  rw[List.all_cons,Bool.and_eq_true]at h
  exact⟨IT h.1 hv.1,ym h.2 hv.2⟩
 |[],_::_,_,h=>h.elim
 |_::_,[],_,h=>h.elim
def Nu(P:Program)(f:FuncId)(args:List AV)(T:TypeId)(c0:List Oc)(res:SV)(c1:List Oc):Prop:=
 ∀(M:Mem) (w:World) (β:Nat) (vs us:List Value),M.bV w→qA M w β T c0 us→bW (rL M β) args vs→
  Calls P f ⟨vs⟩ w fun e w'=>∃v M' us',e=.returned v∧M.le M'∧(∀b o x,M' b o=some x→M b o=some x∨w.heap.size≤b∨fL c0 us b)∧M'.bV w'∧res.h M' v∧
   qA M' w' β T c1 us'∧(∀g,fL c1 us' g→fL c0 us g∨w.heap.size≤g)∧w'.os=w.os∧w'.tape=w.tape∧w'.output=w.output∧w.heap.size≤w'.heap.size∧
   ∀k,k<w.heap.size→k≠β→¬fL c0 us k→w'.heap[k]? =w.heap[k]?
def SH(w:World)(M:Mem)(β:Nat)(c:List Oc)(us:List Value):Ctx:={w0:=w,M0:=M,own:=fun k=>k=β∨fL c us k,qO:=fun k=>k=β∨fL c us k,fK:=fun i=>bif Nat.beq i 1000 then some β else none,cI:=fun _=>none,ro:=none,J:=fun _ _ _ _ _=>True,Ap:=fun _ h=>h,GA:=fun _ _ h=>(by cases h),jf:=fun _ _ _ _ _ _ _ _ _ _ _ _ _ _ _ _=>trivial}
theorem vi{M:Mem}{w:World}:∀{ids:List Nat} {c:List Oc} {us:List Value},rI M w c us→∀{i:Nat} {R:Row},(i,R)∈ids.zip (rowsOf c)→∃v,(i,R,v)∈ids.zip (bk c us)
 |ids,.s x::l,v::vs,h,i,R,hm=>by
  have hm':(i,R)∈ids.zip (rowsOf l):=hm
  exact vi (c:=l) (us:=vs) h.2 hm'
 |k::ids,.r R'::l,v::vs,h,i,R,hm=>by
  have hm':(i,R)∈(k,R')::ids.zip (rowsOf l):=hm
  rw[bk,List.zip_cons_cons]
  rcases List.mem_cons.1 hm' with e|e
  ·cases e;exact⟨v,by simp⟩
  ·obtain⟨v',h'⟩:=vi (ids:=ids) (c:=l) (us:=vs) h.2 e
   exact⟨v',List.mem_cons_of_mem _ h'⟩
 |[],.r _::_,_::_,_,_,_,hm=>by simp at hm
 |_,[],[],_,_,_,hm=>by simp[rowsOf]at hm
 |_,[],_::_,h,_,_,_=>h.elim
 |_,.s _::_,[],h,_,_,_=>h.elim
 |_,.r _::_,[],h,_,_,_=>h.elim
theorem G3{n:Nat}{args:List AV}{T:TypeId}{c:List Oc}{M:Mem}{w:World}{β:Nat}{vs us:List Value}(ids:List Nat)(hM:M.bV w)(ho:qA M w β T c us)(hv:bW (rL M β) args vs)(Jj:args.all AV.oy=true)(hn:args.length≤n)(BW:ids.Nodup)(Um:ids.length=(rowsOf c).length):
  au (SH w M β c us) (AS.Aw n args [(1000,⟨T,bP ids c⟩)] (ids.zip (rowsOf c))) ⟨fun _=>β,jA (ids.zip (bk c us)) (fun _=>.nilIface),fun _=>False,M⟩ {tmps:=⟨vs⟩++Array.replicate (n-(⟨vs⟩:Array Value).size) undef,defers:=[]} w:=by
 have hl:=hv.length
 have Uo:(bk c us).length=(rowsOf c).length:=by rw[←gA ho.al,List.length_map]
 have hnd:((ids.zip (bk c us)).map (·.1)).Nodup:=by rw[yl (by omega)];exact BW
 have Px:∀s,(pL args s).oy=true:=fun s=>by
  rcases uP (l:=args) (k:=s)with e|e
  ·rw[e];rfl
  ·exact List.all_eq_true.1 Jj _ e
 have oyB:∀x:AV,x.oy=true→(∀j,x.mb j→j=1000)∧∀j,¬x.mr j:=fun x hx=>by
  cases x with
  |sv s=>exact⟨fun j e=>e.elim,fun j e=>e⟩
  |ptr k o=>exact⟨fun j e=>by cases e;exact Nat.eq_of_beq_eq_true hx,fun j e=>e⟩
  |cmp t js=>
   refine⟨fun j e=>?_,fun j e=>?_⟩
   ·exact Nat.eq_of_beq_eq_true (List.all_eq_true.1 hx _ e)
   ·exact Bool.false_ne_true (List.all_eq_true.1 hx _ e)
  |_=>exact(Bool.false_ne_true hx).elim
 have hall:bW ⟨fun _=>β,jA (ids.zip (bk c us)) (fun _=>.nilIface),fun _=>False,M⟩ args vs:=by
  refine hv.imp (fun x hx v hh=>?_)
  exact AV.bO (E:=rL M β) (E':=⟨fun _=>β,jA (ids.zip (bk c us)) (fun _=>.nilIface),fun _=>False,M⟩) (Mem.le_refl _) (fun _ _=>rfl) (fun j hj=>absurd hj ((oyB x (List.all_eq_true.1 Jj x hx)).2 j)) hh
 have live:∀j R,(AS.Aw n args [(1000,⟨T,bP ids c⟩)] (ids.zip (rowsOf c))).r j=.live R→(j,R)∈ids.zip (rowsOf c):=fun j R hj=>by
  have hj:(match Aq (ids.zip (rowsOf c)) j with|some R=>jK.live R|none=>.un)=.live R:=hj
  cases e:Aq (ids.zip (rowsOf c)) j with
  |none=>rw[e]at hj;cases hj
  |some R'=>rw[e]at hj;cases hj;exact ya e
 have isLive:∀j∈ids,(AS.Aw n args [(1000,⟨T,bP ids c⟩)] (ids.zip (rowsOf c))).r j≠ .un:=fun j hj=>by
  have key:∀(ids:List Nat) (Rs:List Row),ids.length=Rs.length→j∈ids→∃R,Aq (ids.zip Rs) j=some R:=by
   intro ids
   induction ids with
   |nil=>intro _ _ h;cases h
   |cons k ids ih=>
    intro Rs hl hm
    cases Rs with
    |nil=>simp at hl
    |cons R Rs=>
     rw[List.zip_cons_cons,Aq]
     by_cases e:j=k
     ·subst e;exact⟨R,by simp⟩
     ·rw[bD e]
      rcases List.mem_cons.1 hm with q|q
      ·exact absurd q e
      ·exact ih Rs (by simpa using hl) q
  obtain⟨R,hR⟩:=key ids _ Um hj
  show(match Aq (ids.zip (rowsOf c)) j with|some R=>jK.live R|none=>.un)≠ .un
  rw[hR];simp
 have box:∀j B,(AS.Aw n args [(1000,⟨T,bP ids c⟩)] (ids.zip (rowsOf c))).b j=some B→j=1000∧B=⟨T,bP ids c⟩:=fun j B h=>by
  have:=jP h
  simpa using this
 have JJ:(AS.Aw n args [(1000,⟨T,bP ids c⟩)] (ids.zip (rowsOf c))).b 1000=some ⟨T,bP ids c⟩:=rfl
 exact{
  wf:=by
   refine⟨fun s j hj=>?_,fun s j hj=>?_,fun i B hB x hx j hj=>?_,fun i B hB x hx j hj=>?_⟩
   ·have:=(oyB _ (Px s)).1 j hj
    subst this;exact⟨_,JJ⟩
   ·exact absurd hj ((oyB _ (Px s)).2 j)
   ·obtain⟨rfl,rfl⟩:=box i B hB
    exact absurd hj ((ni x hx).1 j)
   ·obtain⟨rfl,rfl⟩:=box i B hB
    exact isLive j ((ni x hx).2 j hj)
  marks:=⟨[],rfl,List.nodup_nil,by simp⟩
  size:=by simp[AS.Aw];omega
  os:=rfl
  tape:=rfl
  output:=rfl
  grown:=Nat.le_refl _
  frame:=fun _ _ _=>rfl
  m0:=Mem.le_refl _
  cX:=fun _ _ _ e=>.inl e
  bV:=hM
  tm:=fun s=>Fj hall s
  bx:=fun i B h=>by
   obtain⟨rfl,rfl⟩:=box i B h
   refine⟨.inr (.inl rfl),ho.nb,fun h=>h,us,ho.hp,?_⟩
   exact nh (w:=w) Um ho.al (fun j p hm=>gY (R:=p.1) (v:=p.2) hnd hm)
  inj:=fun i j B1 B2 hi hj _=>by rw[(box i B1 hi).1,(box j B2 hj).1]
  rx:=fun j R hj=>by
   obtain⟨v,hm⟩:=vi ho.al (live j R hj)
   have hν:jA (ids.zip (bk c us)) (fun _=>Value.nilIface) j=v:=gY hnd hm
   show(∃vs:List Value,w.ownsRow 0 R.E R.sz (jA (ids.zip (bk c us)) (fun _=>.nilIface) j) R.n vs∧SV.dw M R.cells vs)∧_
   rw[hν]
   refine⟨kP ho.al (R,v) (ir hm).2,fun g hg=>?_⟩
   have hg:v.ownBlock=some g:=by rw[←hν];exact hg
   have hb:fL c us g:=⟨(R,v),(ir hm).2,hg⟩
   obtain⟨q1,q2⟩:=ho.nr g hb
   refine⟨.inr (.inr hb),q2,fun h=>h,fun k B _ e=>q1 e.symm⟩
  dB:=fun j j' R R' h1 h2 g e1 e2=>by
   obtain⟨v,hm⟩:=vi ho.al (live j R h1)
   obtain⟨v',hm'⟩:=vi ho.al (live j' R' h2)
   have hν:jA (ids.zip (bk c us)) (fun _=>Value.nilIface) j=v:=gY hnd hm
   have aez:jA (ids.zip (bk c us)) (fun _=>Value.nilIface) j'=v':=gY hnd hm'
   exact wI BW ho.ap j R v j' R' v' g hm hm' (by rw[←hν];exact e1) (by rw[←aez];exact e2)
  fK:=fun i b e=>by
   simp only[SH]at e
   cases h:Nat.beq i 1000 with
   |false=>rw[h]at e;cases e
   |true=>rw[h]at e;cases e;rfl
  cI:=fun i v e=>by cases e
  iT:=fun b e=>e.elim
  jj:=trivial}
theorem zH{P:Program}{f:FuncId}{fn:Func}{code:Code}{args:List AV}{T:TypeId}{c0 c1:List Oc}{res:SV}(ids:List Nat)(hf:P.funcs[f]? =some fn)(hb:fn.body=some code)(hn:args.length≤fn.ntmps)(Jj:args.all AV.oy=true)(BW:ids.Nodup)(Um:ids.length=(rowsOf c0).length)
  (h:∀(w:World) (M:Mem) (β:Nat) (us:List Value),Ok P (SH w M β c0 us) code (AS.Aw fn.ntmps args [(1000,⟨T,bP ids c0⟩)] (ids.zip (rowsOf c0))) (fun e S=>(e=.normal∨e=.ret)∧Jd P S fn.results.toList res∧∃ks:List Nat,S.b 1000=some ⟨T,bP ks c1⟩∧Lv S ks (rowsOf c1)∧ks.Nodup)):Nu P f args T c0 res c1:=by
 intro M w β vs us hM ho hv
 refine gy rfl hf hb (G3 ids hM ho hv Jj hn BW Um) (h w M β us) ?_
 rintro S' E a w' ⟨hr,ks,hB,hL,hk⟩ hh
 obtain⟨v,hv,hx⟩:=(yP.sv hr).run hh
 have hβ:E.β 1000=β:=hh.fK 1000 β rfl
 obtain⟨us',ho',kD⟩:=oS hh hB hL hk
 rw[hβ]at ho'
 refine⟨v,hv,v,E.M,us',rfl,hh.m0,fun b o x e=>?_,hh.bV,hx,ho',fun g hg=>?_,hh.os,hh.tape,hh.output,hh.grown,fun k hk hne hno=>hh.frame k hk (fun e=>e.elim hne hno)⟩
 ·rcases hh.cX b o x e with q|q|q|q
  ·exact .inl q
  ·exact .inr (.inl q)
  ·rw[show b=β from q,ho'.nb o]at e;cases e
  ·exact .inr (.inr q)
 ·obtain⟨j,hj,xK⟩:=(kD g).1 hg
  obtain⟨R,hR⟩:=hL.mem j hj
  obtain⟨_,q⟩:=hh.rx j R hR
  rcases(q g xK).1 with q1|q1|q1
  ·exact .inr q1
  ·exact absurd q1 (ho'.nr g hg).1
  ·exact .inl q1
end Go.Fw
namespace Go.Fw
open Go.RowKit
def Un(S:AS):List Nat→Prop
 |[]=>True
 |k::ks=>(S.r k=.un∧k<1000)∧Un S ks
theorem Un.mem{S:AS}:∀{ks:List Nat},Un S ks→∀k∈ks,S.r k=.un∧k<1000
 |k::ks,h,j,hj=>by
  rcases List.mem_cons.1 hj with rfl|hj
  ·exact h.1
  ·exact Un.mem h.2 j hj
 |[],_,j,hj=>by cases hj
theorem Un.congr{S S':AS}:∀{ks:List Nat},(∀k∈ks,S'.r k=S.r k)→Un S ks→Un S' ks
 |[],_,_=>trivial
 |k::ks,h,hu=>⟨by rw[h k (by simp)];exact hu.1,Un.congr (fun j hj=>h j (List.mem_cons_of_mem _ hj)) hu.2⟩
theorem Lv.congr{S S':AS}:∀{js:List Nat} {Rs:List Row},(∀k∈js,S'.r k=S.r k)→Lv S js Rs→Lv S' js Rs
 |[],[],_,_=>trivial
 |j::js,R::Rs,h,hl=>⟨by rw[h j (by simp)];exact hl.1,Lv.congr (fun k hk=>h k (List.mem_cons_of_mem _ hk)) hl.2⟩
 |[],_::_,_,h=>h.elim
 |_::_,[],_,h=>h.elim
def xU(js ks:List Nat)(c:List Oc):List (Nat×jK):=js.map (fun j=>(j,jK.dead))++(ks.zip (rowsOf c)).map (fun p=>(p.1,.live p.2))
theorem D6:∀(ks:List Nat) (l:List (Row×Value)),(ks.zip l).map (fun n=>(n.1,jK.live n.2.1))=(ks.zip (l.map (·.1))).map (fun p=>(p.1,.live p.2))
 |[],_=>rfl
 |_::_,[]=>rfl
 |k::ks,p::l=>by rw[List.map_cons,List.zip_cons_cons,List.zip_cons_cons,List.map_cons,List.map_cons,D6 ks l]
theorem D7{M:Mem}{w:World}{c:List Oc}{us:List Value}(h:rI M w c us)(js ks:List Nat):vh js (ks.zip (bk c us))=xU js ks c:=by
 unfold vh xU
 rw[D6,gA h]
section steps
variable {P:Program}{C:Ctx}{ops:Array Oper}{S:AS}{nd:Bool}{K:List Ac→AS→Prop}{rest:List Oper}{acc:List Ac}
variable {gd:Option (Nat×Bool)}{rg:List Nat}{d:Nat}{ty:TypeId}{pos:String}{aft:Array Edge}{x y z:Operand}{T U E0:TypeId}
theorem au.Nv{E:Env}{a:Act}{w w':World}(h:au C S E a w){i:Nat}{js ks:List Nat}{c0 c1:List Oc}{us us':List Value}{M':Mem}(hB:S.b i=some ⟨T,bP js c0⟩)(hL:Lv S js (rowsOf c0))(hks:ks.Nodup)(xh:ks.length=(rowsOf c1).length)(SI:Un S ks)
  (zI:∀g,fL c0 us g↔∃j∈js,(E.ν j).ownBlock=some g) (hM:E.M.le M') (hn:∀b o x,M' b o=some x→E.M b o=some x∨w.heap.size≤b∨fL c0 us b) (hin:M'.bV w') (ho:qA M' w' (E.β i) T c1 us') (hg:∀g,fL c1 us' g→fL c0 us g∨w.heap.size≤g)
  (hos:w'.os=w.os) (lq:w'.tape=w.tape) (hout:w'.output=w.output) (hsize:w.heap.size≤w'.heap.size) (kD:∀k,k<w.heap.size→k≠E.β i→¬fL c0 us k→w'.heap[k]? =w.heap[k]?):
  ∃E':Env,E'.M=M'∧E'.β=E.β∧au C (AS.bg (xU js ks c1) (AS.ee [(i,⟨T,bP ks c1⟩)] S)) E' a w':=by
 have Uo:(bk c1 us').length=(rowsOf c1).length:=by rw[←gA ho.al,List.length_map]
 have hnd:((ks.zip (bk c1 us')).map (·.1)).Nodup:=by rw[yl (by omega)];exact hks
 rw[←D7 ho.al js ks]
 refine⟨{E with M:=M',ν:=jA (ks.zip (bk c1 us')) E.ν},rfl,rfl,h.V7 hB js (ks.zip (bk c1 us')) (fun j hj=>hL.mem j hj) (fun k R v hm=>SI.mem k (ir hm).1) hnd hM (fun b o x e=>?_) hin ho.hp ho.nb ?_ (fun x hx=>?_) (fun k R v hm=>?_) (wI hks ho.ap) hos lq hout hsize (fun k hk hne hno=>kD k hk hne (fun q=>?_))⟩
 ·rcases hn b o x e with q|q|q
  ·exact .inl q
  ·exact .inr (.inl q)
  ·exact .inr (.inr ((zI b).1 q))
 ·exact nh (E:={E with M:=M',ν:=jA (ks.zip (bk c1 us')) E.ν}) (w:=w') xh ho.al (fun j p hm=>gY (R:=p.1) (v:=p.2) hnd hm)
 ·obtain⟨q1,q2⟩:=ni x hx
  refine⟨q1,fun j hj=>?_⟩
  have hj:=q2 j hj
  have key:∀(ks:List Nat) (l:List (Row×Value)),ks.length=l.length→j∈ks→∃R v,(j,R,v)∈ks.zip l:=by
   intro ks
   induction ks with
   |nil=>intro _ _ h;cases h
   |cons k ks ih=>
    intro l hl hm
    cases l with
    |nil=>simp at hl
    |cons p l=>
     rw[List.zip_cons_cons]
     rcases List.mem_cons.1 hm with q|q
     ·subst q;exact⟨p.1,p.2,by simp⟩
     ·obtain⟨R,v,h⟩:=ih l (by simpa using hl) q
      exact⟨R,v,List.mem_cons_of_mem _ h⟩
  exact key ks _ (by omega) hj
 ·refine⟨kP ho.al (R,v) (ir hm).2,fun g Dr=>?_⟩
  have hb:fL c1 us' g:=⟨(R,v),(ir hm).2,Dr⟩
  obtain⟨q1,q2⟩:=ho.nr g hb
  refine⟨?_,q2,q1⟩
  rcases hg g hb with q|q
  ·exact .inl ((zI g).1 q)
  ·exact .inr q
 ·obtain⟨j,hj,e⟩:=(zI k).1 q
  exact hno j hj e
theorem RT.xn(hg:Gd ops S gd rg){f:FuncId}[cz P f]{g:Operand}{xs:Array Operand}{at_:Array TypeId}{args:List AV}{T:TypeId}{c0 c1:List Oc}{res:SV}(hp:Nu P f args T c0 res c1)(i:Nat)(js ks:List Nat)(hB:S.b i=some ⟨T,bP js c0⟩)(hL:Lv S js (rowsOf c0))(Py:js.Nodup)(hks:ks.Nodup)(xh:ks.length=(rowsOf c1).length)(SI:Un S ks)
  (Jj:args.all AV.oy=true) (hf:S.ev g=.sv (.v (.func (.func f) #[] #[]))) (hargs:th S xs.toList (args.map (AV.Pw i))) (hd:d<S.n)
  (next:RunT P C ops nd K rest (⟨rg++(ak g++xs.toList.flatMap ak),[i],js++ks,⟨some (d,.sv res),[(i,⟨T,bP ks c1⟩)],xU js ks c1⟩⟩::acc) ((AS.bg (xU js ks c1) (AS.ee [(i,⟨T,bP ks c1⟩)] S)).set d (.sv res))):RunT P C ops nd K (⟨some d,.call ⟨.value g,xs,at_⟩,ty,pos,aft,gd⟩::rest) acc S:=by
 refine .inl ⟨_,[i],js++ks,_,?_,next⟩
 rintro S' hn ht hb hr k a w L Q ho ⟨E,h⟩ Wd
 refine bG (C:=C) ho (hg.wanted h (fun s hs=>ht s (List.mem_append_left _ hs)) rfl) ?_
 have uJ:a.eval g=.func (.func f) #[] ⟨[]⟩:=by
  have h1:=h.ev g;rw[aA (fun _ h=>List.mem_append_right _ (List.mem_append_left _ h)) ht,hf]at h1;exact h1
 have hall:=ym Jj (th.vals h hargs (fun s hs=>ht s (List.mem_append_right _ (List.mem_append_right _ hs))))
 have dW:S'.b i=some ⟨T,bP js c0⟩:=by rw[hb i (by simp)];exact hB
 have Pz:Lv S' js (rowsOf c0):=hL.congr (fun k hk=>hr k (List.mem_append_left _ hk))
 have aeA:Un S' ks:=SI.congr (fun k hk=>hr k (List.mem_append_right _ hk))
 obtain⟨us,Nw,zI⟩:=oS h dW Pz Py
 refine bH (C:=C) (by intro c h;cases h) (mM uJ) ?_
 rw[List.append_nil]
 refine⟨fun h=>by simp at h,fS ((hp E.M w (E.β i) _ us h.bV Nw hall).mono ?_)⟩
 rintro e w' ⟨v,M',us',rfl,hM,hnew,hin,hv,Ji,PA,hos,lq,hout,hsize,kD⟩
 obtain⟨E',e1,e2,h1⟩:=h.Nv dW Pz hks xh aeA zI hM hnew hin Ji PA hos lq hout hsize kD
 refine Wd _ _ ⟨_,h1.put (x:=.sv res) (v:=v) (by show res.h E'.M v;rw[e1];exact hv) ?_ dN⟩
 rw[(eo _ _).1];show d<S'.n;omega
theorem IU{f:FuncId}[cz P f]{o:Option Nat}{g:Operand}{xs:Array Operand}{at_:Array TypeId}{a:Act}{w:World}{bs:List Value}(uJ:a.eval g=.func (.func f) ⟨bs⟩ #[]):
  (execOp a.eval ⟨o,.call ⟨.value g,xs,at_⟩,ty,pos,aft,gd⟩).run P w=.ok (.enter f ⟨bs++xs.toList.map a.eval⟩) w:=by
 have e2:(⟨bs⟩:Array Value)++xs.map a.eval=⟨bs++xs.toList.map a.eval⟩:=by apply Array.ext';simp
 have e1:=cz.run (P:=P) (f:=f) (⟨bs⟩++xs.map a.eval) w
 rw[←e2]
 simp[execOp,resolve,uJ,Deferred.ofValue,invoke,e1]
theorem RT.Nx(hg:Gd ops S gd rg){g:FuncId}{i:Nat}(hx:S.ev x=.ptr i 0)(hd:d<S.n)
  (next:RunT P C ops nd K rest (⟨rg++ak x,[],[],⟨some (d,.cmp (.T1 g) [.box i]),[],[]⟩⟩::acc) (S.set d (.cmp (.T1 g) [.box i]))):RunT P C ops nd K (⟨some d,.makeFunc (.func g) #[x] #[],ty,pos,aft,gd⟩::rest) acc S:=
 RT.value hg (ak x) [] [] (.cmp (.T1 g) [.box i]) hd (by intro c h;cases h) (fun S' ht _ _ E a w h=>by
  have hx':S'.ev x=.ptr i 0:=by rw[aA (fun _ h=>h) ht,hx]
  have h1:=h.ev x
  rw[hx']at h1
  obtain⟨l1,l2⟩:=jo h.wf hx'
  refine⟨.func (.func g) #[a.eval x] #[],by simp[execOp,Instr.makeFunc],⟨[a.eval x],rfl,h1,trivial⟩,fun j e=>?_,fun j e=>?_⟩
  ·have:j=i:=by simpa[AV.mb]using e
   exact l1 j this
  ·simp[AV.mr]at e) next
theorem RT.dY(hg:Gd ops S gd rg){i o:Nat}(hx:S.ev x=.ptr i o)(hd:d<S.n)
  (next:RunT P C ops nd K rest (⟨rg++ak x,[],[],⟨some (d,.ptr i o),[],[]⟩⟩::acc) (S.set d (.ptr i o))):RunT P C ops nd K (⟨some d,.nilCheck x,ty,pos,aft,gd⟩::rest) acc S:=
 RT.value hg (ak x) [] [] (.ptr i o) hd (by intro c h;cases h) (fun S' ht _ _ E a w h=>by
  have hx':S'.ev x=.ptr i o:=by rw[aA (fun _ h=>h) ht,hx]
  have h1:=h.ev x
  rw[hx']at h1
  have h2:a.eval x=.pointer (some ⟨E.β i,o,none⟩):=h1
  exact⟨a.eval x,by simp[execOp,h2],h1,jo h.wf hx'⟩) next
class vk (P:Program) (T:TypeId):Prop where
 u:P.underlying T=some (.pointer (P.pointee T))
theorem RT.KI(hg:Gd ops S gd rg)[tT:vk P T]{i o:Nat}(hx:S.ev x=.ptr i o)(hy:S.ev y=.sv (.v (.pointer none)))(hd:d<S.n)
  (next:RunT P C ops nd K rest (⟨rg++(ak x++ak y),[],[],⟨some (d,.sv (.v (.bool false))),[],[]⟩⟩::acc) (S.set d (.sv (.v (.bool false))))):RunT P C ops nd K (⟨some d,.binOp .eql T x y U,ty,pos,aft,gd⟩::rest) acc S:=
 RT.value hg (ak x++ak y) [] [] (.sv (.v (.bool false))) hd (by intro c h;cases h) (fun S' ht _ _ E a w h=>by
  have h1:=h.ev x
  rw[aA (fun _ h=>List.mem_append_left _ h) ht,hx]at h1
  have h2:=h.ev y
  rw[aA (fun _ h=>List.mem_append_right _ h) ht,hy]at h2
  have h1:a.eval x=.pointer (some ⟨E.β i,o,none⟩):=h1
  have h2:a.eval y=.pointer none:=h2
  have e:=run_eql_pointer_nil (P:=P) w T (some ⟨E.β i,o,none⟩) tT.u
  refine⟨.bool false,?_,rfl,dN⟩
  simp[execOp,h1,h2,eqGuard,e]) next
theorem RT.SJ(hg:Gd ops S gd rg)[tT:vk P T](hx:S.ev x=.sv (.v (.pointer none)))(hy:S.ev y=.sv (.v (.pointer none)))(hd:d<S.n)
  (next:RunT P C ops nd K rest (⟨rg++(ak x++ak y),[],[],⟨some (d,.sv (.v (.bool true))),[],[]⟩⟩::acc) (S.set d (.sv (.v (.bool true))))):RunT P C ops nd K (⟨some d,.binOp .eql T x y U,ty,pos,aft,gd⟩::rest) acc S:=
 RT.Du hg (by intro c h;cases h) hx hy hd (fun ρ w h1 h2=>by
  have e:=run_eql_pointer_nil (P:=P) w T none tT.u
  simp[execOp,h1,h2,eqGuard,e]) next
def Fc.av:Fc→AV
 |.val s=>.sv s
 |.box i=>.ptr i 0
 |.row i=>.row i
theorem RT.oT(hg:Gd ops S gd rg){i:Nat}{js:List Fc}{s:Fc}(hx:S.ev x=.cmp .w6 js)(hi:js[i]? =some s)(hd:d<S.n)
  (next:RunT P C ops nd K rest (⟨rg++ak x,[],[],⟨some (d,s.av),[],[]⟩⟩::acc) (S.set d s.av)):RunT P C ops nd K (⟨some d,.extract x i,ty,pos,aft,gd⟩::rest) acc S:=
 RT.value hg (ak x) [] [] s.av hd (by intro c h;cases h) (fun S' ht _ _ E a w h=>by
  have hx':S'.ev x=.cmp .w6 js:=by rw[aA (fun _ h=>h) ht,hx]
  have h1:=h.ev x
  rw[hx']at h1
  obtain⟨l1,l2⟩:=jo h.wf hx'
  obtain⟨vs,hv,hall⟩:=h1
  have hv:a.eval x=.tuple ⟨vs⟩:=hv
  obtain⟨u,hu,hs⟩:=hall.get hi
  have hm:=List.mem_of_getElem? hi
  refine⟨u,by simp[execOp,hv,Instr.extract,hu],?_,fun j e=>?_,fun j e=>?_⟩
  ·cases s<;>exact hs
  ·cases s with
   |val s=>exact e.elim
   |box k=>have e:j=k:=e;subst e;exact l1 j hm
   |row k=>exact e.elim
  ·cases s with
   |val s=>exact e.elim
   |box k=>exact e.elim
   |row k=>have e:j=k:=e;subst e;exact l2 j hm) next
def aeB(tp:Bool)(p:Value)(rs:List Value):Value:=bif tp then .tuple ⟨p::rs⟩else p
def Ny(P:Program)(f:FuncId)(args:List SV)(tp:Bool)(rest:List SV)(T:TypeId)(c:List Oc):Prop:=
 ∀(M:Mem) (w:World) (vs:List Value),M.bV w→SV.dw M args vs→
  Calls P f ⟨vs⟩ w fun e w'=>∃β rs M' us,e=.returned (aeB tp (.pointer (some ⟨β,0,none⟩)) rs)∧M.le M'∧(∀b o x,M' b o=some x→M b o=some x∨w.heap.size≤b)∧M'.bV w'∧SV.dw M' rest rs∧
   qA M' w' β T c us∧w.heap.size≤β∧(∀g,fL c us g→w.heap.size≤g)∧Below w.heap.size w w'
theorem KJ{w:World}{M:Mem}{S':AS}{E:Env}{a:Act}{w':World}{k:Nat}{ks:List Nat}{c:List Oc}(hB:S'.b k=some ⟨T,bP ks c⟩)(hL:Lv S' ks (rowsOf c))(hk:ks.Nodup)(hh:au (Dy w M) S' E a w'):
  ∃us,M.le E.M∧(∀b o x,E.M b o=some x→M b o=some x∨w.heap.size≤b)∧E.M.bV w'∧qA E.M w' (E.β k) T c us∧w.heap.size≤E.β k∧(∀g,fL c us g→w.heap.size≤g)∧Below w.heap.size w w':=by
 obtain⟨us,ho,kD⟩:=oS hh hB hL hk
 refine⟨us,hh.m0,fun b o x e=>?_,hh.bV,ho,(hh.bx k _ hB).1.elim id (fun h=>h.elim),fun g hg=>?_,hh.os,hh.tape,hh.output,hh.grown,fun k hk=>hh.frame k hk (fun h=>h)⟩
 ·rcases hh.cX b o x e with h|h|h
  ·exact .inl h
  ·exact .inr h
  ·exact h.elim
 ·obtain⟨j,hj,xK⟩:=(kD g).1 hg
  obtain⟨R,hR⟩:=hL.mem j hj
  exact((hh.rx j R hR).2 g xK).1.elim id (fun h=>h.elim)
theorem xo{f:FuncId}{fn:Func}{code:Code}{args:List SV}{s:SV}{c:List Oc}{t1 t2:Nat}(hf:P.funcs[f]? =some fn)(hb:fn.body=some code)(hn:args.length≤fn.ntmps)(hres:fn.results=#[.tmp t1,.tmp t2])
  (h:∀(w:World) (M:Mem) (vs:List Value),SV.dw M args vs→Ok P (Dy w M) code (AS.init fn.ntmps args) (fun e S=>(e=.normal∨e=.ret)∧∃(k:Nat) (ks:List Nat),S.t t1=.ptr k 0∧S.t t2=.sv s∧S.b k=some ⟨T,bP ks c⟩∧Lv S ks (rowsOf c)∧ks.Nodup)):Ny P f args true [s] T c:=by
 intro M w vs hM hvs
 refine gy rfl hf hb (iy hM hvs hn) (h w M vs hvs) ?_
 rintro S' E a w' ⟨k,ks,SK,We,hB,hL,hk⟩ hh
 have h1:=hh.tm t1
 rw[SK]at h1
 have h1:a.tmps.getD t1 undef=.pointer (some ⟨E.β k,0,none⟩):=h1
 have h2:=hh.tm t2
 rw[We]at h2
 obtain⟨us,q1,q2,q3,q4,q5,q6,q7⟩:=KJ hB hL hk hh
 refine⟨.tuple #[.pointer (some ⟨E.β k,0,none⟩),a.tmps.getD t2 undef],?_,E.β k,[a.tmps.getD t2 undef],E.M,us,rfl,q1,q2,q3,⟨h2,trivial⟩,q4,q5,q6,q7⟩
 rw[Array.getD_eq_getD_getElem?]at h1
 simp[results,hres,h1]
theorem au.G4{a:Act}{w:World}:∀(ks:List Nat) (l:List (Row×Value)) {S:AS} {E:Env},au C S E a w→ks.length=l.length→ks.Nodup→Un S ks→(∀p∈l,∃vs:List Value,w.ownsRow 0 p.1.E p.1.sz p.2 p.1.n vs∧SV.dw E.M p.1.cells vs)→G2 l→(∀p∈l,∀g,p.2.ownBlock=some g→Ij C S E g)→
  ∃E':Env,E'.M=E.M∧E'.β=E.β∧E'.O=E.O∧(∀i p,(i,p)∈ks.zip l→E'.ν i=p.2)∧(∀i,i∉ks→E'.ν i=E.ν i)∧au C (AS.bg ((ks.zip l).map (fun n=>(n.1,.live n.2.1))) S) E' a w
 |[],[],S,E,h,_,_,_,_,_,_=>⟨E,rfl,rfl,rfl,fun i p hm=>(by simp at hm),fun _ _=>rfl,h⟩
 |k::ks,p::l,S,E,h,hl,hn,hu,ho,ha,hf=>by
  obtain⟨R,v⟩:=p
  rw[List.nodup_cons]at hn
  obtain⟨ha1,ha2⟩:=List.pairwise_cons.1 ha
  obtain⟨vs,Nw,Ji⟩:=ho (R,v) (by simp)
  have h1:=h.B4 hu.1.1 hu.1.2 [] none (.inl ⟨rfl,rfl⟩) (R':=R) Nw Ji (fun g hg=>.inr (hf (R,v) (by simp) g hg)) (pM w none)
  have hu':Un (AS.bg ([]++[(k,.live R)]) S) ks:=hu.2.congr (fun j hj=>by
   show(AS.oI S k _).r j=_
   exact AS.jx _ _ _ _ (fun e=>hn.1 (e▸hj)))
  obtain⟨E',q1,q2,q3,q4,q5,q6⟩:=au.G4 ks l h1 (by simpa using hl) hn.2 hu' (fun p hp=>ho p (List.mem_cons_of_mem _ hp)) ha2 (fun p hp g hg=>by
   obtain⟨f1,f2,f3,f4,f5⟩:=hf p (List.mem_cons_of_mem _ hp) g hg
   refine⟨f1,f2,f3,f4,fun j R' nJ e=>?_⟩
   have nJ:(AS.oI S k (.live R)).r j=.live R':=nJ
   by_cases ej:j=k
   ·subst ej
    have e:(if j=j then v else E.ν j).ownBlock=some g:=e
    rw[if_pos rfl]at e
    exact ha1 p hp g e hg
   ·rw[AS.jx _ _ _ _ ej]at nJ
    have e:(if j=k then v else E.ν j).ownBlock=some g:=e
    rw[if_neg ej]at e
    exact f5 j R' nJ e)
  refine⟨E',q1,q2,q3,fun i p hm=>?_,fun i hi=>?_,q6⟩
  ·rw[List.zip_cons_cons]at hm
   rcases List.mem_cons.1 hm with e|e
   ·cases e
    rw[q5 k hn.1]
    show(if k=k then v else E.ν k)=v
    rw[if_pos rfl]
   ·exact q4 i p e
  ·rw[q5 i (fun hm=>hi (List.mem_cons_of_mem _ hm))]
   show(if i=k then v else E.ν i)=E.ν i
   rw[if_neg (fun e=>hi (by rw[e];simp))]
 |[],_::_,_,_,_,hl,_,_,_,_,_=>by simp at hl
 |_::_,[],_,_,_,hl,_,_,_,_,_=>by simp at hl
theorem zJ(i:Nat)(B:lP):∀(l:List (Nat×jK)) (S:AS),AS.bg l (S.jw i B)=(AS.bg l S).jw i B
 |[],_=>rfl
 |(j,R)::l,S=>zJ i B l (S.oI j R)
theorem rM{α β:Type}:∀{l:List α} {k:List β} {a:α},l.length=k.length→a∈l→∃b,(a,b)∈l.zip k
 |a::l,c::k,b,h,hb=>by
  rcases List.mem_cons.1 hb with rfl|hb
  ·exact⟨c,by rw[List.zip_cons_cons];simp⟩
  ·obtain⟨a',h'⟩:=rM (l:=l) (k:=k) (by simpa using h) hb
   exact⟨a',by rw[List.zip_cons_cons];exact List.mem_cons_of_mem _ h'⟩
 |[],_,_,_,hb=>by cases hb
 |_::_,[],_,h,_=>by simp at h
theorem au.newObj{E:Env}{a:Act}{w w':World}(h:au C S E a w){i:Nat}(hi:S.b i=none)(hp:C.fK i=none){ks:List Nat}{c:List Oc}{us:List Value}{M':Mem}{β:Nat}(hks:ks.Nodup)(xh:ks.length=(rowsOf c).length)(SI:Un S ks)
  (hM:E.M.le M') (hn:∀b o x,M' b o=some x→E.M b o=some x∨w.heap.size≤b) (hin:M'.bV w') (ho:qA M' w' β T c us) (hβ:w.heap.size≤β) (hg:∀g,fL c us g→w.heap.size≤g) (UW:Below w.heap.size w w'):
  ∃E':Env,E'.M=M'∧E'.β i=β∧au C (AS.bg (xU [] ks c) (AS.ee [(i,⟨T,bP ks c⟩)] S)) E' a w':=by
 have Uo:(bk c us).length=(rowsOf c).length:=by rw[←gA ho.al,List.length_map]
 have h0:=h.grow hM hn hin UW
 obtain⟨E1,q1,q2,q3,q4,q5,h1⟩:=au.G4 ks (bk c us) h0 (by omega) hks SI (kP ho.al) ho.ap (fun p hp g Dr=>h.yd (hg g ⟨p,hp,Dr⟩) (ho.nr g ⟨p,hp,Dr⟩).2)
 have hS1:AS.bg ((ks.zip (bk c us)).map (fun n=>(n.1,.live n.2.1))) S=AS.bg (xU [] ks c) S:=by rw[←D7 ho.al [] ks];rfl
 rw[hS1]at h1
 obtain⟨f1,f2,f3,f4,f5⟩:=h.yd (M':=M') hβ ho.nb
 have hi1:(AS.bg (xU [] ks c) S).b i=none:=by rw[(eo _ _).2.2.1];exact hi
 have hfree:Ij C (AS.bg (xU [] ks c) S) E1 β:=by
  refine⟨f1,by rw[q1];exact f2,by rw[q3];exact f3,fun j B hB=>?_,fun j R hR e=>?_⟩
  ·rw[(eo _ _).2.2.1]at hB;rw[q2];exact f4 j B hB
  ·by_cases hj:j∈ks
   ·obtain⟨p,hm⟩:=rM (l:=ks) (k:=bk c us) (by omega) hj
    rw[q4 j p hm]at e
    exact(ho.nr β ⟨p,(ir hm).2,e⟩).1 rfl
   ·rw[jn,uc (fun R hm=>by
     obtain⟨x,hx,e⟩:=List.mem_map.1 (show(j,R)∈(ks.zip (rowsOf c)).map (fun p=>(p.1,jK.live p.2))from hm)
     obtain⟨k,R2⟩:=x
     have e:k=j:=congrArg Prod.fst e
     exact hj (e▸(ir hx).1))]at hR
    rw[q5 j hj]at e
    exact f5 j R hR e
 have h2:=h1.GK hi1 hp hfree ho.hp (nh (w:=w') xh (by rw[q1];exact ho.al) q4) (fun x hx=>by
  obtain⟨p1,p2⟩:=ni x hx
  refine⟨fun j e=>absurd e (p1 j),fun j e=>?_⟩
  obtain⟨R,hm⟩:=rM (l:=ks) (k:=rowsOf c) xh (p2 j e)
  obtain⟨R',nJ⟩:=zG (l:=xU [] ks c) (j:=j) (R:=.live R) (List.mem_map.2 ⟨(j,R),hm,rfl⟩)
  rw[jn,nJ]
  obtain⟨x,hx,e⟩:=List.mem_map.1 (show(j,R')∈(ks.zip (rowsOf c)).map (fun p=>(p.1,jK.live p.2))from ud nJ)
  rw[←show jK.live x.2=R' from congrArg Prod.snd e]
  simp)
 refine⟨{E1 with β:=fun j=>if j=i then β else E1.β j},q1,?_,?_⟩
 rotate_left 1
 ·rw[show AS.ee [(i,(⟨T,bP ks c⟩:lP))] S=S.jw i ⟨T,bP ks c⟩from rfl,zJ]
  exact h2
 ·show(if i=i then β else E1.β i)=β
  rw[if_pos rfl]
theorem RT.CC(hg:Gd ops S gd rg){f:FuncId}[cz P f]{g:Operand}{xs:Array Operand}{at_:Array TypeId}{args:List SV}{T:TypeId}{c:List Oc}{s:SV}(hp:Ny P f args true [s] T c)(ks:List Nat)(hks:ks.Nodup)(xh:ks.length=(rowsOf c).length)(SI:Un S ks)(hf:S.ev g=.sv (.v (.func (.func f) #[] #[])))(hargs:ik S xs.toList args)(hd:d<S.n)(hdb:S.b d=none)(Fo:C.fK d=none)
  (next:RunT P C ops nd K rest (⟨rg++(ak g++xs.toList.flatMap ak),[d],ks,⟨some (d,.cmp .w6 [.box d,.val s]),[(d,⟨T,bP ks c⟩)],xU [] ks c⟩⟩::acc) ((AS.bg (xU [] ks c) (AS.ee [(d,⟨T,bP ks c⟩)] S)).set d (.cmp .w6 [.box d,.val s]))):RunT P C ops nd K (⟨some d,.call ⟨.value g,xs,at_⟩,ty,pos,aft,gd⟩::rest) acc S:=by
 refine .inl ⟨_,[d],ks,_,?_,next⟩
 rintro S' hn ht hb hr i a w L Q ho ⟨E,h⟩ hL
 refine bG (C:=C) ho (hg.wanted h (fun s hs=>ht s (List.mem_append_left _ hs)) rfl) ?_
 have uJ:a.eval g=.func (.func f) #[] ⟨[]⟩:=by
  have h1:=h.ev g;rw[aA (fun _ h=>List.mem_append_right _ (List.mem_append_left _ h)) ht,hf]at h1;exact h1
 have hall:=ik.vals h hargs (fun s hs=>ht s (List.mem_append_right _ (List.mem_append_right _ hs)))
 have hdn:S'.b d=none:=by rw[hb d (by simp)];exact hdb
 refine bH (C:=C) (by intro c h;cases h) (mM uJ) ?_
 rw[List.append_nil]
 refine⟨fun h=>by simp at h,fS ((hp E.M w _ h.bV hall).mono ?_)⟩
 rintro e w' ⟨β,rs,M',us,rfl,hM,hnew,hin,SL,Ji,hβ,PA,UW⟩
 obtain⟨E',e1,e2,h1⟩:=h.newObj hdn Fo hks xh (SI.congr hr) hM hnew hin Ji hβ PA UW
 match rs,SL with
 |[r],SL=>
  refine hL _ _ ⟨_,h1.put (x:=.cmp .w6 [.box d,.val s]) (v:=.tuple #[.pointer (some ⟨β,0,none⟩),r]) ⟨[.pointer (some ⟨β,0,none⟩),r],rfl,by show _=Value.pointer (some ⟨E'.β d,0,none⟩);rw[e2],by show s.h E'.M r;rw[e1];exact SL.1,trivial⟩ ?_ ⟨fun j e=>?_,fun j e=>?_⟩⟩
  ·rw[(eo _ _).1];show d<S'.n;omega
  ·have e:j=d:=by simpa[AV.mb]using e
   subst e
   rw[(eo _ _).2.2.1]
   exact⟨_,AS.cq _ _ _⟩
  ·simp[AV.mr]at e
end steps
end Go.Fw
namespace Go.Fw
open Go.RowKit
def CD(P:Program)(f:FuncId)(args:List AV)(T:TypeId)(c:List Oc)(res:SV):Prop:=
 ∀(M:Mem) (w:World) (β:Nat) (vs us:List Value),M.bV w→qA M w β T c us→bW (rL M β) args vs→
  Calls P f ⟨vs⟩ w fun e w'=>∃v M',e=.returned v∧M.le M'∧(∀b o x,M' b o=some x→M b o=some x∨w.heap.size≤b)∧M'.bV w'∧res.h M' v∧
   qA M' w' β T c us∧w'.os=w.os∧w'.tape=w.tape∧w'.output=w.output∧w.heap.size≤w'.heap.size∧∀k,k<w.heap.size→k≠β→¬fL c us k→w'.heap[k]? =w.heap[k]?
def Up:List (Nat×Row×Value)→Nat→Option Value
 |[],_=>none
 |(k,_,v)::l,j=>if j=k then some v else Up l j
theorem CE:∀{l:List (Nat×Row×Value)} {j:Nat} {v:Value},Up l j=some v→∃R,(j,R,v)∈l
 |(k,R,u)::l,j,v,h=>by
  rw[Up]at h
  by_cases e:j=k
  ·rw[if_pos e]at h;cases h;subst e;exact⟨R,by simp⟩
  ·rw[if_neg e]at h
   obtain⟨R',hm⟩:=CE h
   exact⟨R',List.mem_cons_of_mem _ hm⟩
 |[],_,_,h=>by cases h
theorem KK:∀{l:List (Nat×Row×Value)} {j:Nat} {R:Row} {v:Value},(l.map (·.1)).Nodup→(j,R,v)∈l→Up l j=some v
 |(k,R',v')::l,j,R,v,hn,h=>by
  rw[List.map_cons,List.nodup_cons]at hn
  rw[Up]
  rcases List.mem_cons.1 h with e|e
  ·cases e;rw[if_pos rfl]
  ·have:j≠k:=fun q=>hn.1 (List.mem_map.2 ⟨(j,R,v),e,q⟩)
   rw[if_neg this];exact KK hn.2 e
theorem SM{ids:List Nat}(h:(ids.all fun i=>Nat.ble 1000 i)=true):∀i∈ids,1000≤i:=fun i hi=>Nat.le_of_ble_eq_true (List.all_eq_true.1 h i hi)
def Wf(w:World)(M:Mem)(β:Nat)(c:List Oc)(us:List Value)(ids:List Nat)(BW:(ids.all fun i=>Nat.ble 1000 i)=true):Ctx:={w0:=w,M0:=M,own:=fun k=>k=β∨fL c us k,qO:=fun k=>k=β∨fL c us k,fK:=fun i=>bif Nat.beq i 1000 then some β else none,cI:=Up (ids.zip (bk c us)),ro:=none,J:=fun _ _ _ _ _=>True,Ap:=fun _ h=>h,GA:=fun _ _ h=>(by obtain⟨R,hm⟩:=CE h;exact SM BW _ (ir hm).1),jf:=fun _ _ _ _ _ _ _ _ _ _ _ _ _ _ _ _=>trivial}
def Oc.cst:Oc→Prop
 |.s x=>∃v,x=.v v
 |.r _=>True
def F0:List Oc→Prop
 |[]=>True
 |c::l=>c.cst∧F0 l
theorem CF{M M':Mem}{w w':World}:∀{c:List Oc} {us us':List Value},F0 c→rI M w c us→rI M' w' c us'→bk c us=bk c us'→us=us'
 |[],[],[],_,_,_,_=>rfl
 |.s x::l,v::vs,v'::vs',hc,h,h',e=>by
  obtain⟨y,rfl⟩:=hc.1
  have e1:v=y:=h.1
  have e2:v'=y:=h'.1
  rw[e1,e2,CF hc.2 h.2 h'.2 e]
 |.r R::l,v::vs,v'::vs',hc,h,h',e=>by
  rw[bk,bk]at e
  have e1:=(List.cons.inj e).1
  have e2:=(List.cons.inj e).2
  rw[CF hc.2 h.2 h'.2 e2]
  rw[(Prod.mk.inj e1).2]
 |[],[],_::_,_,_,h,_=>h.elim
 |[],_::_,_,_,h,_,_=>h.elim
 |.s _::_,[],_,_,h,_,_=>h.elim
 |.r _::_,[],_,_,h,_,_=>h.elim
 |.s _::_,_::_,[],_,_,h,_=>h.elim
 |.r _::_,_::_,[],_,_,h,_=>h.elim
theorem kQ{P:Program}{f:FuncId}{fn:Func}{code:Code}{args:List AV}{T:TypeId}{c:List Oc}{res:SV}(ids:List Nat)(hf:P.funcs[f]? =some fn)(hb:fn.body=some code)(hn:args.length≤fn.ntmps)(Jj:args.all AV.oy=true)(BW:ids.Nodup)(Um:ids.length=(rowsOf c).length)(hge:(ids.all fun i=>Nat.ble 1000 i)=true)(aeD:F0 c)
  (h:∀(w:World) (M:Mem) (β:Nat) (us:List Value),Ok P (Wf w M β c us ids hge) code (AS.Aw fn.ntmps args [(1000,⟨T,bP ids c⟩)] (ids.zip (rowsOf c))) (fun e S=>(e=.normal∨e=.ret)∧Jd P S fn.results.toList res∧S.b 1000=some ⟨T,bP ids c⟩∧Lv S ids (rowsOf c))):CD P f args T c res:=by
 intro M w β vs us hM ho hv
 have Uo:(bk c us).length=(rowsOf c).length:=by rw[←gA ho.al,List.length_map]
 have hnd:((ids.zip (bk c us)).map (·.1)).Nodup:=by rw[yl (by omega)];exact BW
 have JK:au (Wf w M β c us ids hge) (AS.Aw fn.ntmps args [(1000,⟨T,bP ids c⟩)] (ids.zip (rowsOf c))) ⟨fun _=>β,jA (ids.zip (bk c us)) (fun _=>.nilIface),fun _=>False,M⟩ {tmps:=⟨vs⟩++Array.replicate (fn.ntmps-(⟨vs⟩:Array Value).size) undef,defers:=[]} w:=by
  have h0:=G3 (n:=fn.ntmps) ids hM ho hv Jj hn BW Um
  exact{wf:=h0.wf,marks:=h0.marks,size:=h0.size,os:=h0.os,tape:=h0.tape,output:=h0.output,grown:=h0.grown,frame:=h0.frame,m0:=h0.m0,cX:=h0.cX,bV:=h0.bV,tm:=h0.tm,bx:=h0.bx,inj:=h0.inj,rx:=h0.rx,dB:=h0.dB,fK:=h0.fK,cI:=fun i v e=>(by
   obtain⟨R,hm⟩:=CE e
   exact gY hnd hm),iT:=h0.iT,jj:=trivial}
 refine gy rfl hf hb JK (h w M β us) ?_
 rintro S' E a w' ⟨hr,hB,hL⟩ hh
 obtain⟨v,hv,hx⟩:=(yP.sv hr).run hh
 have hβ:E.β 1000=β:=hh.fK 1000 β rfl
 obtain⟨us',ho',kD⟩:=oS hh hB hL BW
 rw[hβ]at ho'
 obtain⟨_,_,_,UJ,q2,q3⟩:=hh.bx 1000 _ hB
 rw[hβ,ho'.hp]at q2
 obtain rfl:us'=UJ:=by
  have:=Option.some.inj q2
  injection this with e
  injection e
 obtain⟨_,aeE⟩:=rJ hh hL q3
 have kY:bk c us=bk c us':=by
  rw[aeE]
  have key:∀(ids:List Nat) (l:List (Row×Value)) (Rs:List Row),ids.length=l.length→l.map (·.1)=Rs→(∀i R v,(i,R,v)∈ids.zip l→E.ν i=v)→l=Rs.zip (ids.map E.ν):=by
   intro ids
   induction ids with
   |nil=>intro l Rs hl hm _;cases l with|nil=>cases hm;rfl|cons _ _=>simp at hl
   |cons i ids ih=>
    intro l Rs hl hm hν
    cases l with
    |nil=>simp at hl
    |cons p l=>
     cases hm
     obtain⟨R,v⟩:=p
     rw[List.map_cons,List.map_cons,List.zip_cons_cons,hν i R v (by rw[List.zip_cons_cons];simp),←ih l _ (by simpa using hl) rfl (fun i R v hm=>hν i R v (by rw[List.zip_cons_cons];exact List.mem_cons_of_mem _ hm))]
  exact key ids _ _ (by omega) (gA ho.al) (fun i R v hm=>hh.cI i v (KK hnd hm))
 obtain rfl:us=us':=CF aeD ho.al ho'.al kY
 refine⟨v,hv,v,E.M,rfl,hh.m0,fun b o x e=>?_,hh.bV,hx,ho',hh.os,hh.tape,hh.output,hh.grown,fun k hk hne hno=>hh.frame k hk (fun e=>e.elim hne hno)⟩
 rcases hh.cX b o x e with q|q|q|q
 ·exact .inl q
 ·exact .inr q
 ·rw[show b=β from q,ho'.nb o]at e;cases e
 ·rw[(ho'.nr b q).2 o]at e;cases e
section steps
variable {P:Program}{C:Ctx}{ops:Array Oper}{S:AS}{nd:Bool}{K:List Ac→AS→Prop}{rest:List Oper}{acc:List Ac}
variable {gd:Option (Nat×Bool)}{rg:List Nat}{d:Nat}{ty:TypeId}{pos:String}{aft:Array Edge}{x y z:Operand}{T U E0:TypeId}
theorem au.G5{E:Env}{a:Act}{w w':World}(h:au C S E a w){i:Nat}{js:List Nat}{c:List Oc}{us:List Value}{M':Mem}(hB:S.b i=some ⟨T,bP js c⟩)(hL:Lv S js (rowsOf c))(Py:js.Nodup)(BX:qA E.M w (E.β i) T c us)
  (hM:E.M.le M') (hn:∀b o x,M' b o=some x→E.M b o=some x∨w.heap.size≤b) (hin:M'.bV w') (ho:qA M' w' (E.β i) T c us)
  (hos:w'.os=w.os) (lq:w'.tape=w.tape) (hout:w'.output=w.output) (hsize:w.heap.size≤w'.heap.size) (kD:∀k,k<w.heap.size→k≠E.β i→¬fL c us k→w'.heap[k]? =w.heap[k]?):
  au C S {E with M:=M'} a w':=by
 obtain⟨IQ,aev,Nt,My,IS,Wg⟩:=h.bx i _ hB
 obtain rfl:My=us:=by
  rw[BX.hp]at IS
  have:=Option.some.inj IS
  injection this with e
  injection e with e
  exact e.symm
 obtain⟨_,Uo⟩:=rJ h hL Wg
 have hlen:=hL.len
 have B5:∀g,fL c My g↔∃j∈js,(E.ν j).ownBlock=some g:=fun g=>by
  unfold fL
  rw[Uo]
  constructor
  ·rintro⟨⟨R,v⟩,hm,hg⟩
   obtain⟨j,hj,rfl⟩:=List.mem_map.1 (ir hm).2
   exact⟨j,hj,hg⟩
  ·rintro⟨j,hj,hg⟩
   obtain⟨R,hR⟩:=rK (l:=rowsOf c) (k:=js.map E.ν) (by simp[hlen]) (List.mem_map.2 ⟨j,hj,rfl⟩)
   exact⟨(R,E.ν j),hR,hg⟩
 have wH:∀g,fL c My g→(C.w0.heap.size≤g∨C.qO g)∧¬E.O g∧(∀n B,S.b n=some B→E.β n≠g)∧∃c e,w.heap[g]? =some (Obj.cells c e (0,0)):=fun g hg=>by
  obtain⟨j,hj,xK⟩:=(B5 g).1 hg
  obtain⟨R,hR⟩:=hL.mem j hj
  obtain⟨⟨us,q1,_⟩,q2⟩:=h.rx j R hR
  obtain⟨q3,q4,q5,q6⟩:=q2 g xK
  refine⟨q3,q5,q6,?_⟩
  rcases q1.2 with⟨q7,_⟩|⟨g',cap,cur,q7,_,q8,_⟩
  ·rw[q7]at xK;cases xK
  ·rw[q7]at xK;cases xK;exact⟨_,_,q8⟩
 have keep:∀x:AV,∀v,x.holds E v→x.holds {E with M:=M'} v:=fun x v hv=>AV.bO (E:=E) (E':={E with M:=M'}) hM (fun _ _=>rfl) (fun _ _=>rfl) hv
 have SG:∀b,b<w.heap.size→(∀o,E.M b o=none)→∀o,M' b o=none:=fun b h1 h2 o=>by
  cases e:M' b o with
  |none=>rfl
  |some v=>
   rcases hn b o v e with q|q
   ·rw[h2 o]at q;cases q
   ·omega
 exact{
  wf:=h.wf
  marks:=by
   obtain⟨ds,d1,d2,d3⟩:=h.marks
   refine⟨ds,d1,d2,fun r hr=>?_⟩
   obtain⟨p1,p2,p3⟩:=d3 r hr
   refine⟨p1,p2,?_⟩
   rw[kD r (Array.getElem?_eq_some_iff.1 p3).1 (fun e=>by rw[e,IS]at p3;cases p3) (fun e=>by
    obtain⟨_,_,_,c,e2,q⟩:=wH r e
    rw[q]at p3;cases p3)]
   exact p3
  size:=h.size
  os:=hos.trans h.os
  tape:=lq.trans h.tape
  output:=hout.trans h.output
  grown:=Nat.le_trans h.grown hsize
  frame:=fun k hk hown=>by
   rw[kD k (Nat.lt_of_lt_of_le hk h.grown) (fun e=>by
    rcases IQ with q|q
    ·omega
    ·exact hown (C.Ap _ (by rw[e];exact q))) (fun e=>by
    rcases(wH k e).1 with q|q
    ·omega
    ·exact hown (C.Ap _ q))]
   exact h.frame k hk hown
  m0:=Mem.le_trans h.m0 hM
  cX:=fun b o v e=>by
   rcases hn b o v e with q|q
   ·exact h.cX b o v q
   ·exact .inr (.inl (Nat.le_trans h.grown q))
  bV:=hin
  tm:=fun s=>keep _ _ (h.tm s)
  bx:=fun j B dW=>by
   obtain⟨p1,p2,p3,vs,p4,p5⟩:=h.bx j B dW
   have hlt:=(Array.getElem?_eq_some_iff.1 p4).1
   by_cases e:j=i
   ·subst e
    rw[hB]at dW;cases dW
    refine⟨p1,ho.nb,p3,My,ho.hp,?_⟩
    exact Wg.imp (fun x _ v hv=>keep x v hv)
   ·refine⟨p1,SG _ hlt p2,p3,vs,?_,p5.imp (fun x _ v hv=>keep x v hv)⟩
    show w'.heap[E.β j]? =_
    rw[kD _ hlt (fun q=>e (h.inj j i B _ dW hB q)) (fun q=>(wH _ q).2.2.1 j B dW rfl)];exact p4
  inj:=h.inj
  rx:=fun j R hR=>by
   obtain⟨⟨vs,p1,p2⟩,p3⟩:=h.rx j R hR
   by_cases hj:j∈js
   ·have hz:(R,E.ν j)∈bk c My:=by
     rw[Uo]
     have key:∀(js:List Nat) (Rs:List Row),Lv S js Rs→j∈js→(R,E.ν j)∈Rs.zip (js.map E.ν):=by
      intro js
      induction js with
      |nil=>intro _ _ h;cases h
      |cons k js ih=>
       intro Rs hl hm
       cases Rs with
       |nil=>exact hl.elim
       |cons R' Rs=>
        rw[List.map_cons,List.zip_cons_cons]
        rcases List.mem_cons.1 hm with q|q
        ·subst q
         have:=hl.1
         rw[hR]at this;cases this
         simp
        ·exact List.mem_cons_of_mem _ (ih Rs hl.2 q)
     exact key js _ hL hj
    refine⟨kP ho.al _ hz,fun g hg=>?_⟩
    obtain⟨p4,p5,p6,p7⟩:=p3 g hg
    exact⟨p4,(ho.nr g ⟨_,hz,hg⟩).2,p6,p7⟩
   ·have Wc:∀g,(E.ν j).ownBlock=some g→¬fL c My g:=fun g hg q=>by
     obtain⟨j',hj',e⟩:=(B5 g).1 q
     obtain⟨R',nJ⟩:=hL.mem j' hj'
     have:=h.dB j j' R R' hR nJ g hg e
     subst this;exact hj hj'
    refine⟨⟨vs,cc p1 fun g hg=>kD g (iv h hR hg) (fun e=>(p3 g hg).2.2.2 i _ hB e.symm) (Wc g hg),p2.mono hM⟩,fun g hg=>?_⟩
    obtain⟨p4,p5,p6,p7⟩:=p3 g hg
    exact⟨p4,SG g (iv h hR hg) p5,p6,p7⟩
  dB:=h.dB
  fK:=h.fK
  cI:=h.cI
  iT:=fun b hb=>by
   obtain⟨p1,p2,p3⟩:=h.iT b hb
   exact⟨Nat.lt_of_lt_of_le p1 hsize,SG b p1 p2,p3⟩
  jj:=C.jf S.g S.go E.O E.M M' w w' h.jj hM hin (fun b o v e=>by
    rcases hn b o v e with q|q
    ·exact .inl q
    ·exact .inr ⟨.inl (Nat.le_trans h.grown q),fun q2=>by have:=(h.iT b q2).1;omega⟩) (fun b hb=>by
    have hb':b<w.heap.size:=by
     rcases hb with⟨q,_⟩|q
     ·exact Nat.lt_of_lt_of_le q h.grown
     ·exact(h.iT b q).1
    refine kD b hb' (fun e=>?_) (fun e=>?_)
    ·subst e
     rcases hb with⟨q1,q2⟩|q
     ·rcases IQ with p|p
      ·omega
      ·exact q2 p
     ·exact Nt q
    ·obtain⟨o1,o3,_⟩:=wH b e
     rcases hb with⟨q1,q2⟩|q
     ·rcases o1 with p|p
      ·omega
      ·exact q2 p
     ·exact o3 q) hos lq hout hsize}
theorem RT.rN(hg:Gd ops S gd rg){f:FuncId}[cz P f]{g:Operand}{xs:Array Operand}{at_:Array TypeId}{args:List AV}{T:TypeId}{c:List Oc}{res:SV}(hp:CD P f args T c res)(i:Nat)(js:List Nat)(hB:S.b i=some ⟨T,bP js c⟩)(hL:Lv S js (rowsOf c))(Py:js.Nodup)
  (Jj:args.all AV.oy=true) (hf:S.ev g=.sv (.v (.func (.func f) #[] #[]))) (hargs:th S xs.toList (args.map (AV.Pw i))) (hd:d<S.n)
  (next:RunT P C ops nd K rest (⟨rg++(ak g++xs.toList.flatMap ak),[i],js,⟨some (d,.sv res),[],[]⟩⟩::acc) (S.set d (.sv res))):RunT P C ops nd K (⟨some d,.call ⟨.value g,xs,at_⟩,ty,pos,aft,gd⟩::rest) acc S:=by
 refine .inl ⟨_,[i],js,_,?_,next⟩
 rintro S' hn ht hb hr k a w L Q ho ⟨E,h⟩ Wd
 refine bG (C:=C) ho (hg.wanted h (fun s hs=>ht s (List.mem_append_left _ hs)) rfl) ?_
 have uJ:a.eval g=.func (.func f) #[] ⟨[]⟩:=by
  have h1:=h.ev g;rw[aA (fun _ h=>List.mem_append_right _ (List.mem_append_left _ h)) ht,hf]at h1;exact h1
 have hall:=ym Jj (th.vals h hargs (fun s hs=>ht s (List.mem_append_right _ (List.mem_append_right _ hs))))
 have dW:S'.b i=some ⟨T,bP js c⟩:=by rw[hb i (by simp)];exact hB
 have Pz:Lv S' js (rowsOf c):=hL.congr (fun k hk=>hr k hk)
 obtain⟨us,Nw,zI⟩:=oS h dW Pz Py
 refine bH (C:=C) (by intro c h;cases h) (mM uJ) ?_
 rw[List.append_nil]
 refine⟨fun h=>by simp at h,fS ((hp E.M w (E.β i) _ us h.bV Nw hall).mono ?_)⟩
 rintro e w' ⟨v,M',rfl,hM,hnew,hin,hv,Ji,hos,lq,hout,hsize,kD⟩
 have h1:=h.G5 dW Pz Py Nw hM hnew hin Ji hos lq hout hsize kD
 exact Wd _ _ ⟨_,h1.put (x:=.sv res) (v:=v) hv (by show d<S'.n;omega) dN⟩
theorem RT.Nz(hg:Gd ops S gd rg){f:FuncId}[cz P f]{g:Operand}{xs:Array Operand}{at_:Array TypeId}{args:List AV}{T:TypeId}{c:List Oc}{res:SV}(hp:CD P f (.ptr 1000 0::args) T c res)(i:Nat)(js:List Nat)(hB:S.b i=some ⟨T,bP js c⟩)(hL:Lv S js (rowsOf c))(Py:js.Nodup)
  (Jj:args.all AV.oy=true) (hf:S.ev g=.cmp (.T1 f) [.box i]) (hargs:th S xs.toList (args.map (AV.Pw i))) (hd:d<S.n)
  (next:RunT P C ops nd K rest (⟨rg++(ak g++xs.toList.flatMap ak),[i],js,⟨some (d,.sv res),[],[]⟩⟩::acc) (S.set d (.sv res))):RunT P C ops nd K (⟨some d,.call ⟨.value g,xs,at_⟩,ty,pos,aft,gd⟩::rest) acc S:=by
 refine .inl ⟨_,[i],js,_,?_,next⟩
 rintro S' hn ht hb hr k a w L Q ho ⟨E,h⟩ Wd
 refine bG (C:=C) ho (hg.wanted h (fun s hs=>ht s (List.mem_append_left _ hs)) rfl) ?_
 have uJ:a.eval g=.func (.func f) ⟨[.pointer (some ⟨E.β i,0,none⟩)]⟩ #[]:=by
  have h1:=h.ev g;rw[aA (fun _ h=>List.mem_append_right _ (List.mem_append_left _ h)) ht,hf]at h1
  obtain⟨vs,h2,h3⟩:=h1
  cases vs with
  |nil=>exact h3.elim
  |cons v vs=>
   cases vs with
   |cons _ _=>exact h3.2.elim
   |nil=>rw[h2,show v=_ from h3.1];rfl
 have hall:bW (rL E.M (E.β i)) (.ptr 1000 0::args) (.pointer (some ⟨E.β i,0,none⟩)::xs.toList.map a.eval):=⟨rfl,ym Jj (th.vals h hargs (fun s hs=>ht s (List.mem_append_right _ (List.mem_append_right _ hs))))⟩
 have dW:S'.b i=some ⟨T,bP js c⟩:=by rw[hb i (by simp)];exact hB
 have Pz:Lv S' js (rowsOf c):=hL.congr (fun k hk=>hr k hk)
 obtain⟨us,Nw,zI⟩:=oS h dW Pz Py
 refine bH (C:=C) (by intro c h;cases h) (IU uJ) ?_
 refine⟨fun h=>by simp at h,fS ((hp E.M w (E.β i) _ us h.bV Nw hall).mono ?_)⟩
 rintro e w' ⟨v,M',rfl,hM,hnew,hin,hv,Ji,hos,lq,hout,hsize,kD⟩
 have h1:=h.G5 dW Pz Py Nw hM hnew hin Ji hos lq hout hsize kD
 exact Wd _ _ ⟨_,h1.put (x:=.sv res) (v:=v) hv (by show d<S'.n;omega) dN⟩
end steps
end Go.Fw
namespace Go.Proofs.YtmiflmkdaeianaaGreat
open Go.Fw
noncomputable def er(x0:Qr):Option (Zr):=match x0 with|⟨⟨aD,aB⟩,⟨cS,c8⟩⟩=>(kN 1 2).bind fun⟨⟨⟨rE,rF⟩,⟨KL,KM⟩⟩,aeF⟩=>(jY ⟨⟨aD,aB⟩,⟨cS,c8⟩⟩).bind fun⟨qy,qz⟩=>(aM 1).bind fun⟨nc,nf⟩=>(cM ⟨qy,qz⟩ ⟨nc,nf⟩).bind fun⟨Bq,Br⟩=>(dJ ⟨qy,qz⟩).bind fun⟨⟨vm,zK⟩,⟨G7,Bs⟩⟩=>(kO ⟨⟨aD,aB⟩,⟨cS,c8⟩⟩ ⟨⟨vm,zK⟩,⟨G7,Bs⟩⟩).bind fun⟨⟨nW,nX⟩,⟨qB,sX⟩⟩=>(ng ⟨⟨nW,nX⟩,⟨qB,sX⟩⟩ ⟨⟨rE,rF⟩,⟨KL,KM⟩⟩).bind fun dR=>(some (decide ((dR:Int)=(-1)))).bind fun gu=>(bif gu then some ⟨qy,qz⟩else(some (decide ((dR:Int)=1))).bind fun gx=>(bif gx then some ⟨Bq,Br⟩else(aM 2).bind fun⟨nY,nZ⟩=>(cu ⟨qy,qz⟩ ⟨nY,nZ⟩).bind fun⟨⟨SN,SO⟩,⟨KN,KO⟩,aeG⟩=>(cD ⟨KN,KO⟩).bind fun qN=>(some (decide ((qN:Int)=0))).bind fun mO=>(bif mO then some ⟨qy,qz⟩else some ⟨Bq,Br⟩)))
noncomputable def kR(x0:Int):Option (Int×(List En)):=bM (fun(ue:Bool)=>(bif ue then none else some (x0,[]))) fun K3=>(some (decide ((x0:Int)<1))).bind fun x5=>(bif x5 then some true else(some (decide ((64:Int)<x0))).bind fun x8=>some x8).bind fun zL=>K3 zL
noncomputable def cj(o0:Int)(o1:List En):Option (Bool):=bM (fun(KP:Bool)=>some KP) fun K3=>(bif false then none else(some (decide ((o0:Int)=0))).bind fun eG=>some eG).bind fun D8=>K3 D8
noncomputable def fY(o0:Int)(o1:List En)(x1:Int):Option (Bool):=bM (fun(Wh:Bool)=>some Wh) fun K3=>(some (decide ((0:Int)<x1))).bind fun x6=>(bif x6 then(some (decide ((x1:Int)<o0))).bind fun fE=>some fE else some false).bind fun PB=>K3 PB
noncomputable def jZ(x0:En)(o0:Int)(o1:List En):Option (Int):=match x0 with|⟨aD,aB,cS,⟨c8,Wi⟩⟩=>(fY o0 o1 aD).bind fun x8=>(some (!x8)).bind fun x9=>(bif x9 then some 1 else bM (fun(KQ:Bool)=>(bif KQ then some 12 else bM (fun(KR:Bool)=>(bif KR then some 1 else some 0)) fun K6=>(some (decide ((cS:Int)<(-1)))).bind fun gQ=>(bif gQ then some true else(some (decide ((8:Int)≤cS))).bind fun dR=>some dR).bind fun PC=>K6 PC)) fun K3=>(some (decide ((aB:Nat)<1))).bind fun dA=>(bif dA then some true else(some (decide ((4:Nat)<aB))).bind fun ek=>some ek).bind fun PD=>K3 PD)
noncomputable def bF(o0:Int)(o1:List En)(x1:Int)(x2:Nat)(x3:Int)(x4:Qr):Option (Int×(List En)):=match x4 with|⟨⟨ou,ow⟩,⟨D9,Ea⟩⟩=>(cj o0 o1).bind fun gp=>(bif gp then some (2,o1)else(jZ ⟨x1,x2,x3,⟨false,[]⟩⟩ o0 o1).bind fun gR=>(some (decide ((gR:Int)≠0))).bind fun dR=>(bif dR then some (gR,o1)else(some (o1.length:Int)).bind fun qm=>(some (decide ((1024:Int)≤qm))).bind fun lU=>(bif lU then some (5,o1)else(er ⟨⟨ou,ow⟩,⟨D9,Ea⟩⟩).bind fun⟨nY,nZ⟩=>(uC 56 o1 [⟨x1,x2,x3,⟨nY,nZ⟩⟩]).bind fun oc=>some (0,oc))))
noncomputable def ef(o0:Int)(o1:List En):Option (List En):=(cj o0 o1).bind fun x7=>(bif x7 then some []else(some (o1.length:Int)).bind fun dA=>(Is 56 dA (⟨0,0,0,⟨false,[]⟩⟩:En)).bind fun fE=>(some (o1.length:Int)).bind fun dQ=>(bC (fun(s8:Int×(List En))=>match s8 with|⟨qC,oU⟩=>(show Option ((Int×(List En))⊕((List En)))from(some (decide ((qC:Int)<dQ))).bind fun gQ=>(bif gQ then(qX o1 qC).bind fun gR=>(o1[gR]?).bind fun⟨nj,nk,Bt,⟨Eb,PE⟩⟩=>(cM ⟨Eb,PE⟩ ⟨false,[]⟩).bind fun⟨nO,mQ⟩=>(qX oU qC).bind fun iu=>(stM oU iu ⟨nj,nk,Bt,⟨nO,mQ⟩⟩).bind fun E7=>(some (IntKind.i64.wrap (qC+1))).bind fun iZ=>some (.inl (iZ,E7))else some (.inr oU)))) (0,fE)).bind fun jd=>some jd)
noncomputable def gZ(o0:Int)(o1:List En):Option (List Zr):=(cj o0 o1).bind fun x7=>(bif x7 then some []else(Is 32 o0 (⟨false,[]⟩:Zr)).bind fun dA=>(some (o1.length:Int)).bind fun dI=>(bC (fun(oG:Int×(List Zr))=>match oG with|⟨vn,nm⟩=>(show Option ((Int×(List Zr))⊕((List Zr)))from(some (decide ((vn:Int)<dI))).bind fun jL=>(bif jL then(qX o1 vn).bind fun gQ=>(o1[gQ]?).bind fun⟨vm,zK,G7,⟨Bs,KS⟩⟩=>(qX nm vm).bind fun jR=>(nm[jR]?).bind fun⟨xp,xq⟩=>(cM ⟨xp,xq⟩ ⟨Bs,KS⟩).bind fun⟨mR,mh⟩=>(qX nm vm).bind fun iZ=>(stM nm iZ ⟨mR,mh⟩).bind fun E8=>(qX E8 0).bind fun oH=>(E8[oH]?).bind fun⟨rC,rD⟩=>(iA ⟨rC,rD⟩ ⟨Bs,KS⟩).bind fun⟨mm,mq⟩=>(qX E8 0).bind fun vV=>(stM E8 vV ⟨mm,mq⟩).bind fun SP=>(some (IntKind.i64.wrap (vn+1))).bind fun oc=>some (.inl (oc,SP))else some (.inr nm)))) (0,dA)).bind fun nn=>some nn)
noncomputable def iD(o0:Int)(o1:List En)(x1:Nat):Option (Zr):=(cj o0 o1).bind fun eG=>(bif eG then some ⟨false,[]⟩else(some (o1.length:Int)).bind fun ek=>(bC (fun(s8:Int×Bool×(List Nat))=>match s8 with|⟨rO,ga,gb⟩=>(show Option ((Int×Bool×(List Nat))⊕(Bool×(List Nat)))from(some (decide ((rO:Int)<ek))).bind fun dQ=>(bif dQ then(qX o1 rO).bind fun jL=>(o1[jL]?).bind fun⟨ei,kH,vo,⟨qD,Bu⟩⟩=>(some (decide ((kH:Nat)=x1))).bind fun dR=>bM (fun(wJ:Bool×(List Nat))=>match wJ with|⟨nq,nu⟩=>(some (IntKind.i64.wrap (rO+1))).bind fun gx=>some (.inl (gx,nq,nu))) fun KT=>(bif dR then(cM ⟨ga,gb⟩ ⟨qD,Bu⟩).bind fun⟨zM,zN⟩=>KT (zM,zN)else KT (ga,gb))else some (.inr (ga,gb))))) (0,false,[])).bind fun e8=>match e8 with|⟨rP,rQ⟩=>some ⟨rP,rQ⟩)
end Go.Proofs.YtmiflmkdaeianaaGreat
namespace Go.Proofs.YtmiflmkdaeianaaGreat
open Go.Fw Go.Fw.Z Go.RowKit
instance:vk Tryz.prog 15:=⟨by kernel_rfl⟩
instance:vk Tryz.prog 16:=⟨by kernel_rfl⟩
instance:vk Tryz.prog 17:=⟨by kernel_rfl⟩
instance:vk Tryz.prog 25:=⟨by kernel_rfl⟩
instance:vk Tryz.prog 29:=⟨by kernel_rfl⟩
instance:vk Tryz.prog 144:=⟨by kernel_rfl⟩
theorem je{x0:Qr}{r:Zr}(h:er x0=some r):Pure Tryz.prog 18 [.agg (eQ x0)] (.agg (eZ r)):=by
 obtain⟨⟨aD,aB⟩,⟨cS,c8⟩⟩:=x0
 refine aq Tryz.func18 rfl (Nat.le_of_ble_eq_true rfl) (fun c9 M vs hvs=>?_)
 unfold er at h
 refine sr<|bx rfl<|al (cs:=[.v (.bool false),slc 1 (List.map ah [])]) (by exact⟨SV.aa _,imp_nil,trivial⟩) rfl<|dn<|sr ?_
 obtain⟨⟨⟨⟨rE,rF⟩,⟨KL,KM⟩⟩,aeF⟩,iV,h⟩:=bS h
 refine cl (xm iV) ⟨rfl,rfl,trivial⟩<|mv rfl<|ex rfl rfl<|ex rfl rfl<|al (cs:=[.v (.bool false),slc 1 (List.map ah []),.v (.bool false),slc 1 (List.map ah [])]) (by exact⟨SV.aa _,imp_nil,SV.aa _,imp_nil,trivial⟩) rfl<|so rfl rfl rfl<|ag rfl<|dn<|sr<|ld rfl rfl (.cons rfl (.cons rfl (.cons rfl (.cons rfl (.nil))))) ?_
 obtain⟨⟨qy,qz⟩,nK,h⟩:=bS h
 refine cl (AO nK) ⟨rfl,trivial⟩<|al (cs:=[.v (.bool false),slc 1 (List.map ah [])]) (by exact⟨SV.aa _,imp_nil,trivial⟩) rfl<|so rfl rfl rfl<|dn<|qq<|ai mixed<|ld rfl rfl (.cons rfl (.cons rfl (.nil))) ?_
 obtain⟨⟨nc,nf⟩,iW,h⟩:=bS h
 refine cl (bN iW) ⟨rfl,trivial⟩ ?_
 obtain⟨⟨Bq,Br⟩,iN,h⟩:=bS h
 refine cl (fg iN) ⟨rfl,rfl,trivial⟩<|al (cs:=[.v (.bool false),slc 1 (List.map ah [])]) (by exact⟨SV.aa _,imp_nil,trivial⟩) rfl<|so rfl rfl rfl ?_
 refine RT.done ⟨by kernel_rfl,?_⟩
 refine ae.n<|qq<|qq<|ai mixed<|ld rfl rfl (.cons rfl (.cons rfl (.cons rfl (.cons rfl (.nil)))))<|ld rfl rfl (.cons rfl (.cons rfl (.nil))) ?_
 obtain⟨⟨⟨vm,zK⟩,⟨G7,Bs⟩⟩,mX,h⟩:=bS h
 refine cl (sK mX) ⟨rfl,trivial⟩ ?_
 obtain⟨⟨⟨nW,nX⟩,⟨qB,sX⟩⟩,lj,h⟩:=bS h
 refine cl (D4 lj) ⟨rfl,rfl,trivial⟩<|ld rfl rfl (.cons rfl (.cons rfl (.cons rfl (.cons rfl (.nil)))))<|bE h fun dR lQ h=>cl (D5 lQ) ⟨rfl,rfl,trivial⟩ ?_
 refine RT.done ⟨by kernel_rfl,?_⟩
 refine ae.n<|ax<|sr<|lE h fun gu mD h=>eq _ rfl rfl (oN (p:=dR) (q:=(-1)) mD)<|ag rfl<|dn ?_
 cases gu
 refine cF<|sr<|lE (F h) fun gx kW h=>eq _ rfl rfl (oN (p:=dR) (q:=1) kW)<|ag rfl<|dn ?_
 cases gx
 refine cF<|aE<|aG.n<|ae.n<|qq<|qq<|ai mixed<|ld rfl rfl (.cons rfl (.cons rfl (.nil))) ?_
 obtain⟨⟨nY,nZ⟩,mu,h⟩:=bS (F h)
 refine cl (bN mu) ⟨rfl,trivial⟩ ?_
 obtain⟨⟨⟨SN,SO⟩,⟨KN,KO⟩,aeG⟩,qH,h⟩:=bS h
 refine cl (jt qH) ⟨rfl,rfl,trivial⟩<|mv rfl<|ex rfl rfl<|ex rfl rfl<|ex rfl rfl<|al (cs:=[.v (.bool false),slc 1 (List.map ah [])]) (by exact⟨SV.aa _,imp_nil,trivial⟩) rfl<|al (cs:=[.v (.bool false),slc 1 (List.map ah [])]) (by exact⟨SV.aa _,imp_nil,trivial⟩) rfl<|so rfl rfl rfl<|so rfl rfl rfl<|ag rfl ?_
 refine RT.done ⟨by kernel_rfl,?_⟩
 refine ae.n<|sr<|ld rfl rfl (.cons rfl (.cons rfl (.nil)))<|bE h fun qN Ct h=>cl (fG Ct) ⟨rfl,trivial⟩<|lE h fun mO sx h=>eq _ rfl rfl (oN (p:=qN) (q:=0) sx)<|dn ?_
 cases mO
 refine fs<|sr<|ld rfl rfl (.cons rfl (.cons rfl (.nil)))<|so rfl rfl rfl<|dn<|aj ?_
 obtain rfl:=O (F h)
 exact RZ (.agg rfl rfl (.cons rfl (.cons rfl (.nil))) rfl (.nil))
 refine cT<|sr<|ld rfl rfl (.cons rfl (.cons rfl (.nil)))<|so rfl rfl rfl<|dn<|aj<|ae.r ?_
 obtain rfl:=O (V h)
 exact RZ (.agg rfl rfl (.cons rfl (.cons rfl (.nil))) rfl (.nil))
 refine cT<|sr<|ld rfl rfl (.cons rfl (.cons rfl (.nil)))<|so rfl rfl rfl<|dn<|aj<|aG.r<|ae.r ?_
 obtain rfl:=O (V h)
 exact RZ (.agg rfl rfl (.cons rfl (.cons rfl (.nil))) rfl (.nil))
 refine cT<|sr<|ld rfl rfl (.cons rfl (.cons rfl (.nil)))<|so rfl rfl rfl<|dn<|aj<|aG.r<|ae.r ?_
 obtain rfl:=O (V h)
 exact RZ (.agg rfl rfl (.cons rfl (.cons rfl (.nil))) rfl (.nil))
theorem xu{x0:Int}{r:Int×(List En)}(h:kR x0=some r):Ny Tryz.prog 6 [.v (.int .i64 x0)] true [.v (.int .i64 0)] 56 [.s (.v (.int .i64 r.1)),.r (TR 61 5 dH r.2)]:=by
 refine xo (t1:=2) (t2:=3) Tryz.func6 rfl (Nat.le_of_ble_eq_true rfl) rfl (fun c9 M vs hvs=>?_)
 unfold kR at h
 refine sr<|ag rfl<|ag rfl<|dn<|qq<|qq ?_
 refine aC h (fun j3=>AS.bL 13 [(0,.sv (.v (.int .i64 x0))),(9,.sv (.v (.bool j3)))] [] []) (fun h=>?_) (fun ue h=>?_)
 refine af<|mv rfl<|lE h fun x5 h5 h=>ls _ rfl rfl h5<|mv rfl<|bE h fun zL kG h=>?_
 cases x5
 refine gm rfl<|lE (F kG) fun x8 h8 kG=>gg _ rfl rfl h8 ?_
 obtain rfl:=O kG
 exact pF rfl<|dn<|⟨x8,h,wR []⟩
 obtain rfl:=O (V kG)
 exact ww<|ww<|pT rfl<|dn<|⟨true,h,wR []⟩
 try dsimp only
 refine ae.n ?_
 cases ue
 refine fs<|sr<|mv rfl<|bI (cs:=[_,_]) (cs':=[.v (.int .i64 x0),.v (.slice none 0 0)]) (.one rfl (.nil)) ⟨SV.aa _,SV.aa _,trivial⟩<|bx rfl<|an (s:=.ptr _ _) rfl<|ag rfl<|dn<|bq (Bg 12 1 302 61 5 rfl rfl rfl T)<|aj ?_
 obtain rfl:=O (F h)
 exact⟨.inr rfl,12,[302],rfl,rfl,rfl,⟨rfl,trivial⟩,by decide⟩
 refine cT<|sr<|ag rfl<|ag rfl<|dn<|aj<|ae.r ?_
 replace h:=V h
 cases h
theorem gJ{o0:Int}{o1:List En}{r:Bool}(h:cj o0 o1=some r):CD Tryz.prog 20 [.ptr 1000 0] 56 [.s (.v (.int .i64 o0)),.r (TR 61 5 dH o1)] (.v (.bool r)):=by
 refine kQ [1001] Tryz.func20 rfl (Nat.le_of_ble_eq_true rfl) rfl (by decide) rfl rfl ⟨⟨_,rfl⟩,trivial,trivial⟩ (fun c9 M β us=>?_)
 unfold cj at h
 refine sr<|ag rfl<|dn<|qq ?_
 refine aC h (fun j3=>AS.bL 12 [(2,.sv (.v (.bool j3)))] [(1000,⟨56,[.sv (.v (.int .i64 o0)),.row 1001]⟩)] [(1001,TR 61 5 dH o1)]) (fun h=>?_) (fun KP h=>?_)
 refine af<|mo (s:=.ptr _ _) rfl<|RT.KI .none rfl rfl T<|mv rfl<|bE h fun D8 kG h=>RT.move (.some rfl rfl) (s:=.ptr _ _) rfl T<|RT.dY (.some rfl rfl) rfl T<|RT.fieldAddr (.some rfl rfl) rfl T rfl<|RT.OW (.some rfl rfl) rfl rfl rfl T<|lE (F kG) fun eG gG kG=>DO _ rfl rfl (oN (p:=o0) (q:=0) gG) ?_
 obtain rfl:=O kG
 exact pF rfl<|ag rfl<|dn<|⟨eG,h,wR []⟩
 try dsimp only
 refine ae.n<|aj ?_
 obtain rfl:=O h
 exact⟨.inr rfl,cg (.tmp rfl (.nil)) (SV.aa _),rfl,⟨rfl,trivial⟩⟩
theorem vp{o0:Int}{o1:List En}{x1:Int}{r:Bool}(h:fY o0 o1 x1=some r):CD Tryz.prog 22 [.ptr 1000 0,.sv (.v (.int .i64 x1))] 56 [.s (.v (.int .i64 o0)),.r (TR 61 5 dH o1)] (.v (.bool r)):=by
 refine kQ [1001] Tryz.func22 rfl (Nat.le_of_ble_eq_true rfl) rfl (by decide) rfl rfl ⟨⟨_,rfl⟩,trivial,trivial⟩ (fun c9 M β us=>?_)
 unfold fY at h
 refine sr<|ag rfl<|dn<|qq ?_
 refine aC h (fun j3=>AS.bL 15 [(4,.sv (.v (.bool j3)))] [(1000,⟨56,[.sv (.v (.int .i64 o0)),.row 1001]⟩)] [(1001,TR 61 5 dH o1)]) (fun h=>?_) (fun Wh h=>?_)
 refine af<|mv rfl<|lE h fun x6 h6 h=>gt _ rfl rfl h6<|mv rfl<|bE h fun PB kG h=>?_
 cases x6
 obtain rfl:=O (F kG)
 exact ww<|ww<|ww<|ww<|ww<|ww<|pF rfl<|ag rfl<|dn<|⟨false,h,wR []⟩
 refine gm rfl<|RT.move (.some rfl rfl) (s:=.ptr _ _) rfl T<|RT.dY (.some rfl rfl) rfl T<|RT.fieldAddr (.some rfl rfl) rfl T rfl<|RT.OW (.some rfl rfl) rfl rfl rfl T<|lE (V kG) fun fE jy kG=>RT.lss (.some rfl rfl) _ rfl rfl T jy ?_
 obtain rfl:=O kG
 exact pT rfl<|ag rfl<|dn<|⟨fE,h,wR []⟩
 try dsimp only
 refine ae.n<|aj ?_
 obtain rfl:=O h
 exact⟨.inr rfl,cg (.tmp rfl (.nil)) (SV.aa _),rfl,⟨rfl,trivial⟩⟩
theorem AP{x0:En}{o0:Int}{o1:List En}{r:Int}(h:jZ x0 o0 o1=some r):CD Tryz.prog 21 [.sv (.agg (dH x0)),.cmp (.T1 22) [.box 1000]] 56 [.s (.v (.int .i64 o0)),.r (TR 61 5 dH o1)] (.v (.int .i64 r)):=by
 obtain⟨aD,aB,cS,⟨c8,Wi⟩⟩:=x0
 refine kQ [1001] Tryz.func21 rfl (Nat.le_of_ble_eq_true rfl) rfl (by decide) rfl rfl ⟨⟨_,rfl⟩,trivial,trivial⟩ (fun c9 M β us=>?_)
 unfold jZ at h
 refine sr<|bx rfl<|ag rfl<|dn<|qq<|sr<|mo (s:=.cmp _ _) rfl<|fa rfl rfl<|lV rfl rfl rfl<|bE h fun x8 h8 h=>RT.Nz .none (vp h8) 1000 [1001] rfl ⟨rfl,trivial⟩ (by decide) rfl rfl (.cons rfl (.nil)) T<|lE h fun x9 h9 h=>nt rfl _ h9<|dn ?_
 cases x9
 refine fs<|qq<|qq ?_
 refine aC (F h) (fun j3=>AS.bL 26 [(2,.ptr 2 0),(17,.sv (.v (.bool j3)))] [(1000,⟨56,[.sv (.v (.int .i64 o0)),.row 1001]⟩),(2,⟨61,[.sv (.v (.int .i64 aD)),.sv (.v (.int .u8 ((aB:Nat):Int))),.sv (.v (.int .i64 cS)),.sv (.v (.bool c8)),.sv (slc 1 (List.map ah Wi))]⟩)] [(1001,TR 61 5 dH o1)]) (fun h=>?_) (fun KQ h=>?_)
 refine af<|fa rfl rfl<|lV rfl rfl rfl<|lE h fun dA gX h=>ls _ rfl rfl (O1 (p:=aB) (q:=1) gX)<|mv rfl<|bE h fun PD Nq h=>?_
 cases dA
 refine RT.fieldAddr (.some rfl rfl) rfl T rfl<|RT.OW (.some rfl rfl) rfl rfl rfl T<|lE (F Nq) fun ek jz Nq=>gg _ rfl rfl (O1 (p:=4) (q:=aB) jz) ?_
 obtain rfl:=O Nq
 exact pF rfl<|dn<|⟨ek,h,wR []⟩
 obtain rfl:=O (V Nq)
 exact ww<|ww<|ww<|pT rfl<|dn<|⟨true,h,wR []⟩
 try dsimp only
 refine ae.n ?_
 cases KQ
 refine fs<|qq<|qq ?_
 refine aC (F h) (fun j6=>AS.bL 26 [(25,.sv (.v (.bool j6)))] [(1000,⟨56,[.sv (.v (.int .i64 o0)),.row 1001]⟩)] [(1001,TR 61 5 dH o1)]) (fun h=>?_) (fun KR h=>?_)
 refine af<|fa rfl rfl<|lV rfl rfl rfl<|lE h fun gQ kE h=>ls _ rfl rfl kE<|mv rfl<|bE h fun PC hg7 h=>?_
 cases gQ
 refine RT.fieldAddr (.some rfl rfl) rfl T rfl<|RT.OW (.some rfl rfl) rfl rfl rfl T<|lE (F hg7) fun dR lQ hg7=>RT.geq (.some rfl rfl) _ rfl rfl T lQ ?_
 obtain rfl:=O hg7
 exact pF rfl<|dn<|⟨dR,h,wR []⟩
 obtain rfl:=O (V hg7)
 exact ww<|ww<|ww<|pT rfl<|dn<|⟨true,h,wR []⟩
 try dsimp only
 refine ae.n ?_
 cases KR
 refine fs<|sr<|ag rfl<|dn<|aj ?_
 obtain rfl:=O (F h)
 exact⟨.inr rfl,cg (.tmp rfl (.nil)) (SV.aa _),rfl,⟨rfl,trivial⟩⟩
 refine cT<|sr<|ag rfl<|dn<|aj<|ae.r ?_
 obtain rfl:=O (V h)
 exact⟨.inr rfl,cg (.tmp rfl (.nil)) (SV.aa _),rfl,⟨rfl,trivial⟩⟩
 refine cT<|sr<|ag rfl<|dn<|aj<|ae.r ?_
 obtain rfl:=O (V h)
 exact⟨.inr rfl,cg (.tmp rfl (.nil)) (SV.aa _),rfl,⟨rfl,trivial⟩⟩
 refine cT<|sr<|ag rfl<|dn<|aj<|ae.r ?_
 obtain rfl:=O (V h)
 exact⟨.inr rfl,cg (.tmp rfl (.nil)) (SV.aa _),rfl,⟨rfl,trivial⟩⟩
theorem dj{o0:Int}{o1:List En}{x1:Int}{x2:Nat}{x3:Int}{x4:Qr}{r:Int×(List En)}(h:bF o0 o1 x1 x2 x3 x4=some r):Nu Tryz.prog 8 [.ptr 1000 0,.sv (.v (.int .i64 x1)),.sv (.v (.int .u8 ((x2:Nat):Int))),.sv (.v (.int .i64 x3)),.sv (.agg (eQ x4))] 56 [.s (.v (.int .i64 o0)),.r (TR 61 5 dH o1)] (.v (.int .i64 r.1)) [.s (.v (.int .i64 o0)),.r (TR 61 5 dH r.2)]:=by
 obtain⟨⟨ou,ow⟩,⟨D9,Ea⟩⟩:=x4
 refine zH [1001] Tryz.func8 rfl (Nat.le_of_ble_eq_true rfl) rfl (by decide) rfl (fun c9 M β us=>?_)
 unfold bF at h
 refine sr<|bx rfl<|ag rfl<|dn<|qq<|sr<|mo (s:=.ptr _ _) rfl<|bE h fun gp kU h=>RT.rN .none (gJ kU) 1000 [1001] rfl ⟨rfl,trivial⟩ (by decide) rfl rfl (.cons rfl (.nil)) T<|dn ?_
 cases gp
 refine fs<|sr<|mv rfl<|mv rfl<|mv rfl<|bI (cs:=[_,_,_,_,_]) (cs':=[.v (.int .i64 x1),.v (.int .u8 ((x2:Nat):Int)),.v (.int .i64 x3),.v (.bool false),slc 1 (List.map ah [])]) (.one rfl (.one rfl (.one rfl (.nil)))) ⟨SV.aa _,SV.aa _,SV.aa _,SV.aa _,imp_nil,trivial⟩<|al (cs:=[.v (.int .i64 0),.v (.int .u8 ((0:Nat):Int)),.v (.int .i64 0),.v (.bool false),slc 1 (List.map ah [])]) (by exact⟨SV.aa _,SV.aa _,SV.aa _,SV.aa _,imp_nil,trivial⟩) rfl ?_
 refine so rfl rfl rfl<|dn<|qq<|sr<|ld rfl rfl (.cons rfl (.cons rfl (.cons rfl (.cons rfl (.cons rfl (.nil))))))<|mo (s:=.ptr _ _) rfl<|RT.Nx .none rfl T<|bE (F h) fun gR lj h=>RT.rN .none (AP lj) 1000 [1001] rfl ⟨rfl,trivial⟩ (by decide) rfl rfl (.cons rfl (.cons rfl (.nil))) T<|ag rfl<|dn<|sr<|mv rfl<|lE h fun dR lQ h=>ne _ rfl rfl (It (p:=gR) (q:=0) lQ)<|dn ?_
 cases dR
 refine fs<|qq<|sr<|mo (s:=.ptr _ _) rfl<|RT.dY .none rfl T<|fa rfl rfl<|RT.iw .none (s:=.row _) rfl rfl rfl T<|lE (F h) fun qm vc h=>lL rfl rfl vc<|lE h fun lU sV h=>ge _ rfl rfl sV<|dn ?_
 cases lU
 refine fs<|sr<|ld rfl rfl (.cons rfl (.cons rfl (.cons rfl (.cons rfl (.nil))))) ?_
 obtain⟨⟨nY,nZ⟩,mu,h⟩:=bS (F h)
 refine cl (je mu) ⟨rfl,trivial⟩<|fa rfl rfl<|RT.B3 (cells:=[_,_,_,_,_]) .none rfl rfl rfl rfl T rfl<|dn<|qq<|ai mixed<|mo (s:=.ptr _ _) rfl<|mo (s:=.ptr _ _) rfl<|RT.dY .none rfl T<|fa rfl rfl<|RT.iw .none (s:=.row _) rfl rfl rfl T<|ld rfl rfl (.cons rfl (.cons rfl (.cons rfl (.cons rfl (.cons rfl (.nil))))))<|bl (l:=[⟨x1,x2,x3,⟨nY,nZ⟩⟩]) (e:=dH) (.agg rfl (.nil)) rfl rfl rfl rfl rfl rfl ?_
 refine bE h fun oc zx h=>aR (k:=[⟨x1,x2,x3,⟨nY,nZ⟩⟩]) (e:=dH) rfl rfl rfl zx<|RT.dY .none rfl T<|fa rfl rfl<|RT.n7 (cells:=[_,_]) .none rfl rfl rfl rfl T rfl ?_
 refine RT.done ⟨by kernel_rfl,?_⟩
 refine ae.n<|sr<|ag rfl<|dn<|aj ?_
 obtain rfl:=O h
 exact⟨.inr rfl,cg (.tmp rfl (.nil)) (SV.aa _),[42],rfl,⟨rfl,trivial⟩,by decide⟩
 refine cT<|sr<|ag rfl<|dn<|aj<|ae.r ?_
 obtain rfl:=O (V h)
 exact⟨.inr rfl,cg (.tmp rfl (.nil)) (SV.aa _),[1001],rfl,⟨rfl,trivial⟩,by decide⟩
 refine cT<|sr<|mv rfl<|ag rfl<|dn<|aj<|ae.r ?_
 obtain rfl:=O (V h)
 exact⟨.inr rfl,cg (.tmp rfl (.nil)) (SV.aa _),[1001],rfl,⟨rfl,trivial⟩,by decide⟩
 refine cT<|sr<|ag rfl<|dn<|aj<|ae.r ?_
 obtain rfl:=O (V h)
 exact⟨.inr rfl,cg (.tmp rfl (.nil)) (SV.aa _),[1001],rfl,⟨rfl,trivial⟩,by decide⟩
theorem rR{o0:Int}{o1:List En}{r:List En}(h:ef o0 o1=some r):CD Tryz.prog 12 [.ptr 1000 0] 56 [.s (.v (.int .i64 o0)),.r (TR 61 5 dH o1)] (slc 5 (List.map dH r)):=by
 refine kQ [1001] Tryz.func12 rfl (Nat.le_of_ble_eq_true rfl) rfl (by decide) rfl rfl ⟨⟨_,rfl⟩,trivial,trivial⟩ (fun c9 M β us=>?_)
 unfold ef at h
 refine sr<|aI rfl (imp_nil (n:=5) (e:=dH))<|dn<|qq<|sr<|mo (s:=.ptr _ _) rfl<|bE h fun x7 h7 h=>RT.rN .none (gJ h7) 1000 [1001] rfl ⟨rfl,trivial⟩ (by decide) rfl rfl (.cons rfl (.nil)) T<|dn ?_
 cases x7
 refine fs<|sr<|mo (s:=.ptr _ _) rfl<|RT.dY .none rfl T<|fa rfl rfl<|RT.iw .none (s:=.row _) rfl rfl rfl T<|lE (F h) fun dA gX h=>lL rfl rfl gX<|bE h fun fE jy h=>RT.uU (n:=5) (e:=dH) .none rfl rfl T rfl T (by rfl) (by decide) (by exact⟨SV.aa _,SV.aa _,SV.aa _,SV.aa _,imp_nil,trivial⟩) jy<|an (s:=.row _) rfl<|dn<|qq<|sr<|mo (s:=.ptr _ _) rfl<|RT.dY .none rfl T ?_
 refine fa rfl rfl<|RT.iw .none (s:=.row _) rfl rfl rfl T<|lE h fun dQ iN h=>lL rfl rfl iN<|mv rfl<|dn<|bE h fun e8 Cp tN=>?_
 refine aP (fun(jd:(List En))=>AS.bL 35 [(3,.row 13)] [(1000,⟨56,[.sv (.v (.int .i64 o0)),.row 1001]⟩)] [(13,TR 61 5 dH jd),(1001,TR 61 5 dH o1)]) (fun jd=>jd=e8) ?_ (fun jd Cq=>?_)
 refine ax ?_
 refine aQ Cp (fun s8=>AS.bL 35 [(3,.row 13),(17,.row 1001),(18,.sv (.v (.int .i64 dQ))),(19,.sv (.v (.int .i64 s8.1)))] [(1000,⟨56,[.sv (.v (.int .i64 o0)),.row 1001]⟩)] [(13,TR 61 5 dH s8.2),(1001,TR 61 5 dH o1)]) (wR []) (fun s8 y8 G8 h Cr Cs=>?_)
 obtain⟨qC,oU⟩:=s8
 try dsimp only
 refine sr<|lE h fun gQ kE h=>ls _ rfl rfl kE<|dn<|qq ?_
 cases gQ
 refine cF<|aW<|ae.x<|ae.x<|aG.x<|ae.n ?_
 obtain rfl:=O (F h)
 exact⟨oU,Cs _ rfl,wR []⟩
 refine cT<|aE<|ae.n<|qq<|ax<|sr<|mv rfl<|bE (V h) fun gR lj h=>iR rfl rfl rfl lj ?_
 obtain⟨⟨nj,nk,Bt,⟨Eb,PE⟩⟩,mB,h⟩:=bS h
 refine lA rfl rfl mB<|al (cs:=[.v (.int .i64 0),.v (.int .u8 ((0:Nat):Int)),.v (.int .i64 0),.v (.bool false),slc 1 (List.map ah [])]) (by exact⟨SV.aa _,SV.aa _,SV.aa _,SV.aa _,imp_nil,trivial⟩) rfl<|ag rfl<|so rfl rfl rfl<|dn<|sr<|fa rfl rfl<|ld rfl rfl (.cons rfl (.cons rfl (.nil)))<|bI (cs:=[_,_]) (cs':=[.v (.bool false),slc 1 (List.map ah [])]) (.nil) ⟨SV.aa _,imp_nil,trivial⟩ ?_
 obtain⟨⟨nO,mQ⟩,nI,h⟩:=bS h
 refine cl (fg nI) ⟨rfl,rfl,trivial⟩<|fa rfl rfl<|RT.B3 (cells:=[_,_,_,_,_]) .none rfl rfl rfl rfl T rfl<|dn<|af<|mo (s:=.row _) rfl<|mv rfl<|ld rfl rfl (.cons rfl (.cons rfl (.cons rfl (.cons rfl (.cons rfl (.nil))))))<|bE h fun iu lY h=>iR rfl rfl rfl lY<|bE h fun E7 zy h=>sA ⟨nj,nk,Bt,⟨nO,mQ⟩⟩ rfl rfl rfl zy<|RT.done<|aG.n<|ae.n<|af<|lE h fun iZ mu h=>ad _ rfl rfl mu<|mv rfl ?_
 refine RT.done ?_
 obtain rfl:=O h
 exact ae.n ⟨(iZ,E7),Cr _ rfl,wR []⟩
 subst Cq
 try dsimp only
 refine ae.n<|sr<|mo (s:=.row _) rfl<|an (s:=.row _) rfl<|dn<|bq (b8 (i:=13) (E1:=61) (n:=5) (e:=dH) (l:=jd) rfl)<|aj ?_
 obtain rfl:=O tN
 exact⟨.inr rfl,cg (.tmp rfl (.nil)) (SV.aa _),rfl,⟨rfl,trivial⟩⟩
 refine cT<|sr<|aI rfl (imp_nil (n:=5) (e:=dH))<|dn<|aj<|ae.r ?_
 obtain rfl:=O (V h)
 exact⟨.inr rfl,cg (.tmp rfl (.nil)) (SV.aa _),rfl,⟨rfl,trivial⟩⟩
theorem wK{o0:Int}{o1:List En}{r:List Zr}(h:gZ o0 o1=some r):CD Tryz.prog 16 [.ptr 1000 0] 56 [.s (.v (.int .i64 o0)),.r (TR 61 5 dH o1)] (slc 2 (List.map eZ r)):=by
 refine kQ [1001] Tryz.func16 rfl (Nat.le_of_ble_eq_true rfl) rfl (by decide) rfl rfl ⟨⟨_,rfl⟩,trivial,trivial⟩ (fun c9 M β us=>?_)
 unfold gZ at h
 refine sr<|aI rfl (imp_nil (n:=2) (e:=eZ))<|dn<|qq<|sr<|mo (s:=.ptr _ _) rfl<|bE h fun x7 h7 h=>RT.rN .none (gJ h7) 1000 [1001] rfl ⟨rfl,trivial⟩ (by decide) rfl rfl (.cons rfl (.nil)) T<|dn ?_
 cases x7
 refine fs<|sr<|mo (s:=.ptr _ _) rfl<|RT.dY .none rfl T<|fa rfl rfl<|lV rfl rfl rfl<|bE (F h) fun dA gX h=>RT.uU (n:=2) (e:=eZ) .none rfl rfl T rfl T (by rfl) (by decide) (by exact⟨SV.aa _,imp_nil,trivial⟩) gX<|an (s:=.row _) rfl<|dn<|qq<|sr<|mo (s:=.ptr _ _) rfl<|RT.dY .none rfl T<|fa rfl rfl<|RT.iw .none (s:=.row _) rfl rfl rfl T<|lE h fun dI iW h=>lL rfl rfl iW ?_
 refine mv rfl<|dn<|bE h fun DV tJ oh=>?_
 refine aP (fun(nn:(List Zr))=>AS.bL 44 [(3,.row 12)] [(1000,⟨56,[.sv (.v (.int .i64 o0)),.row 1001]⟩)] [(12,TR 35 2 eZ nn),(1001,TR 61 5 dH o1)]) (fun nn=>nn=DV) ?_ (fun nn tK=>?_)
 refine ax ?_
 refine aQ tJ (fun oG=>AS.bL 44 [(3,.row 12),(16,.row 1001),(17,.sv (.v (.int .i64 dI))),(18,.sv (.v (.int .i64 oG.1)))] [(1000,⟨56,[.sv (.v (.int .i64 o0)),.row 1001]⟩)] [(12,TR 35 2 eZ oG.2),(1001,TR 61 5 dH o1)]) (wR []) (fun oG RN RO h tL sH=>?_)
 obtain⟨vn,nm⟩:=oG
 try dsimp only
 refine sr<|lE h fun jL mW h=>ls _ rfl rfl mW<|dn<|qq ?_
 cases jL
 refine cF<|aW<|ae.x<|ae.x<|aG.x<|ae.n ?_
 obtain rfl:=O (F h)
 exact⟨nm,sH _ rfl,wR []⟩
 refine cT<|aE<|ae.n<|qq<|ax<|sr<|bE (V h) fun gQ kE h=>iR rfl rfl rfl kE ?_
 obtain⟨⟨vm,zK,G7,⟨Bs,KS⟩⟩,mX,h⟩:=bS h
 refine lA rfl rfl mX<|al (cs:=[.v (.int .i64 0),.v (.int .u8 ((0:Nat):Int)),.v (.int .i64 0),.v (.bool false),slc 1 (List.map ah [])]) (by exact⟨SV.aa _,SV.aa _,SV.aa _,SV.aa _,imp_nil,trivial⟩) rfl<|so rfl rfl rfl<|dn<|qq<|ai mixed<|mo (s:=.row _) rfl<|fa rfl rfl<|lV rfl rfl rfl<|mo (s:=.row _) rfl<|fa rfl rfl<|lV rfl rfl rfl<|bE h fun jR ru h=>iR rfl rfl rfl ru ?_
 obtain⟨⟨xp,xq⟩,kW,h⟩:=bS h
 refine lA rfl rfl kW<|fa rfl rfl<|ld rfl rfl (.cons rfl (.cons rfl (.nil))) ?_
 obtain⟨⟨mR,mh⟩,lY,h⟩:=bS h
 refine cl (fg lY) ⟨rfl,rfl,trivial⟩<|bE h fun iZ mu h=>iR rfl rfl rfl mu<|bE h fun E8 KU h=>sA ⟨mR,mh⟩ rfl rfl rfl KU ?_
 refine RT.done ⟨by kernel_rfl,?_⟩
 refine ae.n<|ai mixed<|mo (s:=.row _) rfl<|mo (s:=.row _) rfl<|bE h fun oH qI h=>iR rfl rfl rfl qI ?_
 obtain⟨⟨rC,rD⟩,xR,h⟩:=bS h
 refine lA rfl rfl xR<|fa rfl rfl<|ld rfl rfl (.cons rfl (.cons rfl (.nil))) ?_
 obtain⟨⟨mm,mq⟩,sx,h⟩:=bS h
 refine cl (pU sx) ⟨rfl,rfl,trivial⟩<|bE h fun vV Cm h=>iR rfl rfl rfl Cm<|bE h fun SP KV h=>sA ⟨mm,mq⟩ rfl rfl rfl KV ?_
 refine RT.done ⟨by kernel_rfl,?_⟩
 refine aG.n<|ae.n<|af<|lE h fun oc zx h=>ad _ rfl rfl zx<|mv rfl<|RT.done ?_
 obtain rfl:=O h
 exact ae.n ⟨(oc,SP),tL _ rfl,wR []⟩
 subst tK
 try dsimp only
 refine ae.n<|sr<|mo (s:=.row _) rfl<|an (s:=.row _) rfl<|dn<|bq (b8 (i:=12) (E1:=35) (n:=2) (e:=eZ) (l:=nn) rfl)<|aj ?_
 obtain rfl:=O oh
 exact⟨.inr rfl,cg (.tmp rfl (.nil)) (SV.aa _),rfl,⟨rfl,trivial⟩⟩
 refine cT<|sr<|aI rfl (imp_nil (n:=2) (e:=eZ))<|dn<|aj<|ae.r ?_
 obtain rfl:=O (V h)
 exact⟨.inr rfl,cg (.tmp rfl (.nil)) (SV.aa _),rfl,⟨rfl,trivial⟩⟩
theorem xV{o0:Int}{o1:List En}{x1:Nat}{r:Zr}(h:iD o0 o1 x1=some r):CD Tryz.prog 19 [.ptr 1000 0,.sv (.v (.int .u8 ((x1:Nat):Int)))] 56 [.s (.v (.int .i64 o0)),.r (TR 61 5 dH o1)] (.agg (eZ r)):=by
 refine kQ [1001] Tryz.func19 rfl (Nat.le_of_ble_eq_true rfl) rfl (by decide) rfl rfl ⟨⟨_,rfl⟩,trivial,trivial⟩ (fun c9 M β us=>?_)
 unfold iD at h
 refine sr<|al (cs:=[.v (.bool false),slc 1 (List.map ah [])]) (by exact⟨SV.aa _,imp_nil,trivial⟩) rfl<|dn<|sr<|bI (cs:=[_,_]) (cs':=[.v (.bool false),slc 1 (List.map ah [])]) (.nil) ⟨SV.aa _,imp_nil,trivial⟩<|al (cs:=[.v (.bool false),slc 1 (List.map ah [])]) (by exact⟨SV.aa _,imp_nil,trivial⟩) rfl<|so rfl rfl rfl<|dn<|qq<|sr<|mo (s:=.ptr _ _) rfl<|bE h fun eG gG h=>RT.rN .none (gJ gG) 1000 [1001] rfl ⟨rfl,trivial⟩ (by decide) rfl rfl (.cons rfl (.nil)) T ?_
 refine dn ?_
 cases eG
 refine fs<|qq<|sr<|mo (s:=.ptr _ _) rfl<|RT.dY .none rfl T<|fa rfl rfl<|RT.iw .none (s:=.row _) rfl rfl rfl T<|lE (F h) fun ek jz h=>lL rfl rfl jz<|mv rfl<|dn<|bE h fun e8 Cp tN=>?_
 refine aP (fun(oR:Bool×(List Nat))=>AS.bL 31 [(4,.ptr 4 0),(5,.ptr 5 0)] [(1000,⟨56,[.sv (.v (.int .i64 o0)),.row 1001]⟩),(5,⟨35,[.sv (.v (.bool oR.1)),.sv (slc 1 (List.map ah oR.2))]⟩),(4,⟨35,[.sv (.v (.bool false)),.sv (slc 1 (List.map ah []))]⟩)] [(1001,TR 61 5 dH o1)]) (fun oR=>oR=e8) ?_ (fun oR Cq=>?_)
 refine ax ?_
 refine aQ Cp (fun s8=>AS.bL 31 [(1,.sv (.v (.int .u8 ((x1:Nat):Int)))),(4,.ptr 4 0),(5,.ptr 5 0),(15,.row 1001),(16,.sv (.v (.int .i64 ek))),(17,.sv (.v (.int .i64 s8.1)))] [(1000,⟨56,[.sv (.v (.int .i64 o0)),.row 1001]⟩),(5,⟨35,[.sv (.v (.bool s8.2.1)),.sv (slc 1 (List.map ah s8.2.2))]⟩),(4,⟨35,[.sv (.v (.bool false)),.sv (slc 1 (List.map ah []))]⟩)] [(1001,TR 61 5 dH o1)]) (wR []) (fun s8 y8 G8 h Cr Cs=>?_)
 obtain⟨rO,ga,gb⟩:=s8
 try dsimp only
 refine sr<|lE h fun dQ iN h=>ls _ rfl rfl iN<|dn<|qq ?_
 cases dQ
 refine cF<|aW<|ae.x<|ae.x<|aG.x<|ae.n ?_
 obtain rfl:=O (F h)
 exact⟨(ga,gb),Cs _ rfl,wR []⟩
 refine cT<|aE<|ae.n<|qq<|ax<|sr<|bE (V h) fun jL mW h=>iR rfl rfl rfl mW ?_
 obtain⟨⟨ei,kH,vo,⟨qD,Bu⟩⟩,kE,h⟩:=bS h
 refine lA rfl rfl kE<|al (cs:=[.v (.int .i64 0),.v (.int .u8 ((0:Nat):Int)),.v (.int .i64 0),.v (.bool false),slc 1 (List.map ah [])]) (by exact⟨SV.aa _,SV.aa _,SV.aa _,SV.aa _,imp_nil,trivial⟩) rfl<|so rfl rfl rfl<|dn<|sr<|fa rfl rfl<|lV rfl rfl rfl<|mv rfl<|lE h fun dR lQ h=>eq _ rfl rfl (MW (p:=kH) (q:=x1) lQ)<|dn ?_
 refine aC h (fun wJ=>AS.bL 31 [(1,.sv (.v (.int .u8 ((x1:Nat):Int)))),(4,.ptr 4 0),(5,.ptr 5 0),(15,.row 1001),(16,.sv (.v (.int .i64 ek))),(17,.sv (.v (.int .i64 rO)))] [(1000,⟨56,[.sv (.v (.int .i64 o0)),.row 1001]⟩),(5,⟨35,[.sv (.v (.bool wJ.1)),.sv (slc 1 (List.map ah wJ.2))]⟩),(4,⟨35,[.sv (.v (.bool false)),.sv (slc 1 (List.map ah []))]⟩)] [(1001,TR 61 5 dH o1)]) (fun h=>?_) (fun wJ h=>?_)
 cases dR
 exact fs<|⟨(ga,gb),(F h),wR []⟩
 refine cT<|af<|ld rfl rfl (.cons rfl (.cons rfl (.nil)))<|fa rfl rfl<|ld rfl rfl (.cons rfl (.cons rfl (.nil))) ?_
 obtain⟨⟨zM,zN⟩,ru,h⟩:=bS (V h)
 exact cl (fg ru) ⟨rfl,rfl,trivial⟩<|so rfl rfl rfl<|dn<|⟨(zM,zN),h,wR []⟩
 obtain⟨nq,nu⟩:=wJ
 try dsimp only
 refine aG.n<|ae.n<|af<|lE h fun gx kW h=>ad _ rfl rfl kW<|mv rfl<|RT.done ?_
 obtain rfl:=O h
 exact ae.n ⟨(gx,nq,nu),Cr _ rfl,wR []⟩
 subst Cq
 obtain⟨rP,rQ⟩:=oR
 try dsimp only
 refine ae.n<|sr<|ld rfl rfl (.cons rfl (.cons rfl (.nil)))<|so rfl rfl rfl<|dn<|aj ?_
 obtain rfl:=O tN
 exact⟨.inr rfl,cg (.agg rfl rfl (.cons rfl (.cons rfl (.nil))) rfl (.nil)) (SV.aa _),rfl,⟨rfl,trivial⟩⟩
 refine cT<|sr<|ld rfl rfl (.cons rfl (.cons rfl (.nil)))<|so rfl rfl rfl<|dn<|aj<|ae.r ?_
 obtain rfl:=O (V h)
 exact⟨.inr rfl,cg (.agg rfl rfl (.cons rfl (.cons rfl (.nil))) rfl (.nil)) (SV.aa _),rfl,⟨rfl,trivial⟩⟩
end Go.Proofs.YtmiflmkdaeianaaGreat
namespace Go.Proofs.YtmiflmkdaeianaaGreat
open Go.Fw
noncomputable def bY(x0:List Int):Option (List Int):=(some (x0.length:Int)).bind fun x5=>(bC (fun(F1:Int)=>(show Option ((Int)⊕(Int))from bM (fun(F2:Bool)=>(bif F2 then(some (IntKind.i64.wrap (F1-1))).bind fun dI=>some (.inl dI)else some (.inr F1))) fun Rr=>(some (decide ((0:Int)<F1))).bind fun x7=>(bif x7 then(some (IntKind.i64.wrap (F1-1))).bind fun fV=>(bQ x0 fV).bind fun dA=>(some (decide ((dA:Int)=0))).bind fun gp=>some gp else some false).bind fun KW=>Rr KW)) x5).bind fun F3=>(Az x0 0 F3).bind fun gQ=>some gQ
noncomputable def bf(x0:List Nat):Option (List Int):=(bC (fun(s6:Int×(List Int))=>match s6 with|⟨uf,j0⟩=>(show Option ((Int×(List Int))⊕((List Int)))from(some (x0.length:Int)).bind fun x7=>(some (decide ((uf:Int)<x7))).bind fun x8=>(bif x8 then(bQ x0 uf).bind fun gp=>(some (gp%65536)).bind fun ek=>(some (IntKind.i64.wrap (ek:Int))).bind fun dI=>(bQ x0 uf).bind fun gQ=>(some (gQ/65536%4294967296)).bind fun gR=>(some (IntKind.i64.wrap (gR:Int))).bind fun ig=>(uC 8 j0 [dI,ig]).bind fun nH=>(some (IntKind.i64.wrap (uf+1))).bind fun eG=>some (.inl (eG,nH))else some (.inr j0)))) (0,[])).bind fun dK=>(bY dK).bind fun jr=>some jr
noncomputable def cY(x0:List Int)(x1:Int):Option (Int):=(some (x0.length:Int)).bind fun x7=>(some (decide ((x1:Int)<x7))).bind fun x8=>(bif x8 then(bQ x0 x1).bind fun fV=>some fV else some 0)
noncomputable def bZ(x0:Bool)(x1:List Int):Option (Zr):=(bY x1).bind fun x8=>(bC (fun(s6:Int×(List Nat))=>match s6 with|⟨qJ,j0⟩=>(show Option ((Int×(List Nat))⊕((List Nat)))from(some (x8.length:Int)).bind fun fV=>(some (decide ((qJ:Int)<fV))).bind fun dA=>(bif dA then(cY x8 qJ).bind fun dQ=>(some ((dQ%4294967296).toNat)).bind fun jL=>(some (IntKind.i64.wrap (qJ+1))).bind fun gR=>(cY x8 gR).bind fun ig=>(some ((ig%4294967296).toNat)).bind fun dR=>(some ((dR*65536)%4294967296)).bind fun nH=>(some ((jL+nH)%4294967296)).bind fun gu=>(uC 4 j0 [gu]).bind fun jR=>(some (IntKind.i64.wrap (qJ+2))).bind fun gp=>some (.inl (gp,jR))else some (.inr j0)))) (0,[])).bind fun dK=>bM (fun(KX:Bool)=>some ⟨KX,dK⟩) fun K9=>(bif x0 then(some (dK.length:Int)).bind fun iu=>(some (decide ((0:Int)<iu))).bind fun iZ=>some iZ else some false).bind fun KY=>K9 KY
noncomputable def fH(x0:Zr):Option (Zr):=match x0 with|⟨aD,aB⟩=>(bf aB).bind fun x7=>(bZ aD x7).bind fun⟨oz,oA⟩=>some ⟨oz,oA⟩
noncomputable def dm(x0:Zr)(x1:Zr):Option (Bool):=match x0 with|⟨aD,aB⟩=>match x1 with|⟨bt,bn⟩=>bM (fun(KZ:Bool)=>(bif KZ then some false else(bC (fun(xQ:Int)=>(show Option ((Int)⊕((Unit)⊕(Bool)))from(some (aB.length:Int)).bind fun ig=>(some (decide ((xQ:Int)<ig))).bind fun dR=>(bif dR then(bQ aB xQ).bind fun qm=>(bQ bn xQ).bind fun pH=>(some (decide ((qm:Nat)≠pH))).bind fun qG=>(bif qG then some (.inr (.inr false))else(some (IntKind.i64.wrap (xQ+1))).bind fun gu=>some (.inl gu))else some (.inr (.inl ()))))) 0).bind fun e9=>match e9 with|.inr v9=>some v9|.inl _=>some true)) fun K3=>(some (!(aD==bt))).bind fun eG=>(bif eG then some true else(some (aB.length:Int)).bind fun gp=>(some (bn.length:Int)).bind fun dI=>(some (decide ((gp:Int)≠dI))).bind fun dQ=>some dQ).bind fun K0=>K3 K0
noncomputable def eu(x0:Int):Option (Zr):=(some ((x0%18446744073709551616).toNat)).bind fun x5=>(some (decide ((x0:Int)<0))).bind fun x7=>bM (fun(Cf:Nat)=>(some (decide ((x0:Int)<0))).bind fun fV=>(some (Cf%4294967296)).bind fun fE=>(some (fE%4294967296)).bind fun gp=>(some (Cf/4294967296%18446744073709551616)).bind fun ek=>(some (ek%4294967296)).bind fun dI=>(fH ⟨fV,[gp,dI]⟩).bind fun⟨ei,kH⟩=>some ⟨ei,kH⟩) fun K2=>(bif x7 then(some (mN 18446744073709551616 0 x5)).bind fun x9=>K2 x9 else K2 x5)
noncomputable def gB(x0:List Int)(x1:List Int):Option (Int):=(some (x0.length:Int)).bind fun x7=>(some (x1.length:Int)).bind fun x9=>(some (max (x7:Int) x9)).bind fun eG=>(some (IntKind.i64.wrap (eG-1))).bind fun fV=>(bC (fun(lT:Int)=>(show Option ((Int)⊕((Unit)⊕(Int)))from(some (decide ((0:Int)≤lT))).bind fun fE=>(bif fE then(cY x0 lT).bind fun dQ=>(cY x1 lT).bind fun ij=>(some (decide ((dQ:Int)<ij))).bind fun gR=>(bif gR then some (.inr (.inr (-1)))else(cY x0 lT).bind fun nH=>(cY x1 lT).bind fun jR=>(some (decide ((jR:Int)<nH))).bind fun gx=>(bif gx then some (.inr (.inr 1))else(some (IntKind.i64.wrap (lT-1))).bind fun jq=>some (.inl jq)))else some (.inr (.inl ()))))) fV).bind fun e6=>match e6 with|.inr v6=>some v6|.inl _=>some 0
noncomputable def fk(x0:List Int)(x1:List Int):Option (List Int):=(bC (fun(zO:Int×Int×(List Int))=>match zO with|⟨oV,F4,zP⟩=>(show Option ((Int×Int×(List Int))⊕((List Int)))from bM (fun(F5:Bool)=>(bif F5 then(cY x0 F4).bind fun jr=>(cY x1 F4).bind fun qm=>(some (IntKind.i64.wrap (jr+qm))).bind fun lU=>(some (IntKind.i64.wrap (lU+oV))).bind fun iZ=>(some (Int.tmod iZ 65536)).bind fun oH=>(uC 8 zP [oH]).bind fun oa=>(some (IntKind.i64.wrap (Int.tdiv iZ 65536))).bind fun mO=>(some (IntKind.i64.wrap (F4+1))).bind fun dR=>some (.inl (mO,dR,oa))else some (.inr zP))) fun Uq=>(some (x0.length:Int)).bind fun fV=>(some (decide ((F4:Int)<fV))).bind fun dA=>(bif dA then some true else(some (x1.length:Int)).bind fun ek=>(some (decide ((F4:Int)<ek))).bind fun dI=>some dI).bind fun K1=>(bif K1 then some true else(some (decide ((0:Int)<oV))).bind fun ij=>some ij).bind fun SQ=>Uq SQ)) (0,0,[])).bind fun pW=>(bY pW).bind fun oc=>some oc
noncomputable def eA(x0:List Int)(x1:List Int):Option (List Int):=(bC (fun(s8:Int×Int×(List Int))=>match s8 with|⟨tD,IV,oe⟩=>(show Option ((Int×Int×(List Int))⊕((List Int)))from(some (x0.length:Int)).bind fun fV=>(some (decide ((IV:Int)<fV))).bind fun dA=>(bif dA then(cY x0 IV).bind fun dI=>(cY x1 IV).bind fun gQ=>(some (IntKind.i64.wrap (dI-gQ))).bind fun ij=>(some (IntKind.i64.wrap (ij-tD))).bind fun ig=>(some (decide ((ig:Int)<0))).bind fun nH=>bM (fun(wJ:Int×Int)=>match wJ with|⟨SR,NA⟩=>(uC 8 oe [NA]).bind fun lU=>(some (IntKind.i64.wrap (IV+1))).bind fun gp=>some (.inl (SR,gp,lU))) fun KT=>(bif nH then(some (IntKind.i64.wrap (ig+65536))).bind fun jr=>KT (1,jr)else KT (0,ig))else some (.inr oe)))) (0,0,[])).bind fun og=>(bY og).bind fun iZ=>some iZ
noncomputable def dc(x0:List Int):Option (Int):=(some (x0.length:Int)).bind fun x6=>(some (IntKind.i64.wrap (x6-1))).bind fun x7=>(bC (fun(s6:Int×Int)=>match s6 with|⟨NB,uf⟩=>(show Option ((Int×Int)⊕(Int))from(some (decide ((0:Int)≤uf))).bind fun x9=>(bif x9 then(some (IntKind.i64.wrap (NB*65536))).bind fun fE=>(bQ x0 uf).bind fun ek=>(some (IntKind.i64.wrap (fE+ek))).bind fun dQ=>(some (IntKind.i64.wrap (uf-1))).bind fun fV=>some (.inl (dQ,fV))else some (.inr NB)))) (0,x7)).bind fun IW=>some IW
noncomputable def gK(x0:Int):Option (List Int):=(some (Int.tmod x0 65536)).bind fun x4=>(some (IntKind.i64.wrap (Int.tdiv x0 65536))).bind fun x6=>(some (Int.tmod x6 65536)).bind fun x7=>(some (IntKind.i64.wrap (Int.tdiv x0 65536))).bind fun x9=>(some (IntKind.i64.wrap (Int.tdiv x9 65536))).bind fun eG=>(bY [x4,x7,eG]).bind fun dA=>some dA
noncomputable def dg(x0:List Int)(x1:Int):Option (List Int):=(bC (fun(oG:Int×Int×(List Int))=>match oG with|⟨wL,La,zQ⟩=>(show Option ((Int×Int×(List Int))⊕((List Int)))from bM (fun(F6:Bool)=>(bif F6 then(cY x0 La).bind fun ij=>(some (IntKind.i64.wrap (ij*x1))).bind fun ig=>(some (IntKind.i64.wrap (ig+wL))).bind fun nH=>(some (Int.tmod nH 65536)).bind fun jR=>(uC 8 zQ [jR]).bind fun qm=>(some (IntKind.i64.wrap (Int.tdiv nH 65536))).bind fun iu=>(some (IntKind.i64.wrap (La+1))).bind fun dQ=>some (.inl (iu,dQ,qm))else some (.inr zQ))) fun Rr=>(some (x0.length:Int)).bind fun fV=>(some (decide ((La:Int)<fV))).bind fun dA=>(bif dA then some true else(some (decide ((0:Int)<wL))).bind fun jq=>some jq).bind fun Lb=>Rr Lb)) (0,0,[])).bind fun ug=>(bY ug).bind fun lW=>some lW
noncomputable def lu(x0:List Int)(x1:List Int):Option (List Int):=(some (x0.length:Int)).bind fun x9=>(some (x1.length:Int)).bind fun fV=>(some (IntKind.i64.wrap (x9+fV))).bind fun dA=>(some (decide ((dA:Int)≤3))).bind fun fE=>(bif fE then(dc x0).bind fun jq=>(dc x1).bind fun dI=>(some (IntKind.i64.wrap (jq*dI))).bind fun dQ=>(gK dQ).bind fun jL=>some jL else(some (x0.length:Int)).bind fun ij=>(some (IntKind.i64.wrap (ij-1))).bind fun gR=>(bC (fun(zO:(List Int)×Int)=>match zO with|⟨Lc,oV⟩=>(show Option (((List Int)×Int)⊕((List Int)))from(some (decide ((0:Int)≤oV))).bind fun dR=>(bif dR then(uC 8 [0] Lc).bind fun gx=>(bC (fun(F7:(List Int)×Int)=>match F7 with|⟨oW,xw⟩=>(show Option (((List Int)×Int)⊕((List Int)))from(bQ x0 oV).bind fun iZ=>(some (decide ((xw:Int)<iZ))).bind fun pH=>(bif pH then(bQ x0 oV).bind fun oc=>(some (IntKind.i64.wrap (oc-xw))).bind fun Bh=>(some (min (1024:Int) Bh)).bind fun rm=>(dg x1 rm).bind fun As=>(fk oW As).bind fun wo=>(some (IntKind.i64.wrap (xw+1024))).bind fun qG=>some (.inl (wo,qG))else some (.inr oW)))) (gx,0)).bind fun vq=>(some (IntKind.i64.wrap (oV-1))).bind fun gu=>some (.inl (vq,gu))else some (.inr Lc)))) ([],gR)).bind fun Bv=>(bY Bv).bind fun tB=>some tB)
noncomputable def jG(x0:List Int)(x1:List Int):Option ((List Int)×(List Int)):=bM (fun(Ld:Bool)=>(bif Ld then(dc x0).bind fun ig=>(dc x1).bind fun nH=>(qF ig nH).bind fun gu=>(gK gu).bind fun jr=>(dc x0).bind fun gx=>(dc x1).bind fun lU=>(AA gx lU).bind fun iu=>(gK iu).bind fun iZ=>some (jr,iZ)else(some (x0.length:Int)).bind fun pH=>(Is 8 pH (0:Int)).bind fun oH=>(some (x1.length:Int)).bind fun oa=>(some (decide ((oa:Int)=1))).bind fun qN=>(bif qN then(some (x0.length:Int)).bind fun vV=>(some (IntKind.i64.wrap (vV-1))).bind fun oc=>(bC (fun(SS:Int×Int×(List Int))=>match SS with|⟨He,Ec,zR⟩=>(show Option ((Int×Int×(List Int))⊕(Int×(List Int)))from(some (decide ((0:Int)≤Ec))).bind fun AG=>(bif AG then(some (IntKind.i64.wrap (He*65536))).bind fun wo=>(bQ x0 Ec).bind fun E6=>(some (IntKind.i64.wrap (wo+E6))).bind fun x53=>(bQ x1 0).bind fun Nc=>(qF x53 Nc).bind fun DQ=>(bQ x1 0).bind fun O6=>(AA x53 O6).bind fun Mw=>(qX zR Ec).bind fun Jh=>(stM zR Jh DQ).bind fun l20=>(some (IntKind.i64.wrap (Ec-1))).bind fun rm=>some (.inl (Mw,rm,l20))else some (.inr (He,zR))))) (0,oc,oH)).bind fun e18=>match e18 with|⟨Le,F8⟩=>(bY F8).bind fun GR=>(bY [Le]).bind fun Wj=>some (GR,Wj)else(some (x0.length:Int)).bind fun Wk=>(some (IntKind.i64.wrap (Wk-1))).bind fun Nd=>(bC (fun(SU:(List Int)×Int×(List Int))=>match SU with|⟨Ed,pX,pY⟩=>(show Option (((List Int)×Int×(List Int))⊕((List Int)×(List Int)))from(some (decide ((0:Int)≤pX))).bind fun SW=>(bif SW then(bQ x0 pX).bind fun SX=>(uC 8 [SX] Ed).bind fun Vu=>(bY Vu).bind fun Kb=>(some (Kb.length:Int)).bind fun x88=>(some (x1.length:Int)).bind fun Nf=>(some (decide ((x88:Int)<Nf))).bind fun Kc=>bM (fun(Lf:Int)=>(bC (fun(PF:Int×Int)=>match PF with|⟨j1,nv⟩=>(show Option ((Int×Int)⊕(Int))from(some (IntKind.i64.wrap (nv-j1))).bind fun Wm=>(some (decide ((1:Int)<Wm))).bind fun SY=>(bif SY then(some (IntKind.i64.wrap (j1+nv))).bind fun x98=>(some (IntKind.i64.wrap (Int.tdiv x98 2))).bind fun Mz=>(dg x1 Mz).bind fun FC=>(gB FC Kb).bind fun zh=>(some (decide ((zh:Int)≤0))).bind fun IC=>bM (fun(Ur:Int×Int)=>match Ur with|⟨F9,Ga⟩=>some (.inl (F9,Ga))) fun K56=>(bif IC then K56 (Mz,nv)else K56 (j1,Mz))else some (.inr j1)))) (0,Lf)).bind fun rS=>(dg x1 rS).bind fun wA=>(eA Kb wA).bind fun Lg=>(qX pY pX).bind fun NC=>(stM pY NC rS).bind fun Wn=>(some (IntKind.i64.wrap (pX-1))).bind fun x78=>some (.inl (Lg,x78,Wn))) fun K46=>(bif Kc then K46 1 else K46 65536)else some (.inr (Ed,pY))))) ([],Nd,oH)).bind fun e44=>match e44 with|⟨PG,Gb⟩=>(bY Gb).bind fun Ee=>some (Ee,PG)))) fun K3=>(some (x0.length:Int)).bind fun jq=>(some (decide ((jq:Int)≤3))).bind fun ek=>(bif ek then(some (x1.length:Int)).bind fun jL=>(some (decide ((jL:Int)≤3))).bind fun gQ=>some gQ else some false).bind fun Lh=>K3 Lh
noncomputable def cG(x0:Zr):Option (Int):=match x0 with|⟨aD,aB⟩=>(bf aB).bind fun x5=>(some (x5.length:Int)).bind fun x6=>(some (decide ((x6:Int)=0))).bind fun x7=>(bif x7 then some 0 else(bif aD then some (-1)else some 1))
noncomputable def lz(x0:Zr)(x1:Zr):Option (Int):=match x0 with|⟨aD,aB⟩=>match x1 with|⟨bt,bn⟩=>(cG ⟨aD,aB⟩).bind fun x7=>(cG ⟨bt,bn⟩).bind fun x9=>(some (decide ((x7:Int)≠x9))).bind fun eG=>(bif eG then(cG ⟨aD,aB⟩).bind fun dA=>(cG ⟨bt,bn⟩).bind fun gp=>(some (decide ((dA:Int)<gp))).bind fun jq=>(bif jq then some (-1)else some 1)else(bf aB).bind fun dQ=>(bf bn).bind fun ij=>(gB dQ ij).bind fun gR=>(cG ⟨aD,aB⟩).bind fun dR=>(some (decide ((dR:Int)<0))).bind fun nH=>(bif nH then(some (IntKind.i64.wrap (0-gR))).bind fun jr=>some jr else some gR))
noncomputable def iE(x0:Zr):Option (Zr):=match x0 with|⟨aD,aB⟩=>(some (!aD)).bind fun x5=>(bf aB).bind fun x8=>(bZ x5 x8).bind fun⟨Li,Lj⟩=>some ⟨Li,Lj⟩
noncomputable def lB(x0:Zr):Option (Zr):=match x0 with|⟨aD,aB⟩=>(bf aB).bind fun x5=>(bZ false x5).bind fun⟨CG,CH⟩=>some ⟨CG,CH⟩
noncomputable def fm(x0:Zr)(x1:Zr):Option (Zr):=match x0 with|⟨aD,aB⟩=>match x1 with|⟨bt,bn⟩=>(bf aB).bind fun x9=>(bf bn).bind fun dA=>(some (aD==bt)).bind fun dI=>(bif dI then(fk x9 dA).bind fun gR=>(bZ aD gR).bind fun⟨nj,nk⟩=>some ⟨nj,nk⟩else(gB x9 dA).bind fun gu=>(some (decide ((0:Int)≤gu))).bind fun jr=>(bif jr then(eA x9 dA).bind fun iu=>(bZ aD iu).bind fun⟨nY,nZ⟩=>some ⟨nY,nZ⟩else(eA dA x9).bind fun oa=>(bZ bt oa).bind fun⟨PI,PJ⟩=>some ⟨PI,PJ⟩))
noncomputable def lC(x0:Zr)(x1:Zr):Option (Zr):=match x0 with|⟨aD,aB⟩=>match x1 with|⟨bt,bn⟩=>(iE ⟨bt,bn⟩).bind fun⟨oX,oY⟩=>(fm ⟨aD,aB⟩ ⟨oX,oY⟩).bind fun⟨oz,oA⟩=>some ⟨oz,oA⟩
noncomputable def iF(x0:Zr)(x1:Zr):Option (Zr):=match x0 with|⟨aD,aB⟩=>match x1 with|⟨bt,bn⟩=>(some (!(aD==bt))).bind fun x9=>(bf aB).bind fun dA=>(bf bn).bind fun jq=>(lu dA jq).bind fun ek=>(bZ x9 ek).bind fun⟨nc,nf⟩=>some ⟨nc,nf⟩
noncomputable def fo(x0:Zr)(x1:Zr):Option (Zr×Zr×Int):=match x0 with|⟨aD,aB⟩=>match x1 with|⟨bt,bn⟩=>(bf aB).bind fun fE=>(bf bn).bind fun ek=>(some (ek.length:Int)).bind fun dQ=>(some (decide ((dQ:Int)=0))).bind fun jL=>(bif jL then some (⟨false,[]⟩,⟨false,[]⟩,7)else(jG fE ek).bind fun⟨zo,Ci⟩=>bM (fun(j3:Bool×Bool)=>match j3 with|⟨Lk,tH⟩=>bM (fun(j5:(List Int)×(List Int))=>match j5 with|⟨Kf,DS⟩=>(some (!(tH==bt))).bind fun Bh=>(bZ Bh Kf).bind fun⟨Bj,Bl⟩=>(bZ false DS).bind fun⟨zq,zu⟩=>some (⟨Bj,Bl⟩,⟨zq,zu⟩,0)) fun K5=>(bif Lk then(fk zo [1]).bind fun qG=>(eA ek Ci).bind fun mO=>K5 (qG,mO)else K5 (zo,Ci))) fun K3=>(bif aD then(some (Ci.length:Int)).bind fun iu=>(some (decide ((0:Int)<iu))).bind fun iZ=>some iZ else some false).bind fun PK=>K3 (PK,aD))
noncomputable def lD(x0:Zr)(x1:Zr):Option (Zr):=match x0 with|⟨aD,aB⟩=>match x1 with|⟨bt,bn⟩=>(bf aB).bind fun fV=>(bf bn).bind fun gp=>(bC (fun(s6:(List Int)×(List Int))=>match s6 with|⟨lT,qJ⟩=>(show Option (((List Int)×(List Int))⊕((List Int)))from(some (qJ.length:Int)).bind fun ek=>(some (decide ((0:Int)<ek))).bind fun dI=>(bif dI then(jG lT qJ).bind fun⟨aeM,SZ⟩=>some (.inl (qJ,SZ))else some (.inr lT)))) (fV,gp)).bind fun sJ=>(bZ false sJ).bind fun⟨nO,mQ⟩=>some ⟨nO,mQ⟩
end Go.Proofs.YtmiflmkdaeianaaGreat
namespace Go.Proofs.YtmiflmkdaeianaaGreat
open Go.Fw Go.Fw.Z Go.RowKit
theorem cQ{x0:List Int}{r:List Int}(h:bY x0=some r):Pure Tryz.prog 92 [slc 1 (List.map aS x0)] (slc 1 (List.map aS r)):=by
 refine aq Tryz.func92 rfl (Nat.le_of_ble_eq_true rfl) (fun c9 M vs hvs=>?_)
 unfold bY at h
 refine sr<|aI rfl (imp_nil (n:=1) (e:=aS))<|dn<|sr<|mv rfl<|lE h fun x5 h5 h=>ln rfl h5<|ag rfl<|dn<|qq<|bE h fun DV tJ oh=>?_
 refine aP (fun(F3:Int)=>AS.bL 21 [(0,.sv (slc 1 (List.map aS x0))),(3,.sv (.v (.int .i64 F3)))] [] []) (fun F3=>F3=DV) ?_ (fun F3 tK=>?_)
 refine ax ?_
 refine aQ tJ (fun oG=>AS.bL 21 [(0,.sv (slc 1 (List.map aS x0))),(3,.sv (.v (.int .i64 oG)))] [] []) (wR []) (fun F1 RN RO h tL sH=>?_)
 try dsimp only
 refine qq<|qq ?_
 refine aC h (fun Ng=>AS.bL 21 [(0,.sv (slc 1 (List.map aS x0))),(3,.sv (.v (.int .i64 F1))),(15,.sv (.v (.bool Ng)))] [] []) (fun h=>?_) (fun F2 h=>?_)
 refine af<|mv rfl<|lE h fun x7 h7 h=>gt _ rfl rfl h7<|mv rfl<|bE h fun KW dO h=>?_
 cases x7
 obtain rfl:=O (F dO)
 exact ww<|ww<|ww<|ww<|ww<|ww<|pF rfl<|dn<|⟨false,h,wR []⟩
 refine gm rfl<|gm rfl<|lE (V dO) fun fV iV dO=>RT.sub (.some rfl rfl) _ rfl rfl T iV<|bE dO fun dA gX dO=>RT.Iy (.some rfl rfl) rfl rfl T gX<|gr rfl rfl<|lE dO fun gp kU dO=>DO _ rfl rfl (oN (p:=dA) (q:=0) kU) ?_
 obtain rfl:=O dO
 exact pT rfl<|dn<|⟨gp,h,wR []⟩
 try dsimp only
 refine ae.n ?_
 cases F2
 refine cF<|aW<|ae.x<|ae.x<|aG.x<|ae.n ?_
 obtain rfl:=O (F h)
 exact⟨F1,sH _ rfl,wR []⟩
 refine cT<|aE<|ae.n<|ax<|af<|mv rfl<|lE (V h) fun dI iW h=>sb _ rfl rfl iW<|ag rfl<|RT.done<|aG.n ?_
 obtain rfl:=O h
 exact ae.n ⟨dI,tL _ rfl,wR []⟩
 subst tK
 try dsimp only
 refine ae.n<|sr<|mv rfl<|mv rfl<|bE oh fun gQ kE oh=>RT.Ft .none 0 F3 rfl rfl ⟨_,rfl⟩ T kE<|ag rfl<|dn<|aj ?_
 obtain rfl:=O oh
 exact R1 rfl
theorem bJ{x0:List Nat}{r:List Int}(h:bf x0=some r):Pure Tryz.prog 67 [slc 1 (List.map ah x0)] (slc 1 (List.map aS r)):=by
 refine aq Tryz.func67 rfl (Nat.le_of_ble_eq_true rfl) (fun c9 M vs hvs=>?_)
 unfold bf at h
 refine sr<|aI rfl (imp_nil (n:=1) (e:=aS))<|dn<|sr<|ag rfl<|dn<|bq (eY 3 304 3 1 rfl rfl T)<|qq<|sr<|ag rfl<|dn<|bE h fun e6 FF kV=>?_
 refine aP (fun(dK:(List Int))=>AS.bL 28 [(3,.row 306)] [] [(306,TR 3 1 aS dK)]) (fun dK=>dK=e6) ?_ (fun dK FG=>?_)
 refine ax ?_
 refine aQ FF (fun s6=>AS.bL 28 [(0,.sv (slc 1 (List.map ah x0))),(3,.row 306),(4,.sv (.v (.int .i64 s6.1)))] [] [(306,TR 3 1 aS s6.2)]) (dx (fun i=>bif Nat.beq i 306 then 304 else i) rfl rfl rfl rfl rfl ⟨.sv (SV.aa _),.row rfl,.sv (SV.aa _),trivial⟩ trivial ⟨⟨_,rfl,cn.refl _⟩,trivial⟩ (fun i hi=>by rw[bD (show i≠306 by omega)];rfl)) (fun s6 y6 G6 h FH Ck=>?_)
 obtain⟨uf,j0⟩:=s6
 try dsimp only
 refine qq<|sr<|mv rfl<|mv rfl<|lE h fun x7 h7 h=>ln rfl h7<|lE h fun x8 h8 h=>ls _ rfl rfl h8<|dn ?_
 cases x8
 refine cF<|aW<|ae.x<|ae.x<|aG.x<|ae.n ?_
 obtain rfl:=O (F h)
 exact⟨j0,Ck _ rfl,wR []⟩
 refine cT<|aE<|ae.n<|qq<|ax<|ai mixed<|mo (s:=.row _) rfl<|mv rfl<|mv rfl<|bE (V h) fun gp kU h=>ix rfl rfl kU<|lr rfl rfl<|lE h fun ek jz h=>RT.rem .none _ rfl rfl T (by decide) (O2 (a:=gp) (b:=65536) jz)<|lE h fun dI iW h=>cv _ rfl iW<|mv rfl<|mv rfl<|bE h fun gQ kE h=>ix rfl rfl kE<|lr rfl rfl<|lE h fun gR lj h=>RT.quo .none _ rfl rfl T (by decide) (UK.U6 (a:=gQ) (b:=65536) lj) ?_
 refine lE h fun ig mB h=>cv _ rfl mB<|bl (l:=[dI,ig]) (e:=aS) (.one rfl (.one rfl (.nil))) rfl rfl rfl rfl rfl rfl<|bE h fun nH om h=>aR (k:=[dI,ig]) (e:=aS) rfl rfl rfl om<|an (s:=.row _) rfl ?_
 refine RT.done ⟨by kernel_rfl,?_⟩
 refine aG.n<|ae.n<|af<|mv rfl<|lE h fun eG gG h=>ad _ rfl rfl gG<|ag rfl<|RT.done ?_
 obtain rfl:=O h
 exact ae.n ⟨(eG,nH),FH _ rfl,dx (fun i=>bif Nat.beq i 306 then 25 else i) rfl rfl rfl rfl rfl ⟨.sv (SV.aa _),.row rfl,.sv (SV.aa _),trivial⟩ trivial ⟨⟨_,rfl,cn.refl _⟩,trivial⟩ (fun i hi=>by rw[bD (show i≠306 by omega)];rfl)⟩
 subst FG
 try dsimp only
 refine ae.n<|qq<|bq (b8 (i:=306) (E1:=3) (n:=1) (e:=aS) (l:=dK) rfl)<|af<|mv rfl<|bE kV fun jr nI kV=>cl (cQ nI) ⟨rfl,trivial⟩<|ag rfl<|dn<|aj ?_
 obtain rfl:=O kV
 exact R1 rfl
theorem dU{x0:List Int}{x1:Int}{r:Int}(h:cY x0 x1=some r):Pure Tryz.prog 93 [slc 1 (List.map aS x0),.v (.int .i64 x1)] (.v (.int .i64 r)):=by
 refine aq Tryz.func93 rfl (Nat.le_of_ble_eq_true rfl) (fun c9 M vs hvs=>?_)
 unfold cY at h
 refine sr<|ag rfl<|dn<|qq<|sr<|mv rfl<|mv rfl<|lE h fun x7 h7 h=>ln rfl h7<|lE h fun x8 h8 h=>ls _ rfl rfl h8<|dn ?_
 cases x8
 refine fs<|sr<|ag rfl<|dn<|aj ?_
 obtain rfl:=O (F h)
 exact R1 rfl
 refine cT<|sr<|mv rfl<|mv rfl<|bE (V h) fun fV iV h=>ix rfl rfl iV<|lr rfl rfl<|ag rfl<|dn<|aj<|ae.r ?_
 obtain rfl:=O h
 exact R1 rfl
theorem eC{x0:Bool}{x1:List Int}{r:Zr}(h:bZ x0 x1=some r):Pure Tryz.prog 68 [.v (.bool x0),slc 1 (List.map aS x1)] (.agg (eZ r)):=by
 refine aq Tryz.func68 rfl (Nat.le_of_ble_eq_true rfl) (fun c9 M vs hvs=>?_)
 unfold bZ at h
 refine sr<|al (cs:=[.v (.bool false),slc 1 (List.map ah [])]) (by exact⟨SV.aa _,imp_nil,trivial⟩) rfl<|dn<|sr<|mv rfl<|bE h fun x8 h8 h=>cl (cQ h8) ⟨rfl,trivial⟩<|ag rfl<|dn<|sr<|ag rfl<|dn<|bq (eY 5 304 69 1 rfl rfl T)<|qq<|sr<|ag rfl<|dn<|bE h fun e6 FF kV=>?_
 refine aP (fun(dK:(List Nat))=>AS.bL 37 [(0,.sv (.v (.bool x0))),(4,.ptr 4 0),(5,.row 306)] [(4,⟨35,[.sv (.v (.bool false)),.sv (slc 1 (List.map ah []))]⟩)] [(306,TR 69 1 ah dK)]) (fun dK=>dK=e6) ?_ (fun dK FG=>?_)
 refine ax ?_
 refine aQ FF (fun s6=>AS.bL 37 [(0,.sv (.v (.bool x0))),(1,.sv (slc 1 (List.map aS x8))),(4,.ptr 4 0),(5,.row 306),(6,.sv (.v (.int .i64 s6.1)))] [(4,⟨35,[.sv (.v (.bool false)),.sv (slc 1 (List.map ah []))]⟩)] [(306,TR 69 1 ah s6.2)]) (dx (fun i=>bif Nat.beq i 306 then 304 else i) rfl rfl rfl rfl rfl ⟨.sv (SV.aa _),.sv (SV.aa _),.ptr,.row rfl,.sv (SV.aa _),trivial⟩ ⟨⟨_,rfl,⟨.sv (SV.aa _),.sv (SV.aa _),trivial⟩⟩,trivial⟩ ⟨⟨_,rfl,cn.refl _⟩,trivial⟩ (fun i hi=>by rw[bD (show i≠306 by omega)];rfl)) (fun s6 y6 G6 h FH Ck=>?_)
 obtain⟨qJ,j0⟩:=s6
 try dsimp only
 refine qq<|sr<|mv rfl<|mv rfl<|lE h fun fV iV h=>ln rfl iV<|lE h fun dA gX h=>ls _ rfl rfl gX<|dn ?_
 cases dA
 refine cF<|aW<|ae.x<|ae.x<|aG.x<|ae.n ?_
 obtain rfl:=O (F h)
 exact⟨j0,Ck _ rfl,wR []⟩
 refine cT<|aE<|ae.n<|qq<|ax<|af<|mo (s:=.row _) rfl<|mv rfl<|mv rfl<|bE (V h) fun dQ iN h=>cl (dU iN) ⟨rfl,rfl,trivial⟩<|lE h fun jL mW h=>cv _ rfl (UK.conv mW)<|mv rfl<|mv rfl<|lE h fun gR lj h=>ad _ rfl rfl lj<|bE h fun ig mB h=>cl (dU mB) ⟨rfl,rfl,trivial⟩<|lE h fun dR lQ h=>cv _ rfl (UK.conv lQ)<|lE h fun nH om h=>RT.mul .none _ rfl rfl T (UK.mul (a:=dR) (b:=65536) om) ?_
 refine lE h fun gu mD h=>ad _ rfl rfl (UK.add (a:=jL) (b:=nH) mD)<|bl (l:=[gu]) (e:=ah) (.one rfl (.nil)) rfl rfl rfl rfl rfl rfl<|bE h fun jR ru h=>aR (k:=[gu]) (e:=ah) rfl rfl rfl ru<|an (s:=.row _) rfl<|RT.done<|aG.n<|ae.n<|af<|mv rfl<|lE h fun gp kU h=>ad _ rfl rfl kU<|ag rfl<|RT.done ?_
 obtain rfl:=O h
 exact ae.n ⟨(gp,jR),FH _ rfl,dx (fun i=>bif Nat.beq i 306 then 28 else i) rfl rfl rfl rfl rfl ⟨.sv (SV.aa _),.sv (SV.aa _),.ptr,.row rfl,.sv (SV.aa _),trivial⟩ ⟨⟨_,rfl,⟨.sv (SV.aa _),.sv (SV.aa _),trivial⟩⟩,trivial⟩ ⟨⟨_,rfl,cn.refl _⟩,trivial⟩ (fun i hi=>by rw[bD (show i≠306 by omega)];rfl)⟩
 subst FG
 try dsimp only
 refine ae.n<|qq ?_
 refine aC kV (fun j9=>AS.bL 37 [(4,.ptr 4 0)] [(4,⟨35,[.sv (.v (.bool j9)),.sv (slc 1 (List.map ah dK))]⟩)] []) (fun kV=>?_) (fun KX kV=>?_)
 refine bq (b8 (i:=306) (E1:=69) (n:=1) (e:=ah) (l:=dK) rfl)<|af<|mv rfl<|mv rfl<|bE kV fun KY oZ kV=>?_
 cases x0
 obtain rfl:=O (F oZ)
 exact ww<|ww<|ww<|pF rfl<|mv rfl<|bI (cs:=[_,_]) (cs':=[.v (.bool false),slc 1 (List.map ah dK)]) (.one rfl (.one rfl (.nil))) ⟨SV.aa _,SV.aa _,trivial⟩<|so rfl rfl rfl<|dn<|⟨false,kV,wR []⟩
 refine gm rfl<|lE (V oZ) fun iu lY oZ=>gn rfl lY<|lE oZ fun iZ mu oZ=>gg _ rfl rfl mu ?_
 obtain rfl:=O oZ
 exact pT rfl<|mv rfl<|bI (cs:=[_,_]) (cs':=[.v (.bool iZ),slc 1 (List.map ah dK)]) (.one rfl (.one rfl (.nil))) ⟨SV.aa _,SV.aa _,trivial⟩<|so rfl rfl rfl<|dn<|⟨iZ,kV,wR []⟩
 try dsimp only
 refine ae.n<|aj ?_
 obtain rfl:=O kV
 exact RZ (.agg rfl rfl (.cons rfl (.cons rfl (.nil))) rfl (.nil))
theorem rT{x0:Zr}{r:Zr}(h:fH x0=some r):Pure Tryz.prog 72 [.agg (eZ x0)] (.agg (eZ r)):=by
 obtain⟨aD,aB⟩:=x0
 refine aq Tryz.func72 rfl (Nat.le_of_ble_eq_true rfl) (fun c9 M vs hvs=>?_)
 unfold fH at h
 refine sr<|bx rfl<|al (cs:=[.v (.bool false),slc 1 (List.map ah [])]) (by exact⟨SV.aa _,imp_nil,trivial⟩) rfl<|dn<|qq<|ai mixed<|fa rfl rfl<|lV rfl rfl rfl<|fa rfl rfl<|lV rfl rfl rfl<|bE h fun x7 h7 h=>cl (bJ h7) ⟨rfl,trivial⟩ ?_
 obtain⟨⟨oz,oA⟩,h8,h⟩:=bS h
 refine cl (eC h8) ⟨rfl,rfl,trivial⟩<|so rfl rfl rfl ?_
 refine RT.done ⟨by kernel_rfl,?_⟩
 refine ae.n<|aj ?_
 obtain rfl:=O h
 exact RZ (.agg rfl rfl (.cons rfl (.cons rfl (.nil))) rfl (.nil))
theorem jg{x0:Zr}{x1:Zr}{r:Bool}(h:dm x0 x1=some r):Pure Tryz.prog 26 [.agg (eZ x0),.agg (eZ x1)] (.v (.bool r)):=by
 obtain⟨aD,aB⟩:=x0
 obtain⟨bt,bn⟩:=x1
 refine aq Tryz.func26 rfl (Nat.le_of_ble_eq_true rfl) (fun c9 M vs hvs=>?_)
 unfold dm at h
 refine sr<|bx rfl<|bx rfl<|ag rfl<|dn<|qq<|qq ?_
 refine aC h (fun j3=>AS.bL 38 [(2,.ptr 2 0),(3,.ptr 3 0),(19,.sv (.v (.bool j3)))] [(3,⟨35,[.sv (.v (.bool bt)),.sv (slc 1 (List.map ah bn))]⟩),(2,⟨35,[.sv (.v (.bool aD)),.sv (slc 1 (List.map ah aB))]⟩)] []) (fun h=>?_) (fun KZ h=>?_)
 refine af<|fa rfl rfl<|lV rfl rfl rfl<|fa rfl rfl<|lV rfl rfl rfl<|lE h fun eG gG h=>RT.Dv .none _ rfl rfl T gG<|mv rfl<|bE h fun K0 oZ h=>?_
 cases eG
 refine RT.fieldAddr (.some rfl rfl) rfl T rfl<|RT.OW (.some rfl rfl) rfl rfl rfl T<|lE (F oZ) fun gp kU oZ=>gn rfl kU<|RT.fieldAddr (.some rfl rfl) rfl T rfl<|RT.OW (.some rfl rfl) rfl rfl rfl T<|lE oZ fun dI iW oZ=>gn rfl iW<|lE oZ fun dQ iN oZ=>gq _ rfl rfl (It (p:=gp) (q:=dI) iN) ?_
 obtain rfl:=O oZ
 exact pF rfl<|dn<|⟨dQ,h,wR []⟩
 obtain rfl:=O (V oZ)
 exact ww<|ww<|ww<|ww<|ww<|ww<|ww<|pT rfl<|dn<|⟨true,h,wR []⟩
 try dsimp only
 refine ae.n ?_
 cases KZ
 refine fs<|qq<|sr<|ag rfl<|dn<|bE (F h) fun e9 hl9 ho9=>?_
 refine aP (fun(xe9:Unit)=>AS.bL 38 [] [] []) (fun xe9=>.inl xe9=e9) ?_ (fun xe9 hx9=>?_)
 refine ax ?_
 refine aQ hl9 (fun s9=>AS.bL 38 [(2,.ptr 2 0),(3,.ptr 3 0),(5,.sv (.v (.int .i64 s9)))] [(3,⟨35,[.sv (.v (.bool bt)),.sv (slc 1 (List.map ah bn))]⟩),(2,⟨35,[.sv (.v (.bool aD)),.sv (slc 1 (List.map ah aB))]⟩)] []) (wR []) (fun xQ y9 G9 h hG9 hE9=>?_)
 try dsimp only
 refine qq<|sr<|mv rfl<|fa rfl rfl<|lV rfl rfl rfl<|lE h fun ig mB h=>ln rfl mB<|lE h fun dR lQ h=>ls _ rfl rfl lQ<|dn ?_
 cases dR
 refine cF<|aW<|ae.x<|ae.x<|aG.x<|ae.n ?_
 obtain rfl:=O (F h)
 exact⟨(),hE9 _ rfl,wR []⟩
 refine cT<|aE<|ae.n<|qq<|ax<|qq<|ai mixed<|fa rfl rfl<|lV rfl rfl rfl<|mv rfl<|bE (V h) fun qm vc h=>ix rfl rfl vc<|lr rfl rfl<|fa rfl rfl<|lV rfl rfl rfl<|mv rfl<|bE h fun pH AH h=>ix rfl rfl AH<|lr rfl rfl<|lE h fun qG xR h=>ne _ rfl rfl (Ue (p:=qm) (q:=pH) xR) ?_
 refine RT.done ⟨by kernel_rfl,?_⟩
 refine ae.n ?_
 cases qG
 refine cF<|aE<|aG.n<|ae.n<|af<|mv rfl<|lE (F h) fun gu mD h=>ad _ rfl rfl mD<|ag rfl<|RT.done ?_
 obtain rfl:=O h
 exact ae.n ⟨gu,hG9 _ rfl,wR []⟩
 refine cT<|sr<|ag rfl<|dn<|aj<|aG.r<|ae.r ?_
 obtain rfl:=O (V h)
 have he9:=hE9 _ rfl
 subst he9
 refine ae.r<|aG.r<|ae.r<|ae.r ?_
 obtain rfl:=O ho9
 exact R1 rfl
 subst hx9
 try dsimp only
 refine ae.n<|sr<|ag rfl<|dn<|aj ?_
 obtain rfl:=O ho9
 exact R1 rfl
 refine cT<|sr<|ag rfl<|dn<|aj<|ae.r ?_
 obtain rfl:=O (V h)
 exact R1 rfl
theorem jh{x0:Int}{r:Zr}(h:eu x0=some r):Pure Tryz.prog 41 [.v (.int .i64 x0)] (.agg (eZ r)):=by
 refine aq Tryz.func41 rfl (Nat.le_of_ble_eq_true rfl) (fun c9 M vs hvs=>?_)
 unfold eu at h
 refine sr<|al (cs:=[.v (.bool false),slc 1 (List.map ah [])]) (by exact⟨SV.aa _,imp_nil,trivial⟩) rfl<|dn<|sr<|mv rfl<|lE h fun x5 h5 h=>cv _ rfl (UK.conv h5)<|ag rfl<|dn<|qq<|sr<|mv rfl<|lE h fun x7 h7 h=>ls _ rfl rfl h7<|dn ?_
 refine aC h (fun j2=>AS.bL 21 [(0,.sv (.v (.int .i64 x0))),(2,.ptr 2 0),(3,.sv (.v (.int .u64 ((j2:Nat):Int))))] [(2,⟨35,[.sv (.v (.bool false)),.sv (slc 1 (List.map ah []))]⟩)] []) (fun h=>?_) (fun Cf h=>?_)
 cases x7
 exact fs<|⟨x5,(F h),wR []⟩
 exact cT<|af<|mv rfl<|lE (V h) fun x9 h9 h=>RT.neg .none _ rfl T (UK.neg h9)<|ag rfl<|dn<|⟨x9,h,wR []⟩
 try dsimp only
 refine ae.n<|sr<|mv rfl<|lE h fun fV iV h=>ls _ rfl rfl iV<|mv rfl<|lE h fun fE jy h=>RT.rem .none _ rfl rfl T (by decide) (O2 (a:=Cf) (b:=4294967296) jy)<|lE h fun gp kU h=>cv _ rfl (UK.nat kU)<|mv rfl<|lE h fun ek jz h=>RT.quo .none _ rfl rfl T (by decide) (UK.U6 (a:=Cf) (b:=4294967296) jz)<|lE h fun dI iW h=>cv _ rfl (UK.nat iW)<|bl (l:=[gp,dI]) (e:=ah) (.one rfl (.one rfl (.nil))) rfl rfl rfl rfl rfl rfl<|bI (cs:=[_,_]) (cs':=[.v (.bool fV),slc 1 (List.map ah [gp,dI])]) (.one rfl (.one rfl (.nil))) ⟨SV.aa _,SV.aa _,trivial⟩ ?_
 obtain⟨⟨ei,kH⟩,kE,h⟩:=bS h
 refine cl (rT kE) ⟨rfl,trivial⟩<|so rfl rfl rfl<|dn<|aj ?_
 obtain rfl:=O h
 exact RZ (.agg rfl rfl (.cons rfl (.cons rfl (.nil))) rfl (.nil))
end Go.Proofs.YtmiflmkdaeianaaGreat
namespace Go.Proofs.YtmiflmkdaeianaaGreat
open Go.Fw Go.Fw.Z Go.RowKit
theorem pZ{x0:List Int}{x1:List Int}{r:Int}(h:gB x0 x1=some r):Pure Tryz.prog 70 [slc 1 (List.map aS x0),slc 1 (List.map aS x1)] (.v (.int .i64 r)):=by
 refine aq Tryz.func70 rfl (Nat.le_of_ble_eq_true rfl) (fun c9 M vs hvs=>?_)
 unfold gB at h
 refine sr<|ag rfl<|dn<|qq<|sr<|mv rfl<|lE h fun x7 h7 h=>ln rfl h7<|mv rfl<|lE h fun x9 h9 h=>ln rfl h9<|lE h fun eG gG h=>RT.max .none _ rfl rfl T (Rf (p:=x7) (q:=x9) gG)<|lE h fun fV iV h=>sb _ rfl rfl iV<|ag rfl<|dn<|bE h fun e6 FF kV=>?_
 refine aP (fun(RQ:Unit)=>AS.bL 30 [] [] []) (fun RQ=>.inl RQ=e6) ?_ (fun RQ FG=>?_)
 refine ax ?_
 refine aQ FF (fun s6=>AS.bL 30 [(0,.sv (slc 1 (List.map aS x0))),(1,.sv (slc 1 (List.map aS x1))),(5,.sv (.v (.int .i64 s6)))] [] []) (wR []) (fun lT y6 G6 h FH Ck=>?_)
 try dsimp only
 refine qq<|sr<|mv rfl<|lE h fun fE jy h=>ge _ rfl rfl jy<|dn ?_
 cases fE
 refine cF<|aW<|ae.x<|ae.x<|aG.x<|ae.n ?_
 obtain rfl:=O (F h)
 exact⟨(),Ck _ rfl,wR []⟩
 refine cT<|aE<|ae.n<|qq<|ax<|qq<|sr<|mv rfl<|mv rfl<|bE (V h) fun dQ iN h=>cl (dU iN) ⟨rfl,rfl,trivial⟩<|mv rfl<|mv rfl<|bE h fun ij mX h=>cl (dU mX) ⟨rfl,rfl,trivial⟩<|lE h fun gR lj h=>ls _ rfl rfl lj<|dn ?_
 cases gR
 refine fs<|sr<|mv rfl<|mv rfl<|bE (F h) fun nH om h=>cl (dU om) ⟨rfl,rfl,trivial⟩<|mv rfl<|mv rfl<|bE h fun jR ru h=>cl (dU ru) ⟨rfl,rfl,trivial⟩<|lE h fun gx kW h=>gt _ rfl rfl kW<|dn ?_
 cases gx
 refine cF<|aE<|aG.n<|ae.n<|af<|mv rfl<|lE (F h) fun jq nK h=>sb _ rfl rfl nK<|ag rfl<|RT.done ?_
 obtain rfl:=O h
 exact ae.n ⟨jq,FH _ rfl,wR []⟩
 refine cT<|sr<|ag rfl<|dn<|aj<|aG.r<|ae.r ?_
 obtain rfl:=O (V h)
 have RR:=Ck _ rfl
 subst RR
 refine ae.r<|aG.r<|ae.r<|ae.r ?_
 obtain rfl:=O kV
 exact R1 rfl
 refine cT<|sr<|ag rfl<|dn<|aj<|ae.r<|aG.r<|ae.r ?_
 obtain rfl:=O (V h)
 have RR:=Ck _ rfl
 subst RR
 refine ae.r<|aG.r<|ae.r<|ae.r ?_
 obtain rfl:=O kV
 exact R1 rfl
 subst FG
 try dsimp only
 refine ae.n<|sr<|ag rfl<|dn<|aj ?_
 obtain rfl:=O kV
 exact R1 rfl
theorem qa{x0:List Int}{x1:List Int}{r:List Int}(h:fk x0 x1=some r):Pure Tryz.prog 69 [slc 1 (List.map aS x0),slc 1 (List.map aS x1)] (slc 1 (List.map aS r)):=by
 refine aq Tryz.func69 rfl (Nat.le_of_ble_eq_true rfl) (fun c9 M vs hvs=>?_)
 unfold fk at h
 refine sr<|aI rfl (imp_nil (n:=1) (e:=aS))<|dn<|sr<|ag rfl<|dn<|bq (eY 5 304 3 1 rfl rfl T)<|sr<|ag rfl<|dn<|qq<|sr<|ag rfl<|dn<|bE h fun Ll CI vr=>?_
 refine aP (fun(pW:(List Int))=>AS.bL 43 [(5,.row 306)] [] [(306,TR 3 1 aS pW)]) (fun pW=>pW=Ll) ?_ (fun pW zS=>?_)
 refine ax ?_
 refine aQ CI (fun zO=>AS.bL 43 [(0,.sv (slc 1 (List.map aS x0))),(1,.sv (slc 1 (List.map aS x1))),(5,.row 306),(6,.sv (.v (.int .i64 zO.1))),(7,.sv (.v (.int .i64 zO.2.1)))] [] [(306,TR 3 1 aS zO.2.2)]) (dx (fun i=>bif Nat.beq i 306 then 304 else i) rfl rfl rfl rfl rfl ⟨.sv (SV.aa _),.sv (SV.aa _),.row rfl,.sv (SV.aa _),.sv (SV.aa _),trivial⟩ trivial ⟨⟨_,rfl,cn.refl _⟩,trivial⟩ (fun i hi=>by rw[bD (show i≠306 by omega)];rfl)) (fun zO y16 G16 h Gc AQ=>?_)
 obtain⟨oV,F4,zP⟩:=zO
 try dsimp only
 refine qq<|qq ?_
 refine aC h (fun Wo=>AS.bL 43 [(0,.sv (slc 1 (List.map aS x0))),(1,.sv (slc 1 (List.map aS x1))),(5,.row 306),(6,.sv (.v (.int .i64 oV))),(7,.sv (.v (.int .i64 F4))),(22,.sv (.v (.bool Wo)))] [] [(306,TR 3 1 aS zP)]) (fun h=>?_) (fun F5 h=>?_)
 refine af<|mv rfl<|mv rfl<|lE h fun fV iV h=>ln rfl iV<|lE h fun dA gX h=>ls _ rfl rfl gX<|mv rfl<|bE h fun K1 uh h=>?_
 cases dA
 refine gm rfl<|gm rfl<|lE (F uh) fun ek jz uh=>gn rfl jz<|lE uh fun dI iW uh=>RT.lss (.some rfl rfl) _ rfl rfl T iW ?_
 obtain rfl:=O uh
 refine pF rfl<|mv rfl<|bE h fun aeQ wM h=>?_
 cases dI
 refine gm rfl<|lE (F wM) fun ij mX wM=>gg _ rfl rfl mX ?_
 obtain rfl:=O wM
 exact pF rfl<|dn<|⟨ij,h,wR []⟩
 obtain rfl:=O (V wM)
 exact ww<|ww<|pT rfl<|dn<|⟨true,h,wR []⟩
 obtain rfl:=O (V uh)
 refine ww<|ww<|ww<|ww<|pT rfl<|mv rfl<|bE h fun aeR S0 h=>?_
 obtain rfl:=O (V S0)
 exact ww<|ww<|pT rfl<|dn<|⟨true,h,wR []⟩
 try dsimp only
 refine ae.n ?_
 cases F5
 refine cF<|aW<|ae.x<|ae.x<|aG.x<|ae.n ?_
 obtain rfl:=O (F h)
 exact⟨zP,AQ _ rfl,wR []⟩
 refine cT<|aE<|ae.n<|qq<|ax<|sr<|mv rfl<|mv rfl<|bE (V h) fun jr nI h=>cl (dU nI) ⟨rfl,rfl,trivial⟩<|mv rfl<|mv rfl<|bE h fun qm vc h=>cl (dU vc) ⟨rfl,rfl,trivial⟩<|lE h fun lU sV h=>ad _ rfl rfl sV<|mv rfl<|lE h fun iZ mu h=>ad _ rfl rfl mu<|ag rfl<|dn<|sr<|mo (s:=.row _) rfl<|mv rfl<|lE h fun oH qI h=>?_
 refine RT.rem .none _ rfl rfl T (by decide) qI<|bl (l:=[oH]) (e:=aS) (.one rfl (.nil)) rfl rfl rfl rfl rfl rfl<|bE h fun oa zw h=>aR (k:=[oH]) (e:=aS) rfl rfl rfl zw<|an (s:=.row _) rfl<|dn<|af<|mv rfl<|lE h fun mO sx h=>RT.quo .none _ rfl rfl T (by decide) sx<|ag rfl<|RT.done<|aG.n<|ae.n<|af<|mv rfl<|lE h fun dR lQ h=>ad _ rfl rfl lQ<|ag rfl<|RT.done ?_
 obtain rfl:=O h
 exact ae.n ⟨(mO,dR,oa),Gc _ rfl,dx (fun i=>bif Nat.beq i 306 then 38 else i) rfl rfl rfl rfl rfl ⟨.sv (SV.aa _),.sv (SV.aa _),.row rfl,.sv (SV.aa _),.sv (SV.aa _),trivial⟩ trivial ⟨⟨_,rfl,cn.refl _⟩,trivial⟩ (fun i hi=>by rw[bD (show i≠306 by omega)];rfl)⟩
 subst zS
 try dsimp only
 refine ae.n<|qq<|bq (b8 (i:=306) (E1:=3) (n:=1) (e:=aS) (l:=pW) rfl)<|af<|mv rfl<|bE vr fun oc zx vr=>cl (cQ zx) ⟨rfl,trivial⟩<|ag rfl<|dn<|aj ?_
 obtain rfl:=O vr
 exact R1 rfl
theorem mG{x0:List Int}{x1:List Int}{r:List Int}(h:eA x0 x1=some r):Pure Tryz.prog 71 [slc 1 (List.map aS x0),slc 1 (List.map aS x1)] (slc 1 (List.map aS r)):=by
 refine aq Tryz.func71 rfl (Nat.le_of_ble_eq_true rfl) (fun c9 M vs hvs=>?_)
 unfold eA at h
 refine sr<|aI rfl (imp_nil (n:=1) (e:=aS))<|dn<|sr<|ag rfl<|dn<|bq (eY 5 304 3 1 rfl rfl T)<|sr<|ag rfl<|dn<|qq<|sr<|ag rfl<|dn<|bE h fun e8 Cp tN=>?_
 refine aP (fun(og:(List Int))=>AS.bL 34 [(5,.row 306)] [] [(306,TR 3 1 aS og)]) (fun og=>og=e8) ?_ (fun og Cq=>?_)
 refine ax ?_
 refine aQ Cp (fun s8=>AS.bL 34 [(0,.sv (slc 1 (List.map aS x0))),(1,.sv (slc 1 (List.map aS x1))),(5,.row 306),(6,.sv (.v (.int .i64 s8.1))),(7,.sv (.v (.int .i64 s8.2.1)))] [] [(306,TR 3 1 aS s8.2.2)]) (dx (fun i=>bif Nat.beq i 306 then 304 else i) rfl rfl rfl rfl rfl ⟨.sv (SV.aa _),.sv (SV.aa _),.row rfl,.sv (SV.aa _),.sv (SV.aa _),trivial⟩ trivial ⟨⟨_,rfl,cn.refl _⟩,trivial⟩ (fun i hi=>by rw[bD (show i≠306 by omega)];rfl)) (fun s8 y8 G8 h Cr Cs=>?_)
 obtain⟨tD,IV,oe⟩:=s8
 try dsimp only
 refine qq<|sr<|mv rfl<|mv rfl<|lE h fun fV iV h=>ln rfl iV<|lE h fun dA gX h=>ls _ rfl rfl gX<|dn ?_
 cases dA
 refine cF<|aW<|ae.x<|ae.x<|aG.x<|ae.n ?_
 obtain rfl:=O (F h)
 exact⟨oe,Cs _ rfl,wR []⟩
 refine cT<|aE<|ae.n<|qq<|ax<|sr<|mv rfl<|mv rfl<|bE (V h) fun dI iW h=>cl (dU iW) ⟨rfl,rfl,trivial⟩<|mv rfl<|mv rfl<|bE h fun gQ kE h=>cl (dU kE) ⟨rfl,rfl,trivial⟩<|lE h fun ij mX h=>sb _ rfl rfl mX<|mv rfl<|lE h fun ig mB h=>sb _ rfl rfl mB<|ag rfl<|dn<|sr<|ag rfl<|dn<|qq<|sr<|mv rfl<|lE h fun nH om h=>?_
 refine ls _ rfl rfl om<|dn ?_
 refine aC h (fun wJ=>AS.bL 34 [(0,.sv (slc 1 (List.map aS x0))),(1,.sv (slc 1 (List.map aS x1))),(5,.row 306),(6,.sv (.v (.int .i64 wJ.1))),(7,.sv (.v (.int .i64 IV))),(8,.sv (.v (.int .i64 wJ.2)))] [] [(306,TR 3 1 aS oe)]) (fun h=>?_) (fun wJ h=>?_)
 cases nH
 exact fs<|⟨(0,ig),(F h),wR []⟩
 exact cT<|sr<|mv rfl<|lE (V h) fun jr nI h=>ad _ rfl rfl nI<|ag rfl<|dn<|af<|ag rfl<|dn<|⟨(1,jr),h,wR []⟩
 obtain⟨SR,NA⟩:=wJ
 try dsimp only
 refine ae.n<|af<|mo (s:=.row _) rfl<|mv rfl<|bl (l:=[NA]) (e:=aS) (.one rfl (.nil)) rfl rfl rfl rfl rfl rfl<|bE h fun lU sV h=>aR (k:=[NA]) (e:=aS) rfl rfl rfl sV<|an (s:=.row _) rfl<|RT.done<|aG.n<|ae.n<|af<|mv rfl<|lE h fun gp kU h=>ad _ rfl rfl kU<|ag rfl<|RT.done ?_
 obtain rfl:=O h
 exact ae.n ⟨(SR,gp,lU),Cr _ rfl,dx (fun i=>bif Nat.beq i 306 then 31 else i) rfl rfl rfl rfl rfl ⟨.sv (SV.aa _),.sv (SV.aa _),.row rfl,.sv (SV.aa _),.sv (SV.aa _),trivial⟩ trivial ⟨⟨_,rfl,cn.refl _⟩,trivial⟩ (fun i hi=>by rw[bD (show i≠306 by omega)];rfl)⟩
 subst Cq
 try dsimp only
 refine ae.n<|qq<|bq (b8 (i:=306) (E1:=3) (n:=1) (e:=aS) (l:=og) rfl)<|af<|mv rfl<|bE tN fun iZ mu tN=>cl (cQ mu) ⟨rfl,trivial⟩<|ag rfl<|dn<|aj ?_
 obtain rfl:=O tN
 exact R1 rfl
theorem gh{x0:List Int}{r:Int}(h:dc x0=some r):Pure Tryz.prog 97 [slc 1 (List.map aS x0)] (.v (.int .i64 r)):=by
 refine aq Tryz.func97 rfl (Nat.le_of_ble_eq_true rfl) (fun c9 M vs hvs=>?_)
 unfold dc at h
 refine sr<|ag rfl<|dn<|sr<|ag rfl<|dn<|qq<|sr<|mv rfl<|lE h fun x6 h6 h=>ln rfl h6<|lE h fun x7 h7 h=>sb _ rfl rfl h7<|ag rfl<|dn<|bE h fun e6 FF kV=>?_
 refine aP (fun(IW:Int)=>AS.bL 20 [(3,.sv (.v (.int .i64 IW)))] [] []) (fun IW=>IW=e6) ?_ (fun IW FG=>?_)
 refine ax ?_
 refine aQ FF (fun s6=>AS.bL 20 [(0,.sv (slc 1 (List.map aS x0))),(3,.sv (.v (.int .i64 s6.1))),(4,.sv (.v (.int .i64 s6.2)))] [] []) (wR []) (fun s6 y6 G6 h FH Ck=>?_)
 obtain⟨NB,uf⟩:=s6
 try dsimp only
 refine qq<|sr<|mv rfl<|lE h fun x9 h9 h=>ge _ rfl rfl h9<|dn ?_
 cases x9
 refine cF<|aW<|ae.x<|ae.x<|aG.x<|ae.n ?_
 obtain rfl:=O (F h)
 exact⟨NB,Ck _ rfl,wR []⟩
 refine cT<|aE<|ae.n<|qq<|ax<|af<|mv rfl<|lE (V h) fun fE jy h=>RT.mul .none _ rfl rfl T jy<|mv rfl<|mv rfl<|bE h fun ek jz h=>ix rfl rfl jz<|lr rfl rfl<|lE h fun dQ iN h=>ad _ rfl rfl iN<|ag rfl<|RT.done<|aG.n<|ae.n<|af<|mv rfl<|lE h fun fV iV h=>sb _ rfl rfl iV<|ag rfl<|RT.done ?_
 obtain rfl:=O h
 exact ae.n ⟨(dQ,fV),FH _ rfl,wR []⟩
 subst FG
 try dsimp only
 refine ae.n<|sr<|mv rfl<|ag rfl<|dn<|aj ?_
 obtain rfl:=O kV
 exact R1 rfl
theorem oB{x0:Int}{r:List Int}(h:gK x0=some r):Pure Tryz.prog 96 [.v (.int .i64 x0)] (slc 1 (List.map aS r)):=by
 refine aq Tryz.func96 rfl (Nat.le_of_ble_eq_true rfl) (fun c9 M vs hvs=>?_)
 unfold gK at h
 refine sr<|aI rfl (imp_nil (n:=1) (e:=aS))<|dn<|sr<|mv rfl<|lE h fun x4 h4 h=>RT.rem .none _ rfl rfl T (by decide) h4<|mv rfl<|lE h fun x6 h6 h=>RT.quo .none _ rfl rfl T (by decide) h6<|lE h fun x7 h7 h=>RT.rem .none _ rfl rfl T (by decide) h7<|mv rfl<|lE h fun x9 h9 h=>RT.quo .none _ rfl rfl T (by decide) h9<|lE h fun eG gG h=>RT.quo .none _ rfl rfl T (by decide) gG<|bl (l:=[x4,x7,eG]) (e:=aS) (.one rfl (.one rfl (.one rfl (.nil)))) rfl rfl rfl rfl rfl rfl ?_
 refine bE h fun dA gX h=>cl (cQ gX) ⟨rfl,trivial⟩<|ag rfl<|dn<|aj ?_
 obtain rfl:=O h
 exact R1 rfl
theorem nx{x0:List Int}{x1:Int}{r:List Int}(h:dg x0 x1=some r):Pure Tryz.prog 98 [slc 1 (List.map aS x0),.v (.int .i64 x1)] (slc 1 (List.map aS r)):=by
 refine aq Tryz.func98 rfl (Nat.le_of_ble_eq_true rfl) (fun c9 M vs hvs=>?_)
 unfold dg at h
 refine sr<|aI rfl (imp_nil (n:=1) (e:=aS))<|dn<|sr<|ag rfl<|dn<|bq (eY 5 304 3 1 rfl rfl T)<|sr<|ag rfl<|dn<|qq<|sr<|ag rfl<|dn<|bE h fun DV tJ oh=>?_
 refine aP (fun(ug:(List Int))=>AS.bL 35 [(5,.row 306)] [] [(306,TR 3 1 aS ug)]) (fun ug=>ug=DV) ?_ (fun ug tK=>?_)
 refine ax ?_
 refine aQ tJ (fun oG=>AS.bL 35 [(0,.sv (slc 1 (List.map aS x0))),(1,.sv (.v (.int .i64 x1))),(5,.row 306),(6,.sv (.v (.int .i64 oG.1))),(7,.sv (.v (.int .i64 oG.2.1)))] [] [(306,TR 3 1 aS oG.2.2)]) (dx (fun i=>bif Nat.beq i 306 then 304 else i) rfl rfl rfl rfl rfl ⟨.sv (SV.aa _),.sv (SV.aa _),.row rfl,.sv (SV.aa _),.sv (SV.aa _),trivial⟩ trivial ⟨⟨_,rfl,cn.refl _⟩,trivial⟩ (fun i hi=>by rw[bD (show i≠306 by omega)];rfl)) (fun oG RN RO h tL sH=>?_)
 obtain⟨wL,La,zQ⟩:=oG
 try dsimp only
 refine qq<|qq ?_
 refine aC h (fun Ng=>AS.bL 35 [(0,.sv (slc 1 (List.map aS x0))),(1,.sv (.v (.int .i64 x1))),(5,.row 306),(6,.sv (.v (.int .i64 wL))),(7,.sv (.v (.int .i64 La))),(16,.sv (.v (.bool Ng)))] [] [(306,TR 3 1 aS zQ)]) (fun h=>?_) (fun F6 h=>?_)
 refine af<|mv rfl<|mv rfl<|lE h fun fV iV h=>ln rfl iV<|lE h fun dA gX h=>ls _ rfl rfl gX<|mv rfl<|bE h fun Lb dO h=>?_
 cases dA
 refine gm rfl<|lE (F dO) fun jq nK dO=>gg _ rfl rfl nK ?_
 obtain rfl:=O dO
 exact pF rfl<|dn<|⟨jq,h,wR []⟩
 obtain rfl:=O (V dO)
 exact ww<|ww<|pT rfl<|dn<|⟨true,h,wR []⟩
 try dsimp only
 refine ae.n ?_
 cases F6
 refine cF<|aW<|ae.x<|ae.x<|aG.x<|ae.n ?_
 obtain rfl:=O (F h)
 exact⟨zQ,sH _ rfl,wR []⟩
 refine cT<|aE<|ae.n<|qq<|ax<|sr<|mv rfl<|mv rfl<|bE (V h) fun ij mX h=>cl (dU mX) ⟨rfl,rfl,trivial⟩<|mv rfl<|lE h fun ig mB h=>RT.mul .none _ rfl rfl T mB<|mv rfl<|lE h fun nH om h=>ad _ rfl rfl om<|ag rfl<|dn<|sr<|mo (s:=.row _) rfl<|mv rfl<|lE h fun jR ru h=>RT.rem .none _ rfl rfl T (by decide) ru<|bl (l:=[jR]) (e:=aS) (.one rfl (.nil)) rfl rfl rfl rfl rfl rfl ?_
 refine bE h fun qm vc h=>aR (k:=[jR]) (e:=aS) rfl rfl rfl vc<|an (s:=.row _) rfl<|dn<|af<|mv rfl<|lE h fun iu lY h=>RT.quo .none _ rfl rfl T (by decide) lY<|ag rfl<|RT.done<|aG.n<|ae.n<|af<|mv rfl<|lE h fun dQ iN h=>ad _ rfl rfl iN<|ag rfl<|RT.done ?_
 obtain rfl:=O h
 exact ae.n ⟨(iu,dQ,qm),tL _ rfl,dx (fun i=>bif Nat.beq i 306 then 30 else i) rfl rfl rfl rfl rfl ⟨.sv (SV.aa _),.sv (SV.aa _),.row rfl,.sv (SV.aa _),.sv (SV.aa _),trivial⟩ trivial ⟨⟨_,rfl,cn.refl _⟩,trivial⟩ (fun i hi=>by rw[bD (show i≠306 by omega)];rfl)⟩
 subst tK
 try dsimp only
 refine ae.n<|qq<|bq (b8 (i:=306) (E1:=3) (n:=1) (e:=aS) (l:=ug) rfl)<|af<|mv rfl<|bE oh fun lW qH oh=>cl (cQ qH) ⟨rfl,trivial⟩<|ag rfl<|dn<|aj ?_
 obtain rfl:=O oh
 exact R1 rfl
theorem CJ{x0:List Int}{x1:List Int}{r:List Int}(h:lu x0 x1=some r):Pure Tryz.prog 109 [slc 1 (List.map aS x0),slc 1 (List.map aS x1)] (slc 1 (List.map aS r)):=by
 refine aq Tryz.func109 rfl (Nat.le_of_ble_eq_true rfl) (fun c9 M vs hvs=>?_)
 unfold lu at h
 refine sr<|aI rfl (imp_nil (n:=1) (e:=aS))<|dn<|qq<|sr<|mv rfl<|lE h fun x9 h9 h=>ln rfl h9<|mv rfl<|lE h fun fV iV h=>ln rfl iV<|lE h fun dA gX h=>ad _ rfl rfl gX<|lE h fun fE jy h=>RT.leq .none _ rfl rfl T jy<|dn ?_
 cases fE
 refine fs<|sr<|aI rfl (imp_nil (n:=1) (e:=aS))<|dn<|qq<|sr<|mv rfl<|lE (F h) fun ij mX h=>ln rfl mX<|lE h fun gR lj h=>sb _ rfl rfl lj<|ag rfl<|dn<|bE h fun Ll CI vr=>?_
 refine aP (fun(Bv:(List Int))=>AS.bL 51 [(5,.sv (slc 1 (List.map aS Bv)))] [] []) (fun Bv=>Bv=Ll) ?_ (fun Bv zS=>?_)
 refine ax ?_
 refine aQ CI (fun zO=>AS.bL 51 [(0,.sv (slc 1 (List.map aS x0))),(1,.sv (slc 1 (List.map aS x1))),(5,.sv (slc 1 (List.map aS zO.1))),(6,.sv (.v (.int .i64 zO.2)))] [] []) (wR []) (fun zO y16 G16 h Gc AQ=>?_)
 obtain⟨Lc,oV⟩:=zO
 try dsimp only
 refine qq<|sr<|mv rfl<|lE h fun dR lQ h=>ge _ rfl rfl lQ<|dn ?_
 cases dR
 refine cF<|aW<|ae.x<|ae.x<|aG.x<|ae.n ?_
 obtain rfl:=O (F h)
 exact⟨Lc,AQ _ rfl,wR []⟩
 refine cT<|aE<|ae.n<|qq<|ax<|sr<|RT.ye (l:=[0]) (e:=aS) .none (.one rfl (.nil)) T rfl T rfl rfl rfl rfl rfl rfl<|mv rfl<|bE (V h) fun gx kW h=>RT.JV (k:=Lc) (e:=aS) .none rfl rfl rfl T rfl T kW<|ag rfl<|dn<|sr<|ag rfl<|dn<|bE h fun e22 S3 AR=>?_
 refine aP (fun(vq:(List Int))=>AS.bL 51 [(0,.sv (slc 1 (List.map aS x0))),(1,.sv (slc 1 (List.map aS x1))),(5,.sv (slc 1 (List.map aS vq))),(6,.sv (.v (.int .i64 oV)))] [] []) (fun vq=>vq=e22) ?_ (fun vq S4=>?_)
 refine ax ?_
 refine aQ S3 (fun F7=>AS.bL 51 [(0,.sv (slc 1 (List.map aS x0))),(1,.sv (slc 1 (List.map aS x1))),(5,.sv (slc 1 (List.map aS F7.1))),(6,.sv (.v (.int .i64 oV))),(7,.sv (.v (.int .i64 F7.2)))] [] []) (wR []) (fun F7 y22 G22 h S5 S6=>?_)
 obtain⟨oW,xw⟩:=F7
 try dsimp only
 refine qq<|sr<|mv rfl<|mv rfl<|mv rfl<|bE h fun iZ mu h=>ix rfl rfl mu<|lr rfl rfl<|lE h fun pH AH h=>ls _ rfl rfl AH<|dn ?_
 cases pH
 refine cF<|aW<|ae.x<|ae.x<|aG.x<|ae.n ?_
 obtain rfl:=O (F h)
 exact⟨oW,S6 _ rfl,wR []⟩
 refine cT<|aE<|ae.n<|qq<|ax<|af<|mv rfl<|mv rfl<|mv rfl<|mv rfl<|bE (V h) fun oc zx h=>ix rfl rfl zx<|lr rfl rfl<|mv rfl<|lE h fun Bh FK h=>sb _ rfl rfl FK<|lE h fun rm h46 h=>RT.min .none _ rfl rfl T (Rg (p:=1024) (q:=Bh) h46)<|bE h fun As DW h=>cl (nx DW) ⟨rfl,rfl,trivial⟩<|bE h fun wo h48 h=>cl (qa h48) ⟨rfl,rfl,trivial⟩<|ag rfl ?_
 refine RT.done<|aG.n<|ae.n<|af<|mv rfl<|lE h fun qG xR h=>ad _ rfl rfl xR<|ag rfl<|RT.done ?_
 obtain rfl:=O h
 exact ae.n ⟨(wo,qG),S5 _ rfl,wR []⟩
 subst S4
 try dsimp only
 refine aG.n<|ae.n<|af<|mv rfl<|lE AR fun gu mD AR=>sb _ rfl rfl mD<|ag rfl<|RT.done ?_
 obtain rfl:=O AR
 exact ae.n ⟨(vq,gu),Gc _ rfl,wR []⟩
 subst zS
 try dsimp only
 refine ae.n<|sr<|mv rfl<|bE vr fun tB Co vr=>cl (cQ Co) ⟨rfl,trivial⟩<|ag rfl<|dn<|aj ?_
 obtain rfl:=O vr
 exact R1 rfl
 refine cT<|sr<|mv rfl<|bE (V h) fun jq nK h=>cl (gh nK) ⟨rfl,trivial⟩<|mv rfl<|bE h fun dI iW h=>cl (gh iW) ⟨rfl,trivial⟩<|lE h fun dQ iN h=>RT.mul .none _ rfl rfl T iN<|bE h fun jL mW h=>cl (oB mW) ⟨rfl,trivial⟩<|ag rfl<|dn<|aj<|ae.r ?_
 obtain rfl:=O h
 exact R1 rfl
set_option maxHeartbeats 4000000 in
theorem vu{x0:List Int}{x1:List Int}{r:(List Int)×(List Int)}(h:jG x0 x1=some r):Pure Tryz.prog 77 [slc 1 (List.map aS x0),slc 1 (List.map aS x1)] (.w6 [slc 1 (List.map aS r.1),slc 1 (List.map aS r.2)]):=by
 refine aq Tryz.func77 rfl (Nat.le_of_ble_eq_true rfl) (fun c9 M vs hvs=>?_)
 unfold jG at h
 refine sr<|aI rfl (imp_nil (n:=1) (e:=aS))<|aI rfl (imp_nil (n:=1) (e:=aS))<|dn<|qq<|qq ?_
 refine aC h (fun j3=>AS.bL 120 [(0,.sv (slc 1 (List.map aS x0))),(1,.sv (slc 1 (List.map aS x1))),(21,.sv (.v (.bool j3)))] [] []) (fun h=>?_) (fun Ld h=>?_)
 refine af<|mv rfl<|lE h fun jq nK h=>ln rfl nK<|lE h fun ek jz h=>RT.leq .none _ rfl rfl T jz<|mv rfl<|bE h fun Lh IX h=>?_
 cases ek
 obtain rfl:=O (F IX)
 exact ww<|ww<|ww<|pF rfl<|dn<|⟨false,h,wR []⟩
 refine gm rfl<|lE (V IX) fun jL mW IX=>gn rfl mW<|lE IX fun gQ kE IX=>RT.leq (.some rfl rfl) _ rfl rfl T kE ?_
 obtain rfl:=O IX
 exact pT rfl<|dn<|⟨gQ,h,wR []⟩
 try dsimp only
 refine ae.n ?_
 cases Ld
 refine fs<|sr<|mv rfl<|lE (F h) fun pH AH h=>ln rfl AH<|bE h fun oH qI h=>RT.uU (n:=1) (e:=aS) .none rfl rfl T rfl T (by rfl) (by decide) (by exact⟨SV.aa _,trivial⟩) qI<|an (s:=.row _) rfl<|dn<|qq<|sr<|mv rfl<|lE h fun oa zw h=>ln rfl zw<|lE h fun qN Ct h=>eq _ rfl rfl (oN (p:=oa) (q:=1) Ct)<|dn ?_
 cases qN
 refine fs<|sr<|aI rfl (imp_nil (n:=1) (e:=aS))<|dn<|qq<|sr<|mv rfl<|lE (F h) fun Wk h73 h=>ln rfl h73<|lE h fun Nd VR h=>sb _ rfl rfl VR<|ag rfl<|dn<|bE h fun e44 aeU S7=>?_
 refine aP (fun(IY:(List Int)×(List Int))=>AS.bL 120 [(6,.row 36),(9,.sv (slc 1 (List.map aS IY.1)))] [] [(36,TR 3 1 aS IY.2)]) (fun IY=>IY=e44) ?_ (fun IY aeV=>?_)
 refine ax ?_
 refine aQ aeU (fun SU=>AS.bL 120 [(0,.sv (slc 1 (List.map aS x0))),(1,.sv (slc 1 (List.map aS x1))),(6,.row 36),(9,.sv (slc 1 (List.map aS SU.1))),(10,.sv (.v (.int .i64 SU.2.1)))] [] [(36,TR 3 1 aS SU.2.2)]) (wR []) (fun SU y44 G44 h aeW aeX=>?_)
 obtain⟨Ed,pX,pY⟩:=SU
 try dsimp only
 refine qq<|sr<|mv rfl<|lE h fun SW h76 h=>ge _ rfl rfl h76<|dn ?_
 cases SW
 refine cF<|aW<|ae.x<|ae.x<|aG.x<|ae.n ?_
 obtain rfl:=O (F h)
 exact⟨(Ed,pY),aeX _ rfl,wR []⟩
 refine cT<|aE<|ae.n<|qq<|ax<|sr<|mv rfl<|mv rfl<|bE (V h) fun SX h81 h=>ix rfl rfl h81<|lr rfl rfl<|RT.ye (l:=[SX]) (e:=aS) .none (.one rfl (.nil)) T rfl T rfl rfl rfl rfl rfl rfl<|mv rfl<|bE h fun Vu VS h=>RT.JV (k:=Ed) (e:=aS) .none rfl rfl rfl T rfl T VS<|bE h fun Kb h86 h=>cl (cQ h86) ⟨rfl,trivial⟩<|ag rfl<|dn<|sr<|ag rfl<|ag rfl ?_
 refine dn<|qq<|sr<|mv rfl<|lE h fun x88 h88 h=>ln rfl h88<|mv rfl<|lE h fun Nf VU h=>ln rfl VU<|lE h fun Kc Sb h=>ls _ rfl rfl Sb<|dn ?_
 refine aC h (fun j46=>AS.bL 120 [(0,.sv (slc 1 (List.map aS x0))),(1,.sv (slc 1 (List.map aS x1))),(6,.row 36),(9,.sv (slc 1 (List.map aS Kb))),(10,.sv (.v (.int .i64 pX))),(11,.sv (.v (.int .i64 0))),(12,.sv (.v (.int .i64 j46)))] [] [(36,TR 3 1 aS pY)]) (fun h=>?_) (fun Lf h=>?_)
 cases Kc
 exact fs<|⟨65536,(F h),wR []⟩
 exact cT<|af<|ag rfl<|dn<|⟨1,(V h),wR []⟩
 try dsimp only
 refine ae.n<|qq<|bE h fun e54 ae0 zT=>?_
 refine aP (fun(rS:Int)=>AS.bL 120 [(0,.sv (slc 1 (List.map aS x0))),(1,.sv (slc 1 (List.map aS x1))),(6,.row 36),(9,.sv (slc 1 (List.map aS Kb))),(10,.sv (.v (.int .i64 pX))),(11,.sv (.v (.int .i64 rS)))] [] [(36,TR 3 1 aS pY)]) (fun rS=>rS=e54) ?_ (fun rS ae1=>?_)
 refine ax ?_
 refine aQ ae0 (fun PF=>AS.bL 120 [(0,.sv (slc 1 (List.map aS x0))),(1,.sv (slc 1 (List.map aS x1))),(6,.row 36),(9,.sv (slc 1 (List.map aS Kb))),(10,.sv (.v (.int .i64 pX))),(11,.sv (.v (.int .i64 PF.1))),(12,.sv (.v (.int .i64 PF.2)))] [] [(36,TR 3 1 aS pY)]) (wR []) (fun PF y54 G54 h ae2 ae3=>?_)
 obtain⟨j1,nv⟩:=PF
 try dsimp only
 refine qq<|sr<|mv rfl<|mv rfl<|lE h fun Wm h94 h=>sb _ rfl rfl h94<|lE h fun SY h95 h=>gt _ rfl rfl h95<|dn ?_
 cases SY
 refine cF<|aW<|ae.x<|ae.x<|aG.x<|ae.n ?_
 obtain rfl:=O (F h)
 exact⟨j1,ae3 _ rfl,wR []⟩
 refine cT<|aE<|ae.n<|ax<|sr<|mv rfl<|mv rfl<|lE (V h) fun x98 h98 h=>ad _ rfl rfl h98<|lE h fun Mz h99 h=>RT.quo .none _ rfl rfl T (by decide) h99<|ag rfl<|dn<|sr<|mv rfl<|mv rfl<|bE h fun FC Kn h=>cl (nx Kn) ⟨rfl,rfl,trivial⟩<|mv rfl<|bE h fun zh Ko h=>cl (pZ Ko) ⟨rfl,rfl,trivial⟩<|lE h fun IC Se h=>RT.leq .none _ rfl rfl T Se<|dn ?_
 refine aC h (fun Ur=>AS.bL 120 [(0,.sv (slc 1 (List.map aS x0))),(1,.sv (slc 1 (List.map aS x1))),(6,.row 36),(9,.sv (slc 1 (List.map aS Kb))),(10,.sv (.v (.int .i64 pX))),(11,.sv (.v (.int .i64 Ur.1))),(12,.sv (.v (.int .i64 Ur.2)))] [] [(36,TR 3 1 aS pY)]) (fun h=>?_) (fun Ur h=>?_)
 cases IC
 exact cF<|af<|mv rfl<|ag rfl<|dn<|⟨(j1,Mz),(F h),wR []⟩
 exact cT<|af<|mv rfl<|ag rfl<|dn<|⟨(Mz,nv),(V h),wR []⟩
 obtain⟨F9,Ga⟩:=Ur
 try dsimp only
 refine aG.n ?_
 obtain rfl:=O h
 exact ae.n ⟨(F9,Ga),ae2 _ rfl,wR []⟩
 subst ae1
 try dsimp only
 refine ae.n<|af<|mo (s:=.row _) rfl<|mv rfl<|mv rfl<|mv rfl<|mv rfl<|mv rfl<|bE zT fun wA Kp zT=>cl (nx Kp) ⟨rfl,rfl,trivial⟩<|bE zT fun Lg ae7 zT=>cl (mG ae7) ⟨rfl,rfl,trivial⟩<|bE zT fun NC ae8 zT=>iR rfl rfl rfl ae8<|bE zT fun Wn Wp zT=>sR rS rfl rfl rfl rfl Wp<|ag rfl<|RT.done<|aG.n<|ae.n<|af<|mv rfl<|lE zT fun x78 h78 zT=>?_
 refine sb _ rfl rfl h78<|ag rfl<|RT.done ?_
 obtain rfl:=O zT
 exact ae.n ⟨(Lg,x78,Wn),aeW _ rfl,wR []⟩
 subst aeV
 obtain⟨PG,Gb⟩:=IY
 try dsimp only
 refine ae.n<|qq<|bq (b8 (i:=36) (E1:=3) (n:=1) (e:=aS) (l:=Gb) rfl)<|af<|mv rfl<|bE S7 fun Ee S8 S7=>cl (cQ S8) ⟨rfl,trivial⟩<|mv rfl<|ag rfl<|ag rfl<|dn<|aj ?_
 obtain rfl:=O S7
 exact R2 rfl rfl
 refine cT<|sr<|ag rfl<|dn<|qq<|sr<|mv rfl<|lE (V h) fun vV Cm h=>ln rfl Cm<|lE h fun oc zx h=>sb _ rfl rfl zx<|ag rfl<|dn<|bE h fun e18 ae9 Lm=>?_
 refine aP (fun(IZ:Int×(List Int))=>AS.bL 120 [(6,.row 36),(7,.sv (.v (.int .i64 IZ.1)))] [] [(36,TR 3 1 aS IZ.2)]) (fun IZ=>IZ=e18) ?_ (fun IZ afa=>?_)
 refine ax ?_
 refine aQ ae9 (fun SS=>AS.bL 120 [(0,.sv (slc 1 (List.map aS x0))),(1,.sv (slc 1 (List.map aS x1))),(6,.row 36),(7,.sv (.v (.int .i64 SS.1))),(8,.sv (.v (.int .i64 SS.2.1)))] [] [(36,TR 3 1 aS SS.2.2)]) (wR []) (fun SS y18 G18 h afb afc=>?_)
 obtain⟨He,Ec,zR⟩:=SS
 try dsimp only
 refine qq<|sr<|mv rfl<|lE h fun AG FL h=>ge _ rfl rfl FL<|dn ?_
 cases AG
 refine cF<|aW<|ae.x<|ae.x<|aG.x<|ae.n ?_
 obtain rfl:=O (F h)
 exact⟨(He,zR),afc _ rfl,wR []⟩
 refine cT<|aE<|ae.n<|qq<|ax<|sr<|mv rfl<|lE (V h) fun wo h48 h=>RT.mul .none _ rfl rfl T h48<|mv rfl<|mv rfl<|bE h fun E6 IE h=>ix rfl rfl IE<|lr rfl rfl<|lE h fun x53 h53 h=>ad _ rfl rfl h53<|ag rfl<|dn<|ai mixed<|mo (s:=.row _) rfl<|mv rfl<|mv rfl<|mv rfl<|bE h fun Nc VN h=>ix rfl rfl VN<|lr rfl rfl<|bE h fun DQ IG h=>?_
 refine RT.quo .none _ rfl rfl T (U7 IG) (JU IG)<|mv rfl<|mv rfl<|bE h fun O6 h63 h=>ix rfl rfl h63<|lr rfl rfl<|bE h fun Mw Pe h=>RT.rem .none _ rfl rfl T (Rh Pe) (Ri Pe)<|bE h fun Jh VO h=>iR rfl rfl rfl VO<|bE h fun l20 Wq h=>sR DQ rfl rfl rfl rfl Wq<|ag rfl ?_
 refine RT.done ⟨by kernel_rfl,?_⟩
 refine aG.n<|ae.n<|af<|mv rfl<|lE h fun rm h46 h=>sb _ rfl rfl h46<|ag rfl<|RT.done ?_
 obtain rfl:=O h
 exact ae.n ⟨(Mw,rm,l20),afb _ rfl,wR []⟩
 subst afa
 obtain⟨Le,F8⟩:=IZ
 try dsimp only
 refine ae.n<|qq<|bq (b8 (i:=36) (E1:=3) (n:=1) (e:=aS) (l:=F8) rfl)<|af<|mv rfl<|bE Lm fun GR Ni Lm=>cl (cQ Ni) ⟨rfl,trivial⟩<|mv rfl<|bl (l:=[Le]) (e:=aS) (.one rfl (.nil)) rfl rfl rfl rfl rfl rfl<|bE Lm fun Wj h71 Lm=>cl (cQ h71) ⟨rfl,trivial⟩<|ag rfl<|ag rfl<|dn<|aj<|ae.r ?_
 obtain rfl:=O Lm
 exact R2 rfl rfl
 refine cT<|sr<|mv rfl<|bE (V h) fun ig mB h=>cl (gh mB) ⟨rfl,trivial⟩<|mv rfl<|bE h fun nH om h=>cl (gh om) ⟨rfl,trivial⟩<|bE h fun gu mD h=>RT.quo .none _ rfl rfl T (U7 mD) (JU mD)<|bE h fun jr nI h=>cl (oB nI) ⟨rfl,trivial⟩<|mv rfl<|bE h fun gx kW h=>cl (gh kW) ⟨rfl,trivial⟩<|mv rfl<|bE h fun lU sV h=>cl (gh sV) ⟨rfl,trivial⟩ ?_
 refine bE h fun iu lY h=>RT.rem .none _ rfl rfl T (Rh lY) (Ri lY)<|bE h fun iZ mu h=>cl (oB mu) ⟨rfl,trivial⟩<|ag rfl<|ag rfl<|dn<|aj<|ae.r ?_
 obtain rfl:=O h
 exact R2 rfl rfl
end Go.Proofs.YtmiflmkdaeianaaGreat
namespace Go.Proofs.YtmiflmkdaeianaaGreat
open Go.Fw Go.Fw.Z Go.RowKit
theorem dP{x0:Zr}{r:Int}(h:cG x0=some r):Pure Tryz.prog 46 [.agg (eZ x0)] (.v (.int .i64 r)):=by
 obtain⟨aD,aB⟩:=x0
 refine aq Tryz.func46 rfl (Nat.le_of_ble_eq_true rfl) (fun c9 M vs hvs=>?_)
 unfold cG at h
 refine sr<|bx rfl<|ag rfl<|dn<|qq<|sr<|fa rfl rfl<|lV rfl rfl rfl<|bE h fun x5 h5 h=>cl (bJ h5) ⟨rfl,trivial⟩<|lE h fun x6 h6 h=>ln rfl h6<|lE h fun x7 h7 h=>eq _ rfl rfl (oN (p:=x6) (q:=0) h7)<|dn ?_
 cases x7
 refine fs<|qq<|sr<|fa rfl rfl<|lV rfl rfl rfl<|dn ?_
 replace h:=F h
 cases aD
 refine fs<|sr<|ag rfl<|dn<|aj ?_
 obtain rfl:=O (F h)
 exact R1 rfl
 refine cT<|sr<|ag rfl<|dn<|aj<|ae.r ?_
 obtain rfl:=O (V h)
 exact R1 rfl
 refine cT<|sr<|ag rfl<|dn<|aj<|ae.r ?_
 obtain rfl:=O (V h)
 exact R1 rfl
theorem CK{x0:Zr}{x1:Zr}{r:Int}(h:lz x0 x1=some r):Pure Tryz.prog 111 [.agg (eZ x0),.agg (eZ x1)] (.v (.int .i64 r)):=by
 obtain⟨aD,aB⟩:=x0
 obtain⟨bt,bn⟩:=x1
 refine aq Tryz.func111 rfl (Nat.le_of_ble_eq_true rfl) (fun c9 M vs hvs=>?_)
 unfold lz at h
 refine sr<|bx rfl<|bx rfl<|ag rfl<|dn<|qq<|qq<|ai mixed<|ld rfl rfl (.cons rfl (.cons rfl (.nil)))<|bE h fun x7 h7 h=>cl (dP h7) ⟨rfl,trivial⟩<|ld rfl rfl (.cons rfl (.cons rfl (.nil)))<|bE h fun x9 h9 h=>cl (dP h9) ⟨rfl,trivial⟩<|lE h fun eG gG h=>ne _ rfl rfl (It (p:=x7) (q:=x9) gG) ?_
 refine RT.done ⟨by kernel_rfl,?_⟩
 refine ae.n ?_
 cases eG
 refine fs<|qq<|ai mixed<|fa rfl rfl<|lV rfl rfl rfl<|bE (F h) fun dQ iN h=>cl (bJ iN) ⟨rfl,trivial⟩<|fa rfl rfl<|lV rfl rfl rfl<|bE h fun ij mX h=>cl (bJ mX) ⟨rfl,trivial⟩<|bE h fun gR lj h=>cl (pZ lj) ⟨rfl,rfl,trivial⟩<|ag rfl ?_
 refine RT.done ⟨by kernel_rfl,?_⟩
 refine ae.n<|qq<|sr<|ld rfl rfl (.cons rfl (.cons rfl (.nil)))<|bE h fun dR lQ h=>cl (dP lQ) ⟨rfl,trivial⟩<|lE h fun nH om h=>ls _ rfl rfl om<|dn ?_
 cases nH
 refine fs<|sr<|mv rfl<|ag rfl<|dn<|aj ?_
 obtain rfl:=O (F h)
 exact R1 rfl
 refine cT<|sr<|mv rfl<|lE (V h) fun jr nI h=>RT.neg .none _ rfl T nI<|ag rfl<|dn<|aj<|ae.r ?_
 obtain rfl:=O h
 exact R1 rfl
 refine cT<|qq<|qq<|ai mixed<|ld rfl rfl (.cons rfl (.cons rfl (.nil)))<|bE (V h) fun dA gX h=>cl (dP gX) ⟨rfl,trivial⟩<|ld rfl rfl (.cons rfl (.cons rfl (.nil)))<|bE h fun gp kU h=>cl (dP kU) ⟨rfl,trivial⟩<|lE h fun jq nK h=>ls _ rfl rfl nK ?_
 refine RT.done ⟨by kernel_rfl,?_⟩
 refine ae.n ?_
 cases jq
 refine fs<|sr<|ag rfl<|dn<|aj<|ae.r ?_
 obtain rfl:=O (F h)
 exact R1 rfl
 refine cT<|sr<|ag rfl<|dn<|aj<|ae.r<|ae.r ?_
 obtain rfl:=O (V h)
 exact R1 rfl
theorem qb{x0:Zr}{r:Zr}(h:iE x0=some r):Pure Tryz.prog 78 [.agg (eZ x0)] (.agg (eZ r)):=by
 obtain⟨aD,aB⟩:=x0
 refine aq Tryz.func78 rfl (Nat.le_of_ble_eq_true rfl) (fun c9 M vs hvs=>?_)
 unfold iE at h
 refine sr<|bx rfl<|al (cs:=[.v (.bool false),slc 1 (List.map ah [])]) (by exact⟨SV.aa _,imp_nil,trivial⟩) rfl<|dn<|qq<|ai mixed<|fa rfl rfl<|lV rfl rfl rfl<|lE h fun x5 h5 h=>nt rfl _ h5<|fa rfl rfl<|lV rfl rfl rfl<|bE h fun x8 h8 h=>cl (bJ h8) ⟨rfl,trivial⟩ ?_
 obtain⟨⟨Li,Lj⟩,h9,h⟩:=bS h
 refine cl (eC h9) ⟨rfl,rfl,trivial⟩<|so rfl rfl rfl ?_
 refine RT.done ⟨by kernel_rfl,?_⟩
 refine ae.n<|aj ?_
 obtain rfl:=O h
 exact RZ (.agg rfl rfl (.cons rfl (.cons rfl (.nil))) rfl (.nil))
theorem CL{x0:Zr}{r:Zr}(h:lB x0=some r):Pure Tryz.prog 91 [.agg (eZ x0)] (.agg (eZ r)):=by
 obtain⟨aD,aB⟩:=x0
 refine aq Tryz.func91 rfl (Nat.le_of_ble_eq_true rfl) (fun c9 M vs hvs=>?_)
 unfold lB at h
 refine sr<|bx rfl<|al (cs:=[.v (.bool false),slc 1 (List.map ah [])]) (by exact⟨SV.aa _,imp_nil,trivial⟩) rfl<|dn<|sr<|fa rfl rfl<|lV rfl rfl rfl<|bE h fun x5 h5 h=>cl (bJ h5) ⟨rfl,trivial⟩ ?_
 obtain⟨⟨CG,CH⟩,h6,h⟩:=bS h
 refine cl (eC h6) ⟨rfl,rfl,trivial⟩<|so rfl rfl rfl<|dn<|aj ?_
 obtain rfl:=O h
 exact RZ (.agg rfl rfl (.cons rfl (.cons rfl (.nil))) rfl (.nil))
theorem ke{x0:Zr}{x1:Zr}{r:Zr}(h:fm x0 x1=some r):Pure Tryz.prog 40 [.agg (eZ x0),.agg (eZ x1)] (.agg (eZ r)):=by
 obtain⟨aD,aB⟩:=x0
 obtain⟨bt,bn⟩:=x1
 refine aq Tryz.func40 rfl (Nat.le_of_ble_eq_true rfl) (fun c9 M vs hvs=>?_)
 unfold fm at h
 refine sr<|bx rfl<|bx rfl<|al (cs:=[.v (.bool false),slc 1 (List.map ah [])]) (by exact⟨SV.aa _,imp_nil,trivial⟩) rfl<|dn<|qq<|ai mixed<|fa rfl rfl<|lV rfl rfl rfl<|bE h fun x9 h9 h=>cl (bJ h9) ⟨rfl,trivial⟩<|fa rfl rfl<|lV rfl rfl rfl<|bE h fun dA gX h=>cl (bJ gX) ⟨rfl,trivial⟩<|ag rfl<|ag rfl ?_
 refine RT.done ⟨by kernel_rfl,?_⟩
 refine ae.n<|qq<|sr<|fa rfl rfl<|lV rfl rfl rfl<|fa rfl rfl<|lV rfl rfl rfl<|lE h fun dI iW h=>RT.QV .none _ rfl rfl T iW<|dn ?_
 cases dI
 refine fs<|qq<|sr<|mv rfl<|mv rfl<|bE (F h) fun gu mD h=>cl (pZ mD) ⟨rfl,rfl,trivial⟩<|lE h fun jr nI h=>ge _ rfl rfl nI<|dn ?_
 cases jr
 refine fs<|qq<|ai mixed<|fa rfl rfl<|lV rfl rfl rfl<|mv rfl<|mv rfl<|bE (F h) fun oa zw h=>cl (mG zw) ⟨rfl,rfl,trivial⟩ ?_
 obtain⟨⟨PI,PJ⟩,Ct,h⟩:=bS h
 refine cl (eC Ct) ⟨rfl,rfl,trivial⟩<|so rfl rfl rfl ?_
 refine RT.done ⟨by kernel_rfl,?_⟩
 refine ae.n<|aj ?_
 obtain rfl:=O h
 exact RZ (.agg rfl rfl (.cons rfl (.cons rfl (.nil))) rfl (.nil))
 refine cT<|qq<|ai mixed<|fa rfl rfl<|lV rfl rfl rfl<|mv rfl<|mv rfl<|bE (V h) fun iu lY h=>cl (mG lY) ⟨rfl,rfl,trivial⟩ ?_
 obtain⟨⟨nY,nZ⟩,mu,h⟩:=bS h
 refine cl (eC mu) ⟨rfl,rfl,trivial⟩<|so rfl rfl rfl ?_
 refine RT.done ⟨by kernel_rfl,?_⟩
 refine ae.n<|aj<|ae.r ?_
 obtain rfl:=O h
 exact RZ (.agg rfl rfl (.cons rfl (.cons rfl (.nil))) rfl (.nil))
 refine cT<|qq<|ai mixed<|fa rfl rfl<|lV rfl rfl rfl<|mv rfl<|mv rfl<|bE (V h) fun gR lj h=>cl (qa lj) ⟨rfl,rfl,trivial⟩ ?_
 obtain⟨⟨nj,nk⟩,mB,h⟩:=bS h
 refine cl (eC mB) ⟨rfl,rfl,trivial⟩<|so rfl rfl rfl ?_
 refine RT.done ⟨by kernel_rfl,?_⟩
 refine ae.n<|aj<|ae.r ?_
 obtain rfl:=O h
 exact RZ (.agg rfl rfl (.cons rfl (.cons rfl (.nil))) rfl (.nil))
theorem CM{x0:Zr}{x1:Zr}{r:Zr}(h:lC x0 x1=some r):Pure Tryz.prog 47 [.agg (eZ x0),.agg (eZ x1)] (.agg (eZ r)):=by
 obtain⟨aD,aB⟩:=x0
 obtain⟨bt,bn⟩:=x1
 refine aq Tryz.func47 rfl (Nat.le_of_ble_eq_true rfl) (fun c9 M vs hvs=>?_)
 unfold lC at h
 refine sr<|bx rfl<|bx rfl<|al (cs:=[.v (.bool false),slc 1 (List.map ah [])]) (by exact⟨SV.aa _,imp_nil,trivial⟩) rfl<|dn<|qq<|ai mixed<|ld rfl rfl (.cons rfl (.cons rfl (.nil)))<|ld rfl rfl (.cons rfl (.cons rfl (.nil))) ?_
 obtain⟨⟨oX,oY⟩,h7,h⟩:=bS h
 refine cl (qb h7) ⟨rfl,trivial⟩ ?_
 obtain⟨⟨oz,oA⟩,h8,h⟩:=bS h
 refine cl (ke h8) ⟨rfl,rfl,trivial⟩<|so rfl rfl rfl ?_
 refine RT.done ⟨by kernel_rfl,?_⟩
 refine ae.n<|aj ?_
 obtain rfl:=O h
 exact RZ (.agg rfl rfl (.cons rfl (.cons rfl (.nil))) rfl (.nil))
theorem qc{x0:Zr}{x1:Zr}{r:Zr}(h:iF x0 x1=some r):Pure Tryz.prog 94 [.agg (eZ x0),.agg (eZ x1)] (.agg (eZ r)):=by
 obtain⟨aD,aB⟩:=x0
 obtain⟨bt,bn⟩:=x1
 refine aq Tryz.func94 rfl (Nat.le_of_ble_eq_true rfl) (fun c9 M vs hvs=>?_)
 unfold iF at h
 refine sr<|bx rfl<|bx rfl<|al (cs:=[.v (.bool false),slc 1 (List.map ah [])]) (by exact⟨SV.aa _,imp_nil,trivial⟩) rfl<|dn<|qq<|ai mixed<|fa rfl rfl<|lV rfl rfl rfl<|fa rfl rfl<|lV rfl rfl rfl<|lE h fun x9 h9 h=>RT.Dv .none _ rfl rfl T h9<|fa rfl rfl<|lV rfl rfl rfl<|bE h fun dA gX h=>cl (bJ gX) ⟨rfl,trivial⟩<|fa rfl rfl ?_
 refine lV rfl rfl rfl<|bE h fun jq nK h=>cl (bJ nK) ⟨rfl,trivial⟩<|bE h fun ek jz h=>cl (CJ jz) ⟨rfl,rfl,trivial⟩ ?_
 obtain⟨⟨nc,nf⟩,iW,h⟩:=bS h
 refine cl (eC iW) ⟨rfl,rfl,trivial⟩<|so rfl rfl rfl ?_
 refine RT.done ⟨by kernel_rfl,?_⟩
 refine ae.n<|aj ?_
 obtain rfl:=O h
 exact RZ (.agg rfl rfl (.cons rfl (.cons rfl (.nil))) rfl (.nil))
theorem mH{x0:Zr}{x1:Zr}{r:Zr×Zr×Int}(h:fo x0 x1=some r):Pure Tryz.prog 45 [.agg (eZ x0),.agg (eZ x1)] (.w6 [.agg (eZ r.1),.agg (eZ r.2.1),.v (.int .i64 r.2.2)]):=by
 obtain⟨aD,aB⟩:=x0
 obtain⟨bt,bn⟩:=x1
 refine aq Tryz.func45 rfl (Nat.le_of_ble_eq_true rfl) (fun c9 M vs hvs=>?_)
 unfold fo at h
 refine sr<|bx rfl<|bx rfl<|al (cs:=[.v (.bool false),slc 1 (List.map ah [])]) (by exact⟨SV.aa _,imp_nil,trivial⟩) rfl<|al (cs:=[.v (.bool false),slc 1 (List.map ah [])]) (by exact⟨SV.aa _,imp_nil,trivial⟩) rfl<|ag rfl<|dn<|qq<|ai mixed<|fa rfl rfl<|lV rfl rfl rfl<|bE h fun fE jy h=>cl (bJ jy) ⟨rfl,trivial⟩<|fa rfl rfl ?_
 refine lV rfl rfl rfl<|bE h fun ek jz h=>cl (bJ jz) ⟨rfl,trivial⟩<|ag rfl<|ag rfl ?_
 refine RT.done ⟨by kernel_rfl,?_⟩
 refine ae.n<|qq<|sr<|mv rfl<|lE h fun dQ iN h=>ln rfl iN<|lE h fun jL mW h=>eq _ rfl rfl (oN (p:=dQ) (q:=0) mW)<|dn ?_
 cases jL
 refine fs<|sr<|mv rfl<|mv rfl ?_
 obtain⟨⟨zo,Ci⟩,om,h⟩:=bS (F h)
 refine cl (vu om) ⟨rfl,rfl,trivial⟩<|mv rfl<|ex rfl rfl<|ex rfl rfl<|ag rfl<|ag rfl<|dn<|qq<|qq ?_
 refine aC h (fun j3=>AS.bL 50 [(2,.ptr 2 0),(3,.ptr 3 0),(4,.ptr 4 0),(5,.ptr 5 0),(8,.sv (slc 1 (List.map aS ek))),(9,.sv (slc 1 (List.map aS zo))),(10,.sv (slc 1 (List.map aS Ci))),(34,.sv (.v (.bool j3.1)))] [(5,⟨35,[.sv (.v (.bool false)),.sv (slc 1 (List.map ah []))]⟩),(4,⟨35,[.sv (.v (.bool false)),.sv (slc 1 (List.map ah []))]⟩),(3,⟨35,[.sv (.v (.bool bt)),.sv (slc 1 (List.map ah bn))]⟩),(2,⟨35,[.sv (.v (.bool j3.2)),.sv (slc 1 (List.map ah aB))]⟩)] []) (fun h=>?_) (fun j3 h=>?_)
 refine af<|fa rfl rfl<|lV rfl rfl rfl<|mv rfl<|bE h fun PK At h=>?_
 cases aD
 obtain rfl:=O (F At)
 exact ww<|ww<|ww<|pF rfl<|dn<|⟨(false,false),h,wR []⟩
 refine gm rfl<|lE (V At) fun iu lY At=>gn rfl lY<|lE At fun iZ mu At=>gg _ rfl rfl mu ?_
 obtain rfl:=O At
 exact pT rfl<|dn<|⟨(iZ,true),h,wR []⟩
 obtain⟨Lk,tH⟩:=j3
 try dsimp only
 refine ae.n ?_
 refine aC h (fun j5=>AS.bL 50 [(2,.ptr 2 0),(3,.ptr 3 0),(4,.ptr 4 0),(5,.ptr 5 0),(9,.sv (slc 1 (List.map aS j5.1))),(10,.sv (slc 1 (List.map aS j5.2)))] [(5,⟨35,[.sv (.v (.bool false)),.sv (slc 1 (List.map ah []))]⟩),(4,⟨35,[.sv (.v (.bool false)),.sv (slc 1 (List.map ah []))]⟩),(3,⟨35,[.sv (.v (.bool bt)),.sv (slc 1 (List.map ah bn))]⟩),(2,⟨35,[.sv (.v (.bool tH)),.sv (slc 1 (List.map ah aB))]⟩)] []) (fun h=>?_) (fun j5 h=>?_)
 cases Lk
 exact fs<|⟨(zo,Ci),(F h),wR []⟩
 exact cT<|sr<|mv rfl<|bl (l:=[1]) (e:=aS) (.one rfl (.nil)) rfl rfl rfl rfl rfl rfl<|bE (V h) fun qG xR h=>cl (qa xR) ⟨rfl,rfl,trivial⟩<|ag rfl<|dn<|af<|mv rfl<|mv rfl<|bE h fun mO sx h=>cl (mG sx) ⟨rfl,rfl,trivial⟩<|ag rfl<|dn<|⟨(qG,mO),h,wR []⟩
 obtain⟨Kf,DS⟩:=j5
 try dsimp only
 refine ae.n<|sr<|fa rfl rfl<|lV rfl rfl rfl<|fa rfl rfl<|lV rfl rfl rfl<|lE h fun Bh FK h=>RT.Dv .none _ rfl rfl T FK<|mv rfl ?_
 obtain⟨⟨Bj,Bl⟩,DW,h⟩:=bS h
 refine cl (eC DW) ⟨rfl,rfl,trivial⟩<|mv rfl ?_
 obtain⟨⟨zq,zu⟩,Nh,h⟩:=bS h
 refine cl (eC Nh) ⟨rfl,rfl,trivial⟩<|so rfl rfl rfl<|so rfl rfl rfl<|ag rfl<|dn<|aj ?_
 obtain rfl:=O h
 exact RZ (.agg rfl rfl (.cons rfl (.cons rfl (.nil))) rfl (.agg rfl rfl (.cons rfl (.cons rfl (.nil))) rfl (.tmp rfl (.nil))))
 refine cT<|sr<|bI (cs:=[_,_]) (cs':=[.v (.bool false),slc 1 (List.map ah [])]) (.nil) ⟨SV.aa _,imp_nil,trivial⟩<|bI (cs:=[_,_]) (cs':=[.v (.bool false),slc 1 (List.map ah [])]) (.nil) ⟨SV.aa _,imp_nil,trivial⟩<|so rfl rfl rfl<|so rfl rfl rfl<|ag rfl<|dn<|aj<|ae.r ?_
 obtain rfl:=O (V h)
 exact RZ (.agg rfl rfl (.cons rfl (.cons rfl (.nil))) rfl (.agg rfl rfl (.cons rfl (.cons rfl (.nil))) rfl (.tmp rfl (.nil))))
theorem CN{x0:Zr}{x1:Zr}{r:Zr}(h:lD x0 x1=some r):Pure Tryz.prog 110 [.agg (eZ x0),.agg (eZ x1)] (.agg (eZ r)):=by
 obtain⟨aD,aB⟩:=x0
 obtain⟨bt,bn⟩:=x1
 refine aq Tryz.func110 rfl (Nat.le_of_ble_eq_true rfl) (fun c9 M vs hvs=>?_)
 unfold lD at h
 refine sr<|bx rfl<|bx rfl<|al (cs:=[.v (.bool false),slc 1 (List.map ah [])]) (by exact⟨SV.aa _,imp_nil,trivial⟩) rfl<|dn<|qq<|ai mixed<|fa rfl rfl<|lV rfl rfl rfl<|bE h fun fV iV h=>cl (bJ iV) ⟨rfl,trivial⟩<|fa rfl rfl<|lV rfl rfl rfl<|bE h fun gp kU h=>cl (bJ kU) ⟨rfl,trivial⟩<|ag rfl<|ag rfl ?_
 refine RT.done ⟨by kernel_rfl,?_⟩
 refine ae.n<|qq<|bE h fun e6 FF kV=>?_
 refine aP (fun(sJ:(List Int))=>AS.bL 28 [(4,.ptr 4 0),(5,.sv (slc 1 (List.map aS sJ)))] [(4,⟨35,[.sv (.v (.bool false)),.sv (slc 1 (List.map ah []))]⟩)] []) (fun sJ=>sJ=e6) ?_ (fun sJ FG=>?_)
 refine ax ?_
 refine aQ FF (fun s6=>AS.bL 28 [(4,.ptr 4 0),(5,.sv (slc 1 (List.map aS s6.1))),(6,.sv (slc 1 (List.map aS s6.2)))] [(4,⟨35,[.sv (.v (.bool false)),.sv (slc 1 (List.map ah []))]⟩)] []) (wR []) (fun s6 y6 G6 h FH Ck=>?_)
 obtain⟨lT,qJ⟩:=s6
 try dsimp only
 refine qq<|sr<|mv rfl<|lE h fun ek jz h=>ln rfl jz<|lE h fun dI iW h=>gt _ rfl rfl iW<|dn ?_
 cases dI
 refine cF<|aW<|ae.x<|ae.x<|aG.x<|ae.n ?_
 obtain rfl:=O (F h)
 exact⟨lT,Ck _ rfl,wR []⟩
 refine cT<|aE<|ae.n<|ax<|sr<|mv rfl<|mv rfl ?_
 obtain⟨⟨aeM,SZ⟩,mX,h⟩:=bS (V h)
 refine cl (vu mX) ⟨rfl,rfl,trivial⟩<|mv rfl<|ex rfl rfl<|ex rfl rfl<|ag rfl<|ag rfl<|dn<|af<|mv rfl<|mv rfl<|ag rfl<|ag rfl<|RT.done<|aG.n ?_
 obtain rfl:=O h
 exact ae.n ⟨(qJ,SZ),FH _ rfl,wR []⟩
 subst FG
 try dsimp only
 refine ae.n<|sr<|mv rfl ?_
 obtain⟨⟨nO,mQ⟩,nI,kV⟩:=bS kV
 refine cl (eC nI) ⟨rfl,rfl,trivial⟩<|so rfl rfl rfl<|dn<|aj ?_
 obtain rfl:=O kV
 exact RZ (.agg rfl rfl (.cons rfl (.cons rfl (.nil))) rfl (.nil))
end Go.Proofs.YtmiflmkdaeianaaGreat
namespace Go.Proofs.YtmiflmkdaeianaaGreat
open Go.Fw
noncomputable def jH:Option (Zr):=(eu 1).bind fun⟨bt,bn⟩=>some ⟨bt,bn⟩
noncomputable def dV(x0:Qr):Option (Zr):=match x0 with|⟨⟨aD,aB⟩,⟨cS,c8⟩⟩=>(cG ⟨cS,c8⟩).bind fun x5=>(some (decide ((x5:Int)=0))).bind fun x6=>(bif x6 then(jH).bind fun⟨oX,oY⟩=>some ⟨oX,oY⟩else(lB ⟨cS,c8⟩).bind fun⟨k7,k8⟩=>some ⟨k7,k8⟩)
noncomputable def eD(x0:Qr):Option (Zr):=match x0 with|⟨⟨aD,aB⟩,⟨cS,c8⟩⟩=>(cG ⟨cS,c8⟩).bind fun x5=>(some (decide ((x5:Int)<0))).bind fun x6=>(bif x6 then(iE ⟨aD,aB⟩).bind fun⟨Li,Lj⟩=>some ⟨Li,Lj⟩else(fH ⟨aD,aB⟩).bind fun⟨qw,qx⟩=>some ⟨qw,qx⟩)
noncomputable def gL(x0:Zr)(x1:Zr):Option (Qr):=match x0 with|⟨aD,aB⟩=>match x1 with|⟨bt,bn⟩=>(lD ⟨aD,aB⟩ ⟨bt,bn⟩).bind fun⟨my,mz⟩=>(fo ⟨aD,aB⟩ ⟨my,mz⟩).bind fun⟨⟨kL,kM⟩,⟨rA,rB⟩,afe⟩=>(fo ⟨bt,bn⟩ ⟨my,mz⟩).bind fun⟨⟨CO,CP⟩,⟨S9,Ta⟩,aff⟩=>(jH).bind fun⟨oP,oQ⟩=>(lz ⟨CO,CP⟩ ⟨oP,oQ⟩).bind fun lU=>(some (decide ((lU:Int)=0))).bind fun iu=>(bif iu then some ⟨⟨kL,kM⟩,⟨false,[]⟩⟩else some ⟨⟨kL,kM⟩,⟨CO,CP⟩⟩)
noncomputable def ji(x0:Qr):Option (Qr):=match x0 with|⟨⟨aD,aB⟩,⟨cS,c8⟩⟩=>(eD ⟨⟨aD,aB⟩,⟨cS,c8⟩⟩).bind fun⟨ou,ow⟩=>(dV ⟨⟨aD,aB⟩,⟨cS,c8⟩⟩).bind fun⟨CG,CH⟩=>(gL ⟨ou,ow⟩ ⟨CG,CH⟩).bind fun⟨⟨oX,oY⟩,⟨Ef,Eg⟩⟩=>some ⟨⟨oX,oY⟩,⟨Ef,Eg⟩⟩
noncomputable def ny(x0:Int)(x1:Int):Option (Qr):=(eu x0).bind fun⟨CG,CH⟩=>(eu x1).bind fun⟨oz,oA⟩=>(ji ⟨⟨CG,CH⟩,⟨oz,oA⟩⟩).bind fun⟨⟨k7,k8⟩,⟨PL,PM⟩⟩=>some ⟨⟨k7,k8⟩,⟨PL,PM⟩⟩
noncomputable def lF(x0:Qr)(x1:Qr):Option (Qr):=match x0 with|⟨⟨aD,aB⟩,⟨cS,c8⟩⟩=>match x1 with|⟨⟨bt,bn⟩,⟨oq,ot⟩⟩=>(eD ⟨⟨aD,aB⟩,⟨cS,c8⟩⟩).bind fun⟨oz,oA⟩=>(dV ⟨⟨bt,bn⟩,⟨oq,ot⟩⟩).bind fun⟨k7,k8⟩=>(iF ⟨oz,oA⟩ ⟨k7,k8⟩).bind fun⟨iq,mw⟩=>(eD ⟨⟨bt,bn⟩,⟨oq,ot⟩⟩).bind fun⟨qo,qp⟩=>(dV ⟨⟨aD,aB⟩,⟨cS,c8⟩⟩).bind fun⟨qy,qz⟩=>(iF ⟨qo,qp⟩ ⟨qy,qz⟩).bind fun⟨qt,qu⟩=>(fm ⟨iq,mw⟩ ⟨qt,qu⟩).bind fun⟨nT,nU⟩=>(dV ⟨⟨aD,aB⟩,⟨cS,c8⟩⟩).bind fun⟨vm,zK⟩=>(dV ⟨⟨bt,bn⟩,⟨oq,ot⟩⟩).bind fun⟨nj,nk⟩=>(iF ⟨vm,zK⟩ ⟨nj,nk⟩).bind fun⟨Bw,Hf⟩=>(gL ⟨nT,nU⟩ ⟨Bw,Hf⟩).bind fun⟨⟨gW,nP⟩,⟨PN,PO⟩⟩=>some ⟨⟨gW,nP⟩,⟨PN,PO⟩⟩
noncomputable def lG(x0:Qr):Option (Qr):=match x0 with|⟨⟨aD,aB⟩,⟨cS,c8⟩⟩=>(eD ⟨⟨aD,aB⟩,⟨cS,c8⟩⟩).bind fun⟨ou,ow⟩=>(iE ⟨ou,ow⟩).bind fun⟨Kx,Ky⟩=>(dV ⟨⟨aD,aB⟩,⟨cS,c8⟩⟩).bind fun⟨oX,oY⟩=>(gL ⟨Kx,Ky⟩ ⟨oX,oY⟩).bind fun⟨⟨oz,oA⟩,⟨Ln,Lo⟩⟩=>some ⟨⟨oz,oA⟩,⟨Ln,Lo⟩⟩
noncomputable def jI(x0:Qr)(x1:Qr):Option (Qr):=match x0 with|⟨⟨aD,aB⟩,⟨cS,c8⟩⟩=>match x1 with|⟨⟨bt,bn⟩,⟨oq,ot⟩⟩=>(lG ⟨⟨bt,bn⟩,⟨oq,ot⟩⟩).bind fun⟨⟨oX,oY⟩,⟨Ef,Eg⟩⟩=>(lF ⟨⟨aD,aB⟩,⟨cS,c8⟩⟩ ⟨⟨oX,oY⟩,⟨Ef,Eg⟩⟩).bind fun⟨⟨oz,oA⟩,⟨Ln,Lo⟩⟩=>some ⟨⟨oz,oA⟩,⟨Ln,Lo⟩⟩
noncomputable def kf(x0:Qr):Option (Int):=match x0 with|⟨⟨aD,aB⟩,⟨cS,c8⟩⟩=>(eD ⟨⟨aD,aB⟩,⟨cS,c8⟩⟩).bind fun⟨ou,ow⟩=>(cG ⟨ou,ow⟩).bind fun x5=>some x5
noncomputable def lH(x0:Qr)(x1:Qr):Option (Int):=match x0 with|⟨⟨aD,aB⟩,⟨cS,c8⟩⟩=>match x1 with|⟨⟨bt,bn⟩,⟨oq,ot⟩⟩=>(jI ⟨⟨aD,aB⟩,⟨cS,c8⟩⟩ ⟨⟨bt,bn⟩,⟨oq,ot⟩⟩).bind fun⟨⟨oX,oY⟩,⟨Ef,Eg⟩⟩=>(kf ⟨⟨oX,oY⟩,⟨Ef,Eg⟩⟩).bind fun x8=>some x8
noncomputable def jk(x0:Qr):Option (Zr):=match x0 with|⟨⟨aD,aB⟩,⟨cS,c8⟩⟩=>(eD ⟨⟨aD,aB⟩,⟨cS,c8⟩⟩).bind fun⟨oz,oA⟩=>(dV ⟨⟨aD,aB⟩,⟨cS,c8⟩⟩).bind fun⟨k7,k8⟩=>(fo ⟨oz,oA⟩ ⟨k7,k8⟩).bind fun⟨⟨rE,rF⟩,⟨FY,FZ⟩,SC⟩=>some ⟨rE,rF⟩
end Go.Proofs.YtmiflmkdaeianaaGreat
namespace Go.Proofs.YtmiflmkdaeianaaGreat
open Go.Fw Go.Fw.Z Go.RowKit
theorem vv{r:Zr}(h:jH=some r):Pure Tryz.prog 90 [] (.agg (eZ r)):=by
 refine aq Tryz.func90 rfl (Nat.le_of_ble_eq_true rfl) (fun c9 M vs hvs=>?_)
 unfold jH at h
 refine sr<|al (cs:=[.v (.bool false),slc 1 (List.map ah [])]) (by exact⟨SV.aa _,imp_nil,trivial⟩) rfl<|dn<|sr ?_
 obtain⟨⟨bt,bn⟩,h1,h⟩:=bS h
 refine cl (jh h1) ⟨rfl,trivial⟩<|so rfl rfl rfl<|dn<|aj ?_
 obtain rfl:=O h
 exact RZ (.agg rfl rfl (.cons rfl (.cons rfl (.nil))) rfl (.nil))
theorem gM{x0:Qr}{r:Zr}(h:dV x0=some r):Pure Tryz.prog 66 [.agg (eQ x0)] (.agg (eZ r)):=by
 obtain⟨⟨aD,aB⟩,⟨cS,c8⟩⟩:=x0
 refine aq Tryz.func66 rfl (Nat.le_of_ble_eq_true rfl) (fun c9 M vs hvs=>?_)
 unfold dV at h
 refine sr<|bx rfl<|al (cs:=[.v (.bool false),slc 1 (List.map ah [])]) (by exact⟨SV.aa _,imp_nil,trivial⟩) rfl<|dn<|qq<|sr<|fa rfl rfl<|ld rfl rfl (.cons rfl (.cons rfl (.nil)))<|bE h fun x5 h5 h=>cl (dP h5) ⟨rfl,trivial⟩<|lE h fun x6 h6 h=>eq _ rfl rfl (oN (p:=x5) (q:=0) h6)<|dn ?_
 cases x6
 refine fs<|sr<|fa rfl rfl<|ld rfl rfl (.cons rfl (.cons rfl (.nil))) ?_
 obtain⟨⟨k7,k8⟩,gG,h⟩:=bS (F h)
 refine cl (CL gG) ⟨rfl,trivial⟩<|so rfl rfl rfl<|dn<|aj ?_
 obtain rfl:=O h
 exact RZ (.agg rfl rfl (.cons rfl (.cons rfl (.nil))) rfl (.nil))
 refine cT<|sr ?_
 obtain⟨⟨oX,oY⟩,h7,h⟩:=bS (V h)
 refine cl (vv h7) trivial<|so rfl rfl rfl<|dn<|aj<|ae.r ?_
 obtain rfl:=O h
 exact RZ (.agg rfl rfl (.cons rfl (.cons rfl (.nil))) rfl (.nil))
theorem iP{x0:Qr}{r:Zr}(h:eD x0=some r):Pure Tryz.prog 65 [.agg (eQ x0)] (.agg (eZ r)):=by
 obtain⟨⟨aD,aB⟩,⟨cS,c8⟩⟩:=x0
 refine aq Tryz.func65 rfl (Nat.le_of_ble_eq_true rfl) (fun c9 M vs hvs=>?_)
 unfold eD at h
 refine sr<|bx rfl<|al (cs:=[.v (.bool false),slc 1 (List.map ah [])]) (by exact⟨SV.aa _,imp_nil,trivial⟩) rfl<|dn<|qq<|sr<|fa rfl rfl<|ld rfl rfl (.cons rfl (.cons rfl (.nil)))<|bE h fun x5 h5 h=>cl (dP h5) ⟨rfl,trivial⟩<|lE h fun x6 h6 h=>ls _ rfl rfl h6<|dn ?_
 cases x6
 refine fs<|sr<|fa rfl rfl<|ld rfl rfl (.cons rfl (.cons rfl (.nil))) ?_
 obtain⟨⟨qw,qx⟩,gX,h⟩:=bS (F h)
 refine cl (rT gX) ⟨rfl,trivial⟩<|so rfl rfl rfl<|dn<|aj ?_
 obtain rfl:=O h
 exact RZ (.agg rfl rfl (.cons rfl (.cons rfl (.nil))) rfl (.nil))
 refine cT<|sr<|fa rfl rfl<|ld rfl rfl (.cons rfl (.cons rfl (.nil))) ?_
 obtain⟨⟨Li,Lj⟩,h9,h⟩:=bS (V h)
 refine cl (qb h9) ⟨rfl,trivial⟩<|so rfl rfl rfl<|dn<|aj<|ae.r ?_
 obtain rfl:=O h
 exact RZ (.agg rfl rfl (.cons rfl (.cons rfl (.nil))) rfl (.nil))
theorem oC{x0:Zr}{x1:Zr}{r:Qr}(h:gL x0 x1=some r):Pure Tryz.prog 95 [.agg (eZ x0),.agg (eZ x1)] (.agg (eQ r)):=by
 obtain⟨aD,aB⟩:=x0
 obtain⟨bt,bn⟩:=x1
 refine aq Tryz.func95 rfl (Nat.le_of_ble_eq_true rfl) (fun c9 M vs hvs=>?_)
 unfold gL at h
 refine sr<|bx rfl<|bx rfl<|al (cs:=[.v (.bool false),slc 1 (List.map ah []),.v (.bool false),slc 1 (List.map ah [])]) (by exact⟨SV.aa _,imp_nil,SV.aa _,imp_nil,trivial⟩) rfl<|dn<|sr<|ld rfl rfl (.cons rfl (.cons rfl (.nil)))<|ld rfl rfl (.cons rfl (.cons rfl (.nil))) ?_
 obtain⟨⟨my,mz⟩,kU,h⟩:=bS h
 refine cl (CN kU) ⟨rfl,rfl,trivial⟩<|al (cs:=[.v (.bool false),slc 1 (List.map ah [])]) (by exact⟨SV.aa _,imp_nil,trivial⟩) rfl<|so rfl rfl rfl<|dn<|sr<|ld rfl rfl (.cons rfl (.cons rfl (.nil)))<|ld rfl rfl (.cons rfl (.cons rfl (.nil))) ?_
 obtain⟨⟨⟨kL,kM⟩,⟨rA,rB⟩,afe⟩,iN,h⟩:=bS h
 refine cl (mH iN) ⟨rfl,rfl,trivial⟩<|mv rfl<|ex rfl rfl<|ex rfl rfl<|ex rfl rfl<|al (cs:=[.v (.bool false),slc 1 (List.map ah [])]) (by exact⟨SV.aa _,imp_nil,trivial⟩) rfl<|al (cs:=[.v (.bool false),slc 1 (List.map ah [])]) (by exact⟨SV.aa _,imp_nil,trivial⟩) rfl<|so rfl rfl rfl<|so rfl rfl rfl<|ag rfl<|dn<|sr<|ld rfl rfl (.cons rfl (.cons rfl (.nil))) ?_
 refine ld rfl rfl (.cons rfl (.cons rfl (.nil))) ?_
 obtain⟨⟨⟨CO,CP⟩,⟨S9,Ta⟩,aff⟩,om,h⟩:=bS h
 refine cl (mH om) ⟨rfl,rfl,trivial⟩<|mv rfl<|ex rfl rfl<|ex rfl rfl<|ex rfl rfl<|al (cs:=[.v (.bool false),slc 1 (List.map ah [])]) (by exact⟨SV.aa _,imp_nil,trivial⟩) rfl<|al (cs:=[.v (.bool false),slc 1 (List.map ah [])]) (by exact⟨SV.aa _,imp_nil,trivial⟩) rfl<|so rfl rfl rfl<|so rfl rfl rfl<|ag rfl<|dn<|qq<|qq<|ai mixed<|ld rfl rfl (.cons rfl (.cons rfl (.nil))) ?_
 obtain⟨⟨oP,oQ⟩,vc,h⟩:=bS h
 refine cl (vv vc) trivial<|bE h fun lU sV h=>cl (CK sV) ⟨rfl,rfl,trivial⟩<|lE h fun iu lY h=>eq _ rfl rfl (oN (p:=lU) (q:=0) lY) ?_
 refine RT.done ⟨by kernel_rfl,?_⟩
 refine ae.n ?_
 cases iu
 refine fs<|sr<|ld rfl rfl (.cons rfl (.cons rfl (.nil)))<|ld rfl rfl (.cons rfl (.cons rfl (.nil)))<|bI (cs:=[_,_,_,_]) (cs':=[.v (.bool kL),slc 1 (List.map ah kM),.v (.bool CO),slc 1 (List.map ah CP)]) (.agg rfl (.agg rfl (.nil))) ⟨SV.aa _,SV.aa _,SV.aa _,SV.aa _,trivial⟩<|so rfl rfl rfl<|dn<|aj ?_
 obtain rfl:=O (F h)
 exact RZ (.agg rfl rfl (.cons rfl (.cons rfl (.cons rfl (.cons rfl (.nil))))) rfl (.nil))
 refine cT<|sr<|ld rfl rfl (.cons rfl (.cons rfl (.nil)))<|bI (cs:=[_,_,_,_]) (cs':=[.v (.bool kL),slc 1 (List.map ah kM),.v (.bool false),slc 1 (List.map ah [])]) (.agg rfl (.nil)) ⟨SV.aa _,SV.aa _,SV.aa _,imp_nil,trivial⟩<|so rfl rfl rfl<|dn<|aj<|ae.r ?_
 obtain rfl:=O (V h)
 exact RZ (.agg rfl rfl (.cons rfl (.cons rfl (.cons rfl (.cons rfl (.nil))))) rfl (.nil))
theorem zU{x0:Qr}{r:Qr}(h:ji x0=some r):Pure Tryz.prog 76 [.agg (eQ x0)] (.agg (eQ r)):=by
 obtain⟨⟨aD,aB⟩,⟨cS,c8⟩⟩:=x0
 refine aq Tryz.func76 rfl (Nat.le_of_ble_eq_true rfl) (fun c9 M vs hvs=>?_)
 unfold ji at h
 refine sr<|bx rfl<|al (cs:=[.v (.bool false),slc 1 (List.map ah []),.v (.bool false),slc 1 (List.map ah [])]) (by exact⟨SV.aa _,imp_nil,SV.aa _,imp_nil,trivial⟩) rfl<|dn<|qq<|ai mixed<|ld rfl rfl (.cons rfl (.cons rfl (.cons rfl (.cons rfl (.nil))))) ?_
 obtain⟨⟨ou,ow⟩,h4,h⟩:=bS h
 refine cl (iP h4) ⟨rfl,trivial⟩<|ld rfl rfl (.cons rfl (.cons rfl (.cons rfl (.cons rfl (.nil))))) ?_
 obtain⟨⟨CG,CH⟩,h6,h⟩:=bS h
 refine cl (gM h6) ⟨rfl,trivial⟩ ?_
 obtain⟨⟨⟨oX,oY⟩,⟨Ef,Eg⟩⟩,h7,h⟩:=bS h
 refine cl (oC h7) ⟨rfl,rfl,trivial⟩<|so rfl rfl rfl ?_
 refine RT.done ⟨by kernel_rfl,?_⟩
 refine ae.n<|aj ?_
 obtain rfl:=O h
 exact RZ (.agg rfl rfl (.cons rfl (.cons rfl (.cons rfl (.cons rfl (.nil))))) rfl (.nil))
theorem Eh{x0:Int}{x1:Int}{r:Qr}(h:ny x0 x1=some r):Pure Tryz.prog 44 [.v (.int .i64 x0),.v (.int .i64 x1)] (.agg (eQ r)):=by
 refine aq Tryz.func44 rfl (Nat.le_of_ble_eq_true rfl) (fun c9 M vs hvs=>?_)
 unfold ny at h
 refine sr<|al (cs:=[.v (.bool false),slc 1 (List.map ah []),.v (.bool false),slc 1 (List.map ah [])]) (by exact⟨SV.aa _,imp_nil,SV.aa _,imp_nil,trivial⟩) rfl<|dn<|sr<|mv rfl ?_
 obtain⟨⟨CG,CH⟩,h6,h⟩:=bS h
 refine cl (jh h6) ⟨rfl,trivial⟩<|mv rfl ?_
 obtain⟨⟨oz,oA⟩,h8,h⟩:=bS h
 refine cl (jh h8) ⟨rfl,trivial⟩<|bI (cs:=[_,_,_,_]) (cs':=[.v (.bool CG),slc 1 (List.map ah CH),.v (.bool oz),slc 1 (List.map ah oA)]) (.agg rfl (.agg rfl (.nil))) ⟨SV.aa _,SV.aa _,SV.aa _,SV.aa _,trivial⟩ ?_
 obtain⟨⟨⟨k7,k8⟩,⟨PL,PM⟩⟩,gG,h⟩:=bS h
 refine cl (zU gG) ⟨rfl,trivial⟩<|so rfl rfl rfl<|dn<|aj ?_
 obtain rfl:=O h
 exact RZ (.agg rfl rfl (.cons rfl (.cons rfl (.cons rfl (.cons rfl (.nil))))) rfl (.nil))
theorem CQ{x0:Qr}{x1:Qr}{r:Qr}(h:lF x0 x1=some r):Pure Tryz.prog 73 [.agg (eQ x0),.agg (eQ x1)] (.agg (eQ r)):=by
 obtain⟨⟨aD,aB⟩,⟨cS,c8⟩⟩:=x0
 obtain⟨⟨bt,bn⟩,⟨oq,ot⟩⟩:=x1
 refine aq Tryz.func73 rfl (Nat.le_of_ble_eq_true rfl) (fun c9 M vs hvs=>?_)
 unfold lF at h
 refine sr<|bx rfl<|bx rfl<|al (cs:=[.v (.bool false),slc 1 (List.map ah []),.v (.bool false),slc 1 (List.map ah [])]) (by exact⟨SV.aa _,imp_nil,SV.aa _,imp_nil,trivial⟩) rfl<|dn<|qq<|ai mixed<|ld rfl rfl (.cons rfl (.cons rfl (.cons rfl (.cons rfl (.nil))))) ?_
 obtain⟨⟨oz,oA⟩,h8,h⟩:=bS h
 refine cl (iP h8) ⟨rfl,trivial⟩<|ld rfl rfl (.cons rfl (.cons rfl (.cons rfl (.cons rfl (.nil))))) ?_
 obtain⟨⟨k7,k8⟩,gG,h⟩:=bS h
 refine cl (gM gG) ⟨rfl,trivial⟩ ?_
 obtain⟨⟨iq,mw⟩,iV,h⟩:=bS h
 refine cl (qc iV) ⟨rfl,rfl,trivial⟩<|ld rfl rfl (.cons rfl (.cons rfl (.cons rfl (.cons rfl (.nil))))) ?_
 obtain⟨⟨qo,qp⟩,jy,h⟩:=bS h
 refine cl (iP jy) ⟨rfl,trivial⟩<|ld rfl rfl (.cons rfl (.cons rfl (.cons rfl (.cons rfl (.nil))))) ?_
 obtain⟨⟨qy,qz⟩,nK,h⟩:=bS h
 refine cl (gM nK) ⟨rfl,trivial⟩ ?_
 obtain⟨⟨qt,qu⟩,jz,h⟩:=bS h
 refine cl (qc jz) ⟨rfl,rfl,trivial⟩<|al (cs:=[.v (.bool false),slc 1 (List.map ah [])]) (by exact⟨SV.aa _,imp_nil,trivial⟩) rfl<|al (cs:=[.v (.bool false),slc 1 (List.map ah [])]) (by exact⟨SV.aa _,imp_nil,trivial⟩) rfl<|so rfl rfl rfl<|so rfl rfl rfl ?_
 refine RT.done ⟨by kernel_rfl,?_⟩
 refine ae.n<|qq<|ai mixed<|ld rfl rfl (.cons rfl (.cons rfl (.nil)))<|ld rfl rfl (.cons rfl (.cons rfl (.nil))) ?_
 obtain⟨⟨nT,nU⟩,mW,h⟩:=bS h
 refine cl (ke mW) ⟨rfl,rfl,trivial⟩<|ld rfl rfl (.cons rfl (.cons rfl (.cons rfl (.cons rfl (.nil))))) ?_
 obtain⟨⟨vm,zK⟩,mX,h⟩:=bS h
 refine cl (gM mX) ⟨rfl,trivial⟩<|ld rfl rfl (.cons rfl (.cons rfl (.cons rfl (.cons rfl (.nil))))) ?_
 obtain⟨⟨nj,nk⟩,mB,h⟩:=bS h
 refine cl (gM mB) ⟨rfl,trivial⟩ ?_
 obtain⟨⟨Bw,Hf⟩,lQ,h⟩:=bS h
 refine cl (qc lQ) ⟨rfl,rfl,trivial⟩ ?_
 obtain⟨⟨⟨gW,nP⟩,⟨PN,PO⟩⟩,om,h⟩:=bS h
 refine cl (oC om) ⟨rfl,rfl,trivial⟩<|so rfl rfl rfl ?_
 refine RT.done ⟨by kernel_rfl,?_⟩
 refine ae.n<|aj ?_
 obtain rfl:=O h
 exact RZ (.agg rfl rfl (.cons rfl (.cons rfl (.cons rfl (.cons rfl (.nil))))) rfl (.nil))
theorem CR{x0:Qr}{r:Qr}(h:lG x0=some r):Pure Tryz.prog 74 [.agg (eQ x0)] (.agg (eQ r)):=by
 obtain⟨⟨aD,aB⟩,⟨cS,c8⟩⟩:=x0
 refine aq Tryz.func74 rfl (Nat.le_of_ble_eq_true rfl) (fun c9 M vs hvs=>?_)
 unfold lG at h
 refine sr<|bx rfl<|al (cs:=[.v (.bool false),slc 1 (List.map ah []),.v (.bool false),slc 1 (List.map ah [])]) (by exact⟨SV.aa _,imp_nil,SV.aa _,imp_nil,trivial⟩) rfl<|dn<|qq<|ai mixed<|ld rfl rfl (.cons rfl (.cons rfl (.cons rfl (.cons rfl (.nil))))) ?_
 obtain⟨⟨ou,ow⟩,h4,h⟩:=bS h
 refine cl (iP h4) ⟨rfl,trivial⟩ ?_
 obtain⟨⟨Kx,Ky⟩,h5,h⟩:=bS h
 refine cl (qb h5) ⟨rfl,trivial⟩<|ld rfl rfl (.cons rfl (.cons rfl (.cons rfl (.cons rfl (.nil))))) ?_
 obtain⟨⟨oX,oY⟩,h7,h⟩:=bS h
 refine cl (gM h7) ⟨rfl,trivial⟩ ?_
 obtain⟨⟨⟨oz,oA⟩,⟨Ln,Lo⟩⟩,h8,h⟩:=bS h
 refine cl (oC h8) ⟨rfl,rfl,trivial⟩<|so rfl rfl rfl ?_
 refine RT.done ⟨by kernel_rfl,?_⟩
 refine ae.n<|aj ?_
 obtain rfl:=O h
 exact RZ (.agg rfl rfl (.cons rfl (.cons rfl (.cons rfl (.cons rfl (.nil))))) rfl (.nil))
theorem vw{x0:Qr}{x1:Qr}{r:Qr}(h:jI x0 x1=some r):Pure Tryz.prog 42 [.agg (eQ x0),.agg (eQ x1)] (.agg (eQ r)):=by
 obtain⟨⟨aD,aB⟩,⟨cS,c8⟩⟩:=x0
 obtain⟨⟨bt,bn⟩,⟨oq,ot⟩⟩:=x1
 refine aq Tryz.func42 rfl (Nat.le_of_ble_eq_true rfl) (fun c9 M vs hvs=>?_)
 unfold jI at h
 refine sr<|bx rfl<|bx rfl<|al (cs:=[.v (.bool false),slc 1 (List.map ah []),.v (.bool false),slc 1 (List.map ah [])]) (by exact⟨SV.aa _,imp_nil,SV.aa _,imp_nil,trivial⟩) rfl<|dn<|qq<|ai mixed<|ld rfl rfl (.cons rfl (.cons rfl (.cons rfl (.cons rfl (.nil)))))<|ld rfl rfl (.cons rfl (.cons rfl (.cons rfl (.cons rfl (.nil))))) ?_
 obtain⟨⟨⟨oX,oY⟩,⟨Ef,Eg⟩⟩,h7,h⟩:=bS h
 refine cl (CR h7) ⟨rfl,trivial⟩ ?_
 obtain⟨⟨⟨oz,oA⟩,⟨Ln,Lo⟩⟩,h8,h⟩:=bS h
 refine cl (CQ h8) ⟨rfl,rfl,trivial⟩<|so rfl rfl rfl ?_
 refine RT.done ⟨by kernel_rfl,?_⟩
 refine ae.n<|aj ?_
 obtain rfl:=O h
 exact RZ (.agg rfl rfl (.cons rfl (.cons rfl (.cons rfl (.cons rfl (.nil))))) rfl (.nil))
theorem AT{x0:Qr}{r:Int}(h:kf x0=some r):Pure Tryz.prog 75 [.agg (eQ x0)] (.v (.int .i64 r)):=by
 obtain⟨⟨aD,aB⟩,⟨cS,c8⟩⟩:=x0
 refine aq Tryz.func75 rfl (Nat.le_of_ble_eq_true rfl) (fun c9 M vs hvs=>?_)
 unfold kf at h
 refine sr<|bx rfl<|ag rfl<|dn<|sr<|ld rfl rfl (.cons rfl (.cons rfl (.cons rfl (.cons rfl (.nil))))) ?_
 obtain⟨⟨ou,ow⟩,h4,h⟩:=bS h
 refine cl (iP h4) ⟨rfl,trivial⟩<|bE h fun x5 h5 h=>cl (dP h5) ⟨rfl,trivial⟩<|ag rfl<|dn<|aj ?_
 obtain rfl:=O h
 exact R1 rfl
theorem CS{x0:Qr}{x1:Qr}{r:Int}(h:lH x0 x1=some r):Pure Tryz.prog 43 [.agg (eQ x0),.agg (eQ x1)] (.v (.int .i64 r)):=by
 obtain⟨⟨aD,aB⟩,⟨cS,c8⟩⟩:=x0
 obtain⟨⟨bt,bn⟩,⟨oq,ot⟩⟩:=x1
 refine aq Tryz.func43 rfl (Nat.le_of_ble_eq_true rfl) (fun c9 M vs hvs=>?_)
 unfold lH at h
 refine sr<|bx rfl<|bx rfl<|ag rfl<|dn<|sr<|ld rfl rfl (.cons rfl (.cons rfl (.cons rfl (.cons rfl (.nil)))))<|ld rfl rfl (.cons rfl (.cons rfl (.cons rfl (.cons rfl (.nil))))) ?_
 obtain⟨⟨⟨oX,oY⟩,⟨Ef,Eg⟩⟩,h7,h⟩:=bS h
 refine cl (vw h7) ⟨rfl,rfl,trivial⟩<|bE h fun x8 h8 h=>cl (AT h8) ⟨rfl,trivial⟩<|ag rfl<|dn<|aj ?_
 obtain rfl:=O h
 exact R1 rfl
theorem zV{x0:Qr}{r:Zr}(h:jk x0=some r):Pure Tryz.prog 39 [.agg (eQ x0)] (.agg (eZ r)):=by
 obtain⟨⟨aD,aB⟩,⟨cS,c8⟩⟩:=x0
 refine aq Tryz.func39 rfl (Nat.le_of_ble_eq_true rfl) (fun c9 M vs hvs=>?_)
 unfold jk at h
 refine sr<|bx rfl<|al (cs:=[.v (.bool false),slc 1 (List.map ah [])]) (by exact⟨SV.aa _,imp_nil,trivial⟩) rfl<|dn<|qq<|ai mixed<|ld rfl rfl (.cons rfl (.cons rfl (.cons rfl (.cons rfl (.nil))))) ?_
 obtain⟨⟨oz,oA⟩,h8,h⟩:=bS h
 refine cl (iP h8) ⟨rfl,trivial⟩<|ld rfl rfl (.cons rfl (.cons rfl (.cons rfl (.cons rfl (.nil))))) ?_
 obtain⟨⟨k7,k8⟩,gG,h⟩:=bS h
 refine cl (gM gG) ⟨rfl,trivial⟩ ?_
 obtain⟨⟨⟨rE,rF⟩,⟨FY,FZ⟩,SC⟩,iV,h⟩:=bS h
 refine cl (mH iV) ⟨rfl,rfl,trivial⟩<|mv rfl<|ex rfl rfl<|ex rfl rfl<|ex rfl rfl<|al (cs:=[.v (.bool false),slc 1 (List.map ah [])]) (by exact⟨SV.aa _,imp_nil,trivial⟩) rfl<|al (cs:=[.v (.bool false),slc 1 (List.map ah [])]) (by exact⟨SV.aa _,imp_nil,trivial⟩) rfl<|so rfl rfl rfl<|so rfl rfl rfl<|ag rfl ?_
 refine RT.done ⟨by kernel_rfl,?_⟩
 refine ae.n<|sr<|ld rfl rfl (.cons rfl (.cons rfl (.nil)))<|so rfl rfl rfl<|dn<|aj ?_
 obtain rfl:=O h
 exact RZ (.agg rfl rfl (.cons rfl (.cons rfl (.nil))) rfl (.nil))
end Go.Proofs.YtmiflmkdaeianaaGreat
namespace Go.Proofs.YtmiflmkdaeianaaGreat
open Go.Fw
noncomputable def jl(x0:Qr):Option (Zr):=match x0 with|⟨⟨aD,aB⟩,⟨cS,c8⟩⟩=>(jk ⟨⟨aD,aB⟩,⟨cS,c8⟩⟩).bind fun⟨iq,mw⟩=>(eu 1).bind fun⟨qo,qp⟩=>(fm ⟨iq,mw⟩ ⟨qo,qp⟩).bind fun⟨my,mz⟩=>(jI ⟨⟨aD,aB⟩,⟨cS,c8⟩⟩ ⟨⟨iq,mw⟩,⟨false,[]⟩⟩).bind fun⟨⟨Bq,Br⟩,⟨PR,PS⟩⟩=>(ny 1 2).bind fun⟨⟨ei,kH⟩,⟨vo,qD⟩⟩=>(lH ⟨⟨Bq,Br⟩,⟨PR,PS⟩⟩ ⟨⟨ei,kH⟩,⟨vo,qD⟩⟩).bind fun ij=>(some (decide ((ij:Int)<0))).bind fun ig=>(bif ig then some ⟨iq,mw⟩else(some (decide ((0:Int)<ij))).bind fun gu=>(bif gu then some ⟨my,mz⟩else(eu 2).bind fun⟨oP,oQ⟩=>(fo ⟨iq,mw⟩ ⟨oP,oQ⟩).bind fun⟨⟨Tb,Tc⟩,⟨Lp,Lq⟩,afg⟩=>(cG ⟨Lp,Lq⟩).bind fun oH=>(some (decide ((oH:Int)=0))).bind fun qG=>(bif qG then some ⟨iq,mw⟩else some ⟨my,mz⟩)))
noncomputable def kg(x0:List En)(x1:List En):Option (Bool):=(some (x0.length:Int)).bind fun x7=>(some (x1.length:Int)).bind fun x9=>(some (decide ((x7:Int)≠x9))).bind fun eG=>(bif eG then some false else(bC (fun(qE:Int)=>(show Option ((Int)⊕((Unit)⊕(Bool)))from(some (x0.length:Int)).bind fun fE=>(some (decide ((qE:Int)<fE))).bind fun gp=>(bif gp then bM (fun(Ge:Bool)=>(bif Ge then some (.inr (.inr false))else(some (IntKind.i64.wrap (qE+1))).bind fun ek=>some (.inl ek))) fun K34=>(bQ x0 qE).bind fun⟨nT,nU,Ls,⟨Hg,Hh⟩⟩=>(bQ x1 qE).bind fun⟨Bw,Hf,Wr,⟨Ws,Wt⟩⟩=>(some (decide ((nT:Int)≠Bw))).bind fun jr=>(bif jr then some true else(bQ x0 qE).bind fun⟨GS,Bn,Wu,⟨Wv,Ww⟩⟩=>(bQ x1 qE).bind fun⟨jS,jb,Hi,⟨Hj,Wx⟩⟩=>(some (decide ((Bn:Nat)≠jb))).bind fun qN=>some qN).bind fun Lt=>(bif Lt then some true else(bQ x0 qE).bind fun⟨GU,GV,Lu,⟨Wy,Wz⟩⟩=>(bQ x1 qE).bind fun⟨zq,zu,Lw,⟨WA,WB⟩⟩=>(some (decide ((Lu:Int)≠Lw))).bind fun xO=>some xO).bind fun Td=>(bif Td then some true else(bQ x0 qE).bind fun⟨WC,WD,WE,⟨PT,PU⟩⟩=>(bQ x1 qE).bind fun⟨WG,WH,WI,⟨PW,PX⟩⟩=>(dm ⟨PT,PU⟩ ⟨PW,PX⟩).bind fun Mw=>(some (!Mw)).bind fun Jh=>some Jh).bind fun Te=>K34 Te else some (.inr (.inl ()))))) 0).bind fun V0=>match V0 with|.inr v24=>some v24|.inl _=>some true)
end Go.Proofs.YtmiflmkdaeianaaGreat
namespace Go.Proofs.YtmiflmkdaeianaaGreat
open Go.Fw Go.Fw.Z Go.RowKit
theorem zW{x0:Qr}{r:Zr}(h:jl x0=some r):Pure Tryz.prog 23 [.agg (eQ x0)] (.agg (eZ r)):=by
 obtain⟨⟨aD,aB⟩,⟨cS,c8⟩⟩:=x0
 refine aq Tryz.func23 rfl (Nat.le_of_ble_eq_true rfl) (fun c9 M vs hvs=>?_)
 unfold jl at h
 refine sr<|bx rfl<|al (cs:=[.v (.bool false),slc 1 (List.map ah [])]) (by exact⟨SV.aa _,imp_nil,trivial⟩) rfl<|dn<|sr<|ld rfl rfl (.cons rfl (.cons rfl (.cons rfl (.cons rfl (.nil))))) ?_
 obtain⟨⟨iq,mw⟩,iV,h⟩:=bS h
 refine cl (zV iV) ⟨rfl,trivial⟩<|al (cs:=[.v (.bool false),slc 1 (List.map ah [])]) (by exact⟨SV.aa _,imp_nil,trivial⟩) rfl<|so rfl rfl rfl<|dn<|qq<|ai mixed<|ld rfl rfl (.cons rfl (.cons rfl (.nil))) ?_
 obtain⟨⟨qo,qp⟩,jy,h⟩:=bS h
 refine cl (jh jy) ⟨rfl,trivial⟩ ?_
 obtain⟨⟨my,mz⟩,kU,h⟩:=bS h
 refine cl (ke kU) ⟨rfl,rfl,trivial⟩<|al (cs:=[.v (.bool false),slc 1 (List.map ah [])]) (by exact⟨SV.aa _,imp_nil,trivial⟩) rfl<|so rfl rfl rfl ?_
 refine RT.done ⟨by kernel_rfl,?_⟩
 refine ae.n<|sr<|ld rfl rfl (.cons rfl (.cons rfl (.cons rfl (.cons rfl (.nil)))))<|ld rfl rfl (.cons rfl (.cons rfl (.nil)))<|bI (cs:=[_,_,_,_]) (cs':=[.v (.bool iq),slc 1 (List.map ah mw),.v (.bool false),slc 1 (List.map ah [])]) (.agg rfl (.nil)) ⟨SV.aa _,SV.aa _,SV.aa _,imp_nil,trivial⟩ ?_
 obtain⟨⟨⟨Bq,Br⟩,⟨PR,PS⟩⟩,iN,h⟩:=bS h
 refine cl (vw iN) ⟨rfl,rfl,trivial⟩<|al (cs:=[.v (.bool false),slc 1 (List.map ah []),.v (.bool false),slc 1 (List.map ah [])]) (by exact⟨SV.aa _,imp_nil,SV.aa _,imp_nil,trivial⟩) rfl<|so rfl rfl rfl<|dn<|qq<|ai mixed<|ld rfl rfl (.cons rfl (.cons rfl (.cons rfl (.cons rfl (.nil))))) ?_
 obtain⟨⟨⟨ei,kH⟩,⟨vo,qD⟩⟩,kE,h⟩:=bS h
 refine cl (Eh kE) ⟨rfl,rfl,trivial⟩<|bE h fun ij mX h=>cl (CS mX) ⟨rfl,rfl,trivial⟩<|ag rfl ?_
 refine RT.done ⟨by kernel_rfl,?_⟩
 refine ae.n<|qq<|sr<|mv rfl<|lE h fun ig mB h=>ls _ rfl rfl mB<|dn ?_
 cases ig
 refine fs<|qq<|sr<|mv rfl<|lE (F h) fun gu mD h=>gt _ rfl rfl mD<|dn ?_
 cases gu
 refine fs<|qq<|ai mixed<|ld rfl rfl (.cons rfl (.cons rfl (.nil))) ?_
 obtain⟨⟨oP,oQ⟩,vc,h⟩:=bS (F h)
 refine cl (jh vc) ⟨rfl,trivial⟩ ?_
 obtain⟨⟨⟨Tb,Tc⟩,⟨Lp,Lq⟩,afg⟩,sV,h⟩:=bS h
 refine cl (mH sV) ⟨rfl,rfl,trivial⟩<|mv rfl<|ex rfl rfl<|ex rfl rfl<|ex rfl rfl<|al (cs:=[.v (.bool false),slc 1 (List.map ah [])]) (by exact⟨SV.aa _,imp_nil,trivial⟩) rfl<|al (cs:=[.v (.bool false),slc 1 (List.map ah [])]) (by exact⟨SV.aa _,imp_nil,trivial⟩) rfl<|so rfl rfl rfl<|so rfl rfl rfl<|ag rfl ?_
 refine RT.done ⟨by kernel_rfl,?_⟩
 refine ae.n<|qq<|sr<|ld rfl rfl (.cons rfl (.cons rfl (.nil)))<|bE h fun oH qI h=>cl (dP qI) ⟨rfl,trivial⟩<|lE h fun qG xR h=>eq _ rfl rfl (oN (p:=oH) (q:=0) xR)<|dn ?_
 cases qG
 refine fs<|sr<|ld rfl rfl (.cons rfl (.cons rfl (.nil)))<|so rfl rfl rfl<|dn<|aj ?_
 obtain rfl:=O (F h)
 exact RZ (.agg rfl rfl (.cons rfl (.cons rfl (.nil))) rfl (.nil))
 refine cT<|sr<|ld rfl rfl (.cons rfl (.cons rfl (.nil)))<|so rfl rfl rfl<|dn<|aj<|ae.r ?_
 obtain rfl:=O (V h)
 exact RZ (.agg rfl rfl (.cons rfl (.cons rfl (.nil))) rfl (.nil))
 refine cT<|sr<|ld rfl rfl (.cons rfl (.cons rfl (.nil)))<|so rfl rfl rfl<|dn<|aj<|ae.r ?_
 obtain rfl:=O (V h)
 exact RZ (.agg rfl rfl (.cons rfl (.cons rfl (.nil))) rfl (.nil))
 refine cT<|sr<|ld rfl rfl (.cons rfl (.cons rfl (.nil)))<|so rfl rfl rfl<|dn<|aj<|ae.r ?_
 obtain rfl:=O (V h)
 exact RZ (.agg rfl rfl (.cons rfl (.cons rfl (.nil))) rfl (.nil))
theorem AU{x0:List En}{x1:List En}{r:Bool}(h:kg x0 x1=some r):Pure Tryz.prog 24 [slc 5 (List.map dH x0),slc 5 (List.map dH x1)] (.v (.bool r)):=by
 refine aq Tryz.func24 rfl (Nat.le_of_ble_eq_true rfl) (fun c9 M vs hvs=>?_)
 unfold kg at h
 refine sr<|ag rfl<|dn<|qq<|sr<|mv rfl<|lE h fun x7 h7 h=>ln rfl h7<|mv rfl<|lE h fun x9 h9 h=>ln rfl h9<|lE h fun eG gG h=>ne _ rfl rfl (It (p:=x7) (q:=x9) gG)<|dn ?_
 cases eG
 refine fs<|qq<|sr<|ag rfl<|dn<|bE (F h) fun V0 Sg IL=>?_
 refine aP (fun(Tf:Unit)=>AS.bL 68 [] [] []) (fun Tf=>.inl Tf=V0) ?_ (fun Tf Sh=>?_)
 refine ax ?_
 refine aQ Sg (fun Pa=>AS.bL 68 [(0,.sv (slc 5 (List.map dH x0))),(1,.sv (slc 5 (List.map dH x1))),(5,.sv (.v (.int .i64 Pa)))] [] []) (wR []) (fun qE y24 G24 h Si Nj=>?_)
 try dsimp only
 refine qq<|sr<|mv rfl<|mv rfl<|lE h fun fE jy h=>ln rfl jy<|lE h fun gp kU h=>ls _ rfl rfl kU<|dn ?_
 cases gp
 refine cF<|aW<|ae.x<|ae.x<|aG.x<|ae.n ?_
 obtain rfl:=O (F h)
 exact⟨(),Nj _ rfl,wR []⟩
 refine cT<|aE<|ae.n<|qq<|ax<|qq ?_
 refine aC (V h) (fun j34=>AS.bL 68 [(0,.sv (slc 5 (List.map dH x0))),(1,.sv (slc 5 (List.map dH x1))),(5,.sv (.v (.int .i64 qE))),(67,.sv (.v (.bool j34)))] [] []) (fun h=>?_) (fun Ge h=>?_)
 refine ai mixed<|mv rfl<|mv rfl ?_
 obtain⟨⟨nT,nU,Ls,⟨Hg,Hh⟩⟩,mW,h⟩:=bS h
 refine ix rfl rfl mW<|RT.aH .none rfl T rfl<|lr rfl rfl<|mv rfl<|mv rfl ?_
 obtain⟨⟨Bw,Hf,Wr,⟨Ws,Wt⟩⟩,lQ,h⟩:=bS h
 refine ix rfl rfl lQ<|RT.aH .none rfl T rfl<|lr rfl rfl<|lE h fun jr nI h=>ne _ rfl rfl (It (p:=nT) (q:=Bw) nI)<|mv rfl<|bE h fun Lt AL h=>?_
 cases jr
 refine gm rfl<|gm rfl ?_
 obtain⟨⟨GS,Bn,Wu,⟨Wv,Ww⟩⟩,sV,AL⟩:=bS (F AL)
 refine RT.Iy (.some rfl rfl) rfl rfl T sV<|RT.aH (.some rfl rfl) rfl T rfl<|gr rfl rfl<|gm rfl<|gm rfl ?_
 obtain⟨⟨jS,jb,Hi,⟨Hj,Wx⟩⟩,qI,AL⟩:=bS AL
 refine RT.Iy (.some rfl rfl) rfl rfl T qI<|RT.aH (.some rfl rfl) rfl T rfl<|gr rfl rfl<|lE AL fun qN Ct AL=>gq _ rfl rfl (Ue (p:=Bn) (q:=jb) Ct) ?_
 obtain rfl:=O AL
 refine pF rfl<|mv rfl<|bE h fun afh AM h=>?_
 cases qN
 refine gm rfl<|gm rfl ?_
 obtain⟨⟨GU,GV,Lu,⟨Wy,Wz⟩⟩,FL,AM⟩:=bS (F AM)
 refine RT.Iy (.some rfl rfl) rfl rfl T FL<|RT.aH (.some rfl rfl) rfl T rfl<|gr rfl rfl<|gm rfl<|gm rfl ?_
 obtain⟨⟨zq,zu,Lw,⟨WA,WB⟩⟩,Nh,AM⟩:=bS AM
 refine RT.Iy (.some rfl rfl) rfl rfl T Nh<|RT.aH (.some rfl rfl) rfl T rfl<|gr rfl rfl<|lE AM fun xO IF AM=>gq _ rfl rfl (It (p:=Lu) (q:=Lw) IF) ?_
 obtain rfl:=O AM
 refine pF rfl<|mv rfl<|bE h fun afi xS h=>?_
 cases xO
 refine gm rfl<|gm rfl ?_
 obtain⟨⟨WC,WD,WE,⟨PT,PU⟩⟩,VK,xS⟩:=bS (F xS)
 refine RT.Iy (.some rfl rfl) rfl rfl T VK<|RT.aH (.some rfl rfl) rfl T rfl<|RT.kF (cs:=[_,_]) (.some rfl rfl) rfl T rfl rfl<|gm rfl<|gm rfl ?_
 obtain⟨⟨WG,WH,WI,⟨PW,PX⟩⟩,VQ,xS⟩:=bS xS
 refine RT.Iy (.some rfl rfl) rfl rfl T VQ<|RT.aH (.some rfl rfl) rfl T rfl<|RT.kF (cs:=[_,_]) (.some rfl rfl) rfl T rfl rfl<|bE xS fun Mw Pe xS=>gc (jg Pe) ⟨rfl,rfl,trivial⟩<|lE xS fun Jh VO xS=>gt_ rfl _ VO ?_
 obtain rfl:=O xS
 refine pF rfl ?_
 refine RT.done ⟨by kernel_rfl,?_⟩
 exact ae.n<|⟨Jh,h,wR []⟩
 obtain rfl:=O (V xS)
 refine ww<|ww<|ww<|ww<|ww<|ww<|ww<|ww<|ww<|ww<|ww<|ww<|pT rfl ?_
 refine RT.done ⟨by kernel_rfl,?_⟩
 exact ae.n<|⟨true,h,wR []⟩
 obtain rfl:=O (V AM)
 refine ww<|ww<|ww<|ww<|ww<|ww<|ww<|ww<|ww<|ww<|ww<|pT rfl<|mv rfl<|bE h fun afj SD h=>?_
 obtain rfl:=O (V SD)
 refine ww<|ww<|ww<|ww<|ww<|ww<|ww<|ww<|ww<|ww<|ww<|ww<|pT rfl ?_
 refine RT.done ⟨by kernel_rfl,?_⟩
 exact ae.n<|⟨true,h,wR []⟩
 obtain rfl:=O (V AL)
 refine ww<|ww<|ww<|ww<|ww<|ww<|ww<|ww<|ww<|ww<|ww<|pT rfl<|mv rfl<|bE h fun afk SE h=>?_
 obtain rfl:=O (V SE)
 refine ww<|ww<|ww<|ww<|ww<|ww<|ww<|ww<|ww<|ww<|ww<|pT rfl<|mv rfl<|bE h fun afl SF h=>?_
 obtain rfl:=O (V SF)
 refine ww<|ww<|ww<|ww<|ww<|ww<|ww<|ww<|ww<|ww<|ww<|ww<|pT rfl ?_
 refine RT.done ⟨by kernel_rfl,?_⟩
 exact ae.n<|⟨true,h,wR []⟩
 try dsimp only
 refine ae.n ?_
 cases Ge
 refine cF<|aE<|aG.n<|ae.n<|af<|mv rfl<|lE (F h) fun ek jz h=>ad _ rfl rfl jz<|ag rfl<|RT.done ?_
 obtain rfl:=O h
 exact ae.n ⟨ek,Si _ rfl,wR []⟩
 refine cT<|sr<|ag rfl<|dn<|aj<|aG.r<|ae.r ?_
 obtain rfl:=O (V h)
 have afm:=Nj _ rfl
 subst afm
 refine ae.r<|aG.r<|ae.r<|ae.r ?_
 obtain rfl:=O IL
 exact R1 rfl
 subst Sh
 try dsimp only
 refine ae.n<|sr<|ag rfl<|dn<|aj ?_
 obtain rfl:=O IL
 exact R1 rfl
 refine cT<|sr<|ag rfl<|dn<|aj<|ae.r ?_
 obtain rfl:=O (V h)
 exact R1 rfl
end Go.Proofs.YtmiflmkdaeianaaGreat
namespace Go.Proofs.YtmiflmkdaeianaaGreat
open Go.Fw
noncomputable def fu(x0:List (List Qr)):Option (Bool):=(bC (fun(zO:Int×Int)=>match zO with|⟨WJ,CT⟩=>(show Option ((Int×Int)⊕((Unit)⊕(Bool)))from(some (x0.length:Int)).bind fun x8=>(some (decide ((CT:Int)<x8))).bind fun x9=>(bif x9 then(bQ x0 CT).bind fun gp=>(some (gp.length:Int)).bind fun ek=>(some (decide ((40:Int)<ek))).bind fun dI=>(bif dI then some (.inr (.inr true))else(bC (fun(F7:Int×Int)=>match F7 with|⟨Hl,oW⟩=>(show Option ((Int×Int)⊕(Int))from(bQ x0 CT).bind fun ij=>(some (ij.length:Int)).bind fun ig=>(some (decide ((oW:Int)<ig))).bind fun dR=>(bif dR then(some (IntKind.i64.wrap (Hl+1))).bind fun jR=>(bQ x0 CT).bind fun lU=>(bQ lU oW).bind fun⟨⟨Bp,xl⟩,⟨PY,PZ⟩⟩=>(some (xl.length:Int)).bind fun oa=>(some (min (100:Int) oa)).bind fun qN=>(some (IntKind.i64.wrap (jR+qN))).bind fun mO=>(bQ x0 CT).bind fun xN=>(bQ xN oW).bind fun⟨⟨Ei,Ej⟩,⟨P0,Ho⟩⟩=>(some (Ho.length:Int)).bind fun tB=>(some (min (100:Int) tB)).bind fun E6=>(some (IntKind.i64.wrap (mO+E6))).bind fun xO=>(some (IntKind.i64.wrap (oW+1))).bind fun gu=>some (.inl (xO,gu))else some (.inr Hl)))) (WJ,0)).bind fun xx=>(some (decide ((400:Int)<xx))).bind fun RL=>(bif RL then some (.inr (.inr true))else(some (IntKind.i64.wrap (CT+1))).bind fun fV=>some (.inl (xx,fV))))else some (.inr (.inl ()))))) (0,0)).bind fun Ll=>match Ll with|.inr eO=>some eO|.inl _=>some false
end Go.Proofs.YtmiflmkdaeianaaGreat
