/- A part of the proof: the framework, the plain functions, the followed functions, the plain laws. -/
import Derived.Test.YtmiflmkdaeianaaPBI2
set_option linter.unusedVariables false
set_option linter.unusedSimpArgs false
namespace Go.Proofs.Ytmiflmkdaeianaa
open Go.Fw Go.Fw.Z Go.RowKit
theorem bj{x0:Int}{r:Zr}(h:aC x0=some r):Pure Try.prog 35 [.v (.int .i64 x0)] (.agg (eZ r)):=by
 refine aA Try.func35 rfl (Nat.le_of_ble_eq_true rfl) (fun eV M vs hvs=>?_)
 unfold aC at h
 refine sr<|al (cs:=[.v (.bool false),slc 1 (List.map aj [])]) (by exact⟨SV.aa _,imp_nil,trivial⟩) rfl<|dn<|sr<|mv rfl<|lE h fun x5 h5 h=>cv _ rfl (UK.conv h5)<|ag rfl<|dn<|qq<|sr<|mv rfl<|lE h fun x7 h7 h=>ls _ rfl rfl h7<|dn ?_
 refine aN h (fun j2=>AS.cm 14 [(0,.sv (.v (.int .i64 x0))),(2,.ptr 2 0),(3,.sv (.v (.int .u64 ((j2:Nat):Int))))] [(2,⟨24,[.sv (.v (.bool false)),.sv (slc 1 (List.map aj []))]⟩)] []) (fun h=>?_) (fun M5 h=>?_)
 cases x7
 exact fs<|⟨x5,(F h),wR []⟩
 exact cT<|ah<|mv rfl<|lE (V h) fun x9 h9 h=>RT.neg .none _ rfl T (UK.neg h9)<|ag rfl<|dn<|⟨x9,h,wR []⟩
 try dsimp only
 refine ae.n<|sr<|mv rfl<|lE h fun jE lU h=>ls _ rfl rfl lU<|mv rfl ?_
 obtain⟨⟨mF,qC⟩,jw,h⟩:=bS h
 refine cl (fK jw) ⟨rfl,rfl,trivial⟩<|so rfl rfl rfl<|dn<|aq ?_
 obtain rfl:=O h
 exact RZ (.agg rfl rfl (.cons rfl (.cons rfl (.nil))) rfl (.nil))
theorem cJ{x0:Zr}{r:Int×Bool}(h:bW x0=some r):Pure Try.prog 52 [.agg (eZ x0)] (.wL [.v (.int .i64 r.1),.v (.bool r.2)]):=by
 obtain⟨aW,aU⟩:=x0
 refine aA Try.func52 rfl (Nat.le_of_ble_eq_true rfl) (fun eV M vs hvs=>?_)
 unfold bW at h
 refine sr<|bx rfl<|ag rfl<|ag rfl<|dn<|sr<|fa rfl rfl<|lV rfl rfl rfl<|bE h fun x8 h8 h=>cl (aQ h8) ⟨rfl,trivial⟩<|ag rfl<|dn<|qq<|sr<|mv rfl<|lE h fun eN gL h=>ln rfl gL<|lE h fun jE lU h=>gt _ rfl rfl lU<|dn ?_
 cases jE
 refine fs<|sr<|mv rfl<|bE (F h) fun fW jw h=>cl (eW jw) ⟨rfl,trivial⟩<|ag rfl<|dn<|qq<|sr<|fa rfl rfl<|lV rfl rfl rfl<|dn ?_
 cases aW
 refine fs<|qq<|sr<|mv rfl<|lE (F h) fun iV nj h=>ge _ rfl rfl (X2 (p:=9223372036854775808) (q:=fW) nj)<|dn ?_
 cases iV
 refine fs<|sr<|mv rfl<|lE (F h) fun eo lF h=>cv _ rfl lF<|ag rfl<|ag rfl<|dn<|aq ?_
 obtain rfl:=O h
 exact R2 rfl rfl
 refine cT<|sr<|ag rfl<|ag rfl<|dn<|aq<|ae.r ?_
 obtain rfl:=O (V h)
 exact R2 rfl rfl
 refine cT<|qq<|sr<|mv rfl<|lE (V h) fun gi kQ h=>gt _ rfl rfl (O8 (p:=9223372036854775808) (q:=fW) kQ)<|dn ?_
 cases gi
 refine fs<|sr<|mv rfl<|lE (F h) fun mB pz h=>RT.neg .none _ rfl T (UK.neg pz)<|lE h fun fX kE h=>cv _ rfl kE<|ag rfl<|ag rfl<|dn<|aq<|ae.r ?_
 obtain rfl:=O h
 exact R2 rfl rfl
 refine cT<|sr<|ag rfl<|ag rfl<|dn<|aq<|ae.r<|ae.r ?_
 obtain rfl:=O (V h)
 exact R2 rfl rfl
 refine cT<|sr<|ag rfl<|ag rfl<|dn<|aq<|ae.r ?_
 obtain rfl:=O (V h)
 exact R2 rfl rfl
theorem jN{x0:Bool}{x1:List Nat}{x2:Bool}{x3:List Nat}{r:Zr}(h:bt x0 x1 x2 x3=some r):Pure Try.prog 53 [.v (.bool x0),slc 1 (List.map aj x1),.v (.bool x2),slc 1 (List.map aj x3)] (.agg (eZ r)):=by
 refine aA Try.func53 rfl (Nat.le_of_ble_eq_true rfl) (fun eV M vs hvs=>?_)
 unfold bt at h
 refine sr<|al (cs:=[.v (.bool false),slc 1 (List.map aj [])]) (by exact⟨SV.aa _,imp_nil,trivial⟩) rfl<|dn<|qq<|sr<|mv rfl<|mv rfl<|lE h fun jE lU h=>RT.PA .none _ rfl rfl T lU<|dn ?_
 cases jE
 refine fs<|qq<|sr<|mv rfl<|mv rfl<|bE (F h) fun mB pz h=>cl (cQ pz) ⟨rfl,rfl,trivial⟩<|lE h fun fX kE h=>ls _ rfl rfl kE<|dn ?_
 cases fX
 refine fs<|sr<|mv rfl<|mv rfl<|mv rfl<|bE (F h) fun fR jZ h=>cl (ia jZ) ⟨rfl,rfl,trivial⟩ ?_
 obtain⟨⟨vE,vF⟩,vJ,h⟩:=bS h
 refine cl (cY vJ) ⟨rfl,rfl,trivial⟩<|so rfl rfl rfl<|dn<|aq ?_
 obtain rfl:=O h
 exact RZ (.agg rfl rfl (.cons rfl (.cons rfl (.nil))) rfl (.nil))
 refine cT<|sr<|mv rfl<|mv rfl<|mv rfl<|bE (V h) fun eo lF h=>cl (ia lF) ⟨rfl,rfl,trivial⟩ ?_
 obtain⟨⟨vC,vD⟩,Aq,h⟩:=bS h
 refine cl (cY Aq) ⟨rfl,rfl,trivial⟩<|so rfl rfl rfl<|dn<|aq<|ae.r ?_
 obtain rfl:=O h
 exact RZ (.agg rfl rfl (.cons rfl (.cons rfl (.nil))) rfl (.nil))
 refine cT<|sr<|mv rfl<|mv rfl<|mv rfl<|bE (V h) fun kD pA h=>cl (kn pA) ⟨rfl,rfl,trivial⟩ ?_
 obtain⟨⟨ng,nh⟩,nk,h⟩:=bS h
 refine cl (cY nk) ⟨rfl,rfl,trivial⟩<|so rfl rfl rfl<|dn<|aq<|ae.r ?_
 obtain rfl:=O h
 exact RZ (.agg rfl rfl (.cons rfl (.cons rfl (.nil))) rfl (.nil))
theorem eX{x0:Zr}{x1:Zr}{r:Zr}(h:cg x0 x1=some r):Pure Try.prog 18 [.agg (eZ x0),.agg (eZ x1)] (.agg (eZ r)):=by
 obtain⟨aW,aU⟩:=x0
 obtain⟨cA,cn⟩:=x1
 refine aA Try.func18 rfl (Nat.le_of_ble_eq_true rfl) (fun eV M vs hvs=>?_)
 unfold cg at h
 refine sr<|bx rfl<|bx rfl<|al (cs:=[.v (.bool false),slc 1 (List.map aj [])]) (by exact⟨SV.aa _,imp_nil,trivial⟩) rfl<|dn<|sr<|ld rfl rfl (.cons rfl (.cons rfl (.nil))) ?_
 obtain⟨⟨tR,yD⟩,iY,h⟩:=bS h
 refine cl (cJ iY) ⟨rfl,trivial⟩<|mv rfl<|ex rfl rfl<|ex rfl rfl<|ag rfl<|ag rfl<|dn<|sr<|ld rfl rfl (.cons rfl (.cons rfl (.nil))) ?_
 obtain⟨⟨vG,yE⟩,kQ,h⟩:=bS h
 refine cl (cJ kQ) ⟨rfl,trivial⟩<|mv rfl<|ex rfl rfl<|ex rfl rfl<|ag rfl<|ag rfl<|dn<|qq<|qq ?_
 refine aN h (fun j3=>AS.cm 48 [(2,.ptr 2 0),(3,.ptr 3 0),(4,.ptr 4 0),(5,.sv (.v (.int .i64 tR))),(7,.sv (.v (.int .i64 vG))),(23,.sv (.v (.bool j3)))] [(4,⟨24,[.sv (.v (.bool false)),.sv (slc 1 (List.map aj []))]⟩),(3,⟨24,[.sv (.v (.bool cA)),.sv (slc 1 (List.map aj cn))]⟩),(2,⟨24,[.sv (.v (.bool aW)),.sv (slc 1 (List.map aj aU))]⟩)] []) (fun h=>?_) (fun qD h=>?_)
 refine ah<|mv rfl<|mv rfl<|bE h fun xu Cf h=>?_
 cases yD
 obtain rfl:=O (F Cf)
 exact ww<|pF rfl<|dn<|⟨false,h,wR []⟩
 refine gm rfl ?_
 obtain rfl:=O (V Cf)
 exact pT rfl<|dn<|⟨yE,h,wR []⟩
 try dsimp only
 refine ae.n ?_
 refine aN h (fun j5=>AS.cm 48 [(2,.ptr 2 0),(3,.ptr 3 0),(4,.ptr 4 0)] [(4,⟨24,[.sv (.v (.bool false)),.sv (slc 1 (List.map aj []))]⟩),(3,⟨24,[.sv (.v (.bool cA)),.sv (slc 1 (List.map aj cn))]⟩),(2,⟨24,[.sv (.v (.bool aW)),.sv (slc 1 (List.map aj aU))]⟩)] []) (fun h=>?_) (fun j5 h=>?_)
 cases qD
 exact fs<|⟨(),(F h),wR []⟩
 refine cT<|sr<|mv rfl<|mv rfl<|lE (V h) fun iH mN h=>ad _ rfl rfl mN<|ag rfl<|dn<|sr<|mv rfl<|mv rfl<|lE h fun fR jZ h=>RT.xor .none _ rfl rfl T jZ<|mv rfl<|mv rfl<|lE h fun iA lD h=>RT.xor .none _ rfl rfl T lD<|lE h fun kO oI h=>RT.and .none _ rfl rfl T oI<|lE h fun jF nm h=>ge _ rfl rfl nm<|dn ?_
 cases jF
 exact fs<|⟨(),(F h),wR []⟩
 refine cT<|sr<|mv rfl ?_
 obtain⟨⟨ni,kP⟩,vK,h⟩:=bS (V h)
 refine cl (bj vK) ⟨rfl,trivial⟩<|so rfl rfl rfl<|dn<|aq<|ae.r<|ae.r ?_
 obtain rfl:=O h
 exact RZ (.agg rfl rfl (.cons rfl (.cons rfl (.nil))) rfl (.nil))
 try dsimp only
 refine ae.n<|qq<|ak mixed<|fa rfl rfl<|lV rfl rfl rfl<|fa rfl rfl<|lV rfl rfl rfl<|bE h fun wI Cd h=>cl (aQ Cd) ⟨rfl,trivial⟩<|fa rfl rfl<|lV rfl rfl rfl<|fa rfl rfl<|lV rfl rfl rfl<|bE h fun uA h46 h=>cl (aQ h46) ⟨rfl,trivial⟩ ?_
 obtain⟨⟨F9,Ga⟩,Ek,h⟩:=bS h
 refine cl (jN Ek) ⟨rfl,rfl,rfl,rfl,trivial⟩<|so rfl rfl rfl ?_
 refine RT.done ⟨by kernel_rfl,?_⟩
 refine ae.n<|aq ?_
 obtain rfl:=O h
 exact RZ (.agg rfl rfl (.cons rfl (.cons rfl (.nil))) rfl (.nil))
theorem qI{x0:Zr}{x1:Zr}{r:Zr}(h:gQ x0 x1=some r):Pure Try.prog 51 [.agg (eZ x0),.agg (eZ x1)] (.agg (eZ r)):=by
 obtain⟨aW,aU⟩:=x0
 obtain⟨cA,cn⟩:=x1
 refine aA Try.func51 rfl (Nat.le_of_ble_eq_true rfl) (fun eV M vs hvs=>?_)
 unfold gQ at h
 refine sr<|bx rfl<|bx rfl<|al (cs:=[.v (.bool false),slc 1 (List.map aj [])]) (by exact⟨SV.aa _,imp_nil,trivial⟩) rfl<|dn<|sr<|ld rfl rfl (.cons rfl (.cons rfl (.nil))) ?_
 obtain⟨⟨tR,yD⟩,iY,h⟩:=bS h
 refine cl (cJ iY) ⟨rfl,trivial⟩<|mv rfl<|ex rfl rfl<|ex rfl rfl<|ag rfl<|ag rfl<|dn<|sr<|ld rfl rfl (.cons rfl (.cons rfl (.nil))) ?_
 obtain⟨⟨vG,yE⟩,kQ,h⟩:=bS h
 refine cl (cJ kQ) ⟨rfl,trivial⟩<|mv rfl<|ex rfl rfl<|ex rfl rfl<|ag rfl<|ag rfl<|dn<|qq<|qq ?_
 refine aN h (fun j3=>AS.cm 49 [(2,.ptr 2 0),(3,.ptr 3 0),(4,.ptr 4 0),(5,.sv (.v (.int .i64 tR))),(7,.sv (.v (.int .i64 vG))),(23,.sv (.v (.bool j3)))] [(4,⟨24,[.sv (.v (.bool false)),.sv (slc 1 (List.map aj []))]⟩),(3,⟨24,[.sv (.v (.bool cA)),.sv (slc 1 (List.map aj cn))]⟩),(2,⟨24,[.sv (.v (.bool aW)),.sv (slc 1 (List.map aj aU))]⟩)] []) (fun h=>?_) (fun qD h=>?_)
 refine ah<|mv rfl<|mv rfl<|bE h fun xu Cf h=>?_
 cases yD
 obtain rfl:=O (F Cf)
 exact ww<|pF rfl<|dn<|⟨false,h,wR []⟩
 refine gm rfl ?_
 obtain rfl:=O (V Cf)
 exact pT rfl<|dn<|⟨yE,h,wR []⟩
 try dsimp only
 refine ae.n ?_
 refine aN h (fun j5=>AS.cm 49 [(2,.ptr 2 0),(3,.ptr 3 0),(4,.ptr 4 0)] [(4,⟨24,[.sv (.v (.bool false)),.sv (slc 1 (List.map aj []))]⟩),(3,⟨24,[.sv (.v (.bool cA)),.sv (slc 1 (List.map aj cn))]⟩),(2,⟨24,[.sv (.v (.bool aW)),.sv (slc 1 (List.map aj aU))]⟩)] []) (fun h=>?_) (fun j5 h=>?_)
 cases qD
 exact fs<|⟨(),(F h),wR []⟩
 refine cT<|sr<|mv rfl<|mv rfl<|lE (V h) fun iH mN h=>sb _ rfl rfl mN<|ag rfl<|dn<|sr<|mv rfl<|mv rfl<|lE h fun fR jZ h=>RT.xor .none _ rfl rfl T jZ<|mv rfl<|mv rfl<|lE h fun iA lD h=>RT.xor .none _ rfl rfl T lD<|lE h fun kO oI h=>RT.and .none _ rfl rfl T oI<|lE h fun jF nm h=>ge _ rfl rfl nm<|dn ?_
 cases jF
 exact fs<|⟨(),(F h),wR []⟩
 refine cT<|sr<|mv rfl ?_
 obtain⟨⟨ni,kP⟩,vK,h⟩:=bS (V h)
 refine cl (bj vK) ⟨rfl,trivial⟩<|so rfl rfl rfl<|dn<|aq<|ae.r<|ae.r ?_
 obtain rfl:=O h
 exact RZ (.agg rfl rfl (.cons rfl (.cons rfl (.nil))) rfl (.nil))
 try dsimp only
 refine ae.n<|qq<|ak mixed<|fa rfl rfl<|lV rfl rfl rfl<|fa rfl rfl<|lV rfl rfl rfl<|bE h fun wI Cd h=>cl (aQ Cd) ⟨rfl,trivial⟩<|fa rfl rfl<|lV rfl rfl rfl<|lE h fun Ee Gn h=>nt rfl _ Gn<|fa rfl rfl<|lV rfl rfl rfl<|bE h fun Ag Ek h=>cl (aQ Ek) ⟨rfl,trivial⟩ ?_
 obtain⟨⟨Ak,vH⟩,h48,h⟩:=bS h
 refine cl (jN h48) ⟨rfl,rfl,rfl,rfl,trivial⟩<|so rfl rfl rfl ?_
 refine RT.done ⟨by kernel_rfl,?_⟩
 refine ae.n<|aq ?_
 obtain rfl:=O h
 exact RZ (.agg rfl rfl (.cons rfl (.cons rfl (.nil))) rfl (.nil))
theorem ic{x0:Zr}{x1:Zr}{r:Zr}(h:cL x0 x1=some r):Pure Try.prog 67 [.agg (eZ x0),.agg (eZ x1)] (.agg (eZ r)):=by
 obtain⟨aW,aU⟩:=x0
 obtain⟨cA,cn⟩:=x1
 refine aA Try.func67 rfl (Nat.le_of_ble_eq_true rfl) (fun eV M vs hvs=>?_)
 unfold cL at h
 refine sr<|bx rfl<|bx rfl<|al (cs:=[.v (.bool false),slc 1 (List.map aj [])]) (by exact⟨SV.aa _,imp_nil,trivial⟩) rfl<|dn<|qq<|ak mixed<|fa rfl rfl<|lV rfl rfl rfl<|bE h fun x9 h9 h=>cl (aQ h9) ⟨rfl,trivial⟩<|fa rfl rfl<|lV rfl rfl rfl<|bE h fun fF iY h=>cl (aQ iY) ⟨rfl,trivial⟩<|ag rfl<|ag rfl ?_
 refine RT.done ⟨by kernel_rfl,?_⟩
 refine ae.n<|qq<|qq ?_
 refine aN h (fun j3=>AS.cm 41 [(2,.ptr 2 0),(3,.ptr 3 0),(4,.ptr 4 0),(5,.sv (slc 1 (List.map aj x9))),(6,.sv (slc 1 (List.map aj fF))),(20,.sv (.v (.bool j3)))] [(4,⟨24,[.sv (.v (.bool false)),.sv (slc 1 (List.map aj []))]⟩),(3,⟨24,[.sv (.v (.bool cA)),.sv (slc 1 (List.map aj cn))]⟩),(2,⟨24,[.sv (.v (.bool aW)),.sv (slc 1 (List.map aj aU))]⟩)] []) (fun h=>?_) (fun Gb h=>?_)
 refine ah<|mv rfl<|lE h fun jh n7 h=>ln rfl n7<|lE h fun kD pA h=>RT.leq .none _ rfl rfl T pA<|mv rfl<|bE h fun Ko oJ h=>?_
 cases kD
 obtain rfl:=O (F oJ)
 exact ww<|ww<|ww<|pF rfl<|dn<|⟨false,h,wR []⟩
 refine gm rfl<|lE (V oJ) fun eT jx oJ=>gn rfl jx<|lE oJ fun mB pz oJ=>RT.leq (.some rfl rfl) _ rfl rfl T pz ?_
 obtain rfl:=O oJ
 exact pT rfl<|dn<|⟨mB,h,wR []⟩
 try dsimp only
 refine ae.n ?_
 cases Gb
 refine fs<|qq<|ak mixed<|fa rfl rfl<|lV rfl rfl rfl<|fa rfl rfl<|lV rfl rfl rfl<|lE (F h) fun tQ vK h=>RT.Im .none _ rfl rfl T vK<|mv rfl<|mv rfl<|bE h fun mE Ce h=>cl (qE Ce) ⟨rfl,rfl,trivial⟩ ?_
 obtain⟨⟨kg,kj⟩,sN,h⟩:=bS h
 refine cl (cY sN) ⟨rfl,rfl,trivial⟩<|so rfl rfl rfl ?_
 refine RT.done ⟨by kernel_rfl,?_⟩
 refine ae.n<|aq ?_
 obtain rfl:=O h
 exact RZ (.agg rfl rfl (.cons rfl (.cons rfl (.nil))) rfl (.nil))
 refine cT<|qq<|ak mixed<|fa rfl rfl<|lV rfl rfl rfl<|fa rfl rfl<|lV rfl rfl rfl<|lE (V h) fun BA Aq h=>RT.Im .none _ rfl rfl T Aq<|mv rfl<|bE h fun lB n8 h=>cl (eW n8) ⟨rfl,trivial⟩<|mv rfl<|bE h fun fR jZ h=>cl (eW jZ) ⟨rfl,trivial⟩<|lE h fun nY vJ h=>RT.mul .none _ rfl rfl T (UK.mul (a:=lB) (b:=fR) vJ) ?_
 obtain⟨⟨CW,xw⟩,wJ,h⟩:=bS h
 refine cl (fK wJ) ⟨rfl,rfl,trivial⟩<|so rfl rfl rfl ?_
 refine RT.done ⟨by kernel_rfl,?_⟩
 refine ae.n<|aq<|ae.r ?_
 obtain rfl:=O h
 exact RZ (.agg rfl rfl (.cons rfl (.cons rfl (.nil))) rfl (.nil))
theorem jz{x0:Zr}{r:Zr}(h:dZ x0=some r):Pure Try.prog 21 [.agg (eZ x0)] (.agg (eZ r)):=by
 obtain⟨aW,aU⟩:=x0
 refine aA Try.func21 rfl (Nat.le_of_ble_eq_true rfl) (fun eV M vs hvs=>?_)
 unfold dZ at h
 refine sr<|bx rfl<|al (cs:=[.v (.bool false),slc 1 (List.map aj [])]) (by exact⟨SV.aa _,imp_nil,trivial⟩) rfl<|dn<|qq<|ak mixed<|fa rfl rfl<|lV rfl rfl rfl<|lE h fun x5 h5 h=>nt rfl _ h5<|fa rfl rfl<|lV rfl rfl rfl<|bE h fun x8 h8 h=>cl (aQ h8) ⟨rfl,trivial⟩<|bE h fun x9 h9 h=>cl (jk h9) ⟨rfl,trivial⟩ ?_
 obtain⟨⟨Al,Am⟩,gL,h⟩:=bS h
 refine cl (cY gL) ⟨rfl,rfl,trivial⟩<|so rfl rfl rfl ?_
 refine RT.done ⟨by kernel_rfl,?_⟩
 refine ae.n<|aq ?_
 obtain rfl:=O h
 exact RZ (.agg rfl rfl (.cons rfl (.cons rfl (.nil))) rfl (.nil))
theorem ep{x0:Zr}{r:Int}(h:b7 x0=some r):Pure Try.prog 36 [.agg (eZ x0)] (.v (.int .i64 r)):=by
 obtain⟨aW,aU⟩:=x0
 refine aA Try.func36 rfl (Nat.le_of_ble_eq_true rfl) (fun eV M vs hvs=>?_)
 unfold b7 at h
 refine sr<|bx rfl<|ag rfl<|dn<|qq<|ax<|sr<|fa rfl rfl<|lV rfl rfl rfl<|bE h fun x6 h6 h=>cl (aQ h6) ⟨rfl,trivial⟩<|lE h fun x7 h7 h=>ln rfl h7<|lE h fun x8 h8 h=>eq _ rfl rfl (o6 (p:=x7) (q:=0) h8)<|ag rfl<|dn ?_
 cases x8
 refine cF<|sr<|fa rfl rfl<|lV rfl rfl rfl<|ag rfl<|dn ?_
 replace h:=F h
 cases aW
 refine cF<|aG<|aF.n<|ae.n<|sr<|ag rfl<|dn<|aq ?_
 obtain rfl:=O (F h)
 exact R1 rfl
 refine cT<|sr<|ag rfl<|dn<|aq<|aF.r<|ae.r ?_
 obtain rfl:=O (V h)
 exact R1 rfl
 refine cT<|sr<|ag rfl<|dn<|aq<|aF.r<|ae.r ?_
 obtain rfl:=O (V h)
 exact R1 rfl
theorem yI{x0:Zr}{x1:Zr}{r:Int}(h:iX x0 x1=some r):Pure Try.prog 39 [.agg (eZ x0),.agg (eZ x1)] (.v (.int .i64 r)):=by
 obtain⟨aW,aU⟩:=x0
 obtain⟨cA,cn⟩:=x1
 refine aA Try.func39 rfl (Nat.le_of_ble_eq_true rfl) (fun eV M vs hvs=>?_)
 unfold iX at h
 refine sr<|bx rfl<|bx rfl<|ag rfl<|dn<|qq<|ak mixed<|ld rfl rfl (.cons rfl (.cons rfl (.nil)))<|bE h fun x8 h8 h=>cl (ep h8) ⟨rfl,trivial⟩<|ld rfl rfl (.cons rfl (.cons rfl (.nil)))<|bE h fun eN gL h=>cl (ep gL) ⟨rfl,trivial⟩<|ag rfl<|ag rfl ?_
 refine RT.done ⟨by kernel_rfl,?_⟩
 refine ae.n<|qq<|ax<|sr<|mv rfl<|mv rfl<|lE h fun jh n7 h=>ls _ rfl rfl n7<|ag rfl<|dn ?_
 cases jh
 refine cF<|sr<|mv rfl<|mv rfl<|lE (F h) fun eT jx h=>gt _ rfl rfl jx<|ag rfl<|dn ?_
 cases eT
 refine cF<|sr<|mv rfl<|lE (F h) fun iz pB h=>ls _ rfl rfl pB<|ag rfl<|dn ?_
 cases iz
 refine cF<|aG<|aF.n<|ae.n<|qq<|ak mixed<|fa rfl rfl<|lV rfl rfl rfl<|bE (F h) fun mD wJ h=>cl (aQ wJ) ⟨rfl,trivial⟩<|fa rfl rfl<|lV rfl rfl rfl<|bE h fun jF nm h=>cl (aQ nm) ⟨rfl,trivial⟩<|bE h fun qw Cc h=>cl (cQ Cc) ⟨rfl,rfl,trivial⟩<|ag rfl ?_
 refine RT.done ⟨by kernel_rfl,?_⟩
 refine ae.n<|aq ?_
 obtain rfl:=O h
 exact R1 rfl
 refine cT<|qq<|ak mixed<|fa rfl rfl<|lV rfl rfl rfl<|bE (V h) fun eo lF h=>cl (aQ lF) ⟨rfl,trivial⟩<|fa rfl rfl<|lV rfl rfl rfl<|bE h fun lB n8 h=>cl (aQ n8) ⟨rfl,trivial⟩<|bE h fun lC vI h=>cl (cQ vI) ⟨rfl,rfl,trivial⟩<|ag rfl ?_
 refine RT.done ⟨by kernel_rfl,?_⟩
 refine ae.n<|aq<|aF.r<|ae.r ?_
 obtain rfl:=O h
 exact R1 rfl
 refine cT<|sr<|ag rfl<|dn<|aq<|aF.r<|ae.r ?_
 obtain rfl:=O (V h)
 exact R1 rfl
 refine cT<|sr<|ag rfl<|dn<|aq<|aF.r<|ae.r ?_
 obtain rfl:=O (V h)
 exact R1 rfl
theorem gH{x0:Zr}{x1:Zr}{r:Zr×Zr×Int}(h:bU x0 x1=some r):Pure Try.prog 34 [.agg (eZ x0),.agg (eZ x1)] (.wL [.agg (eZ r.1),.agg (eZ r.2.1),.v (.int .i64 r.2.2)]):=by
 obtain⟨aW,aU⟩:=x0
 obtain⟨cA,cn⟩:=x1
 refine aA Try.func34 rfl (Nat.le_of_ble_eq_true rfl) (fun eV M vs hvs=>?_)
 unfold bU at h
 refine sr<|bx rfl<|bx rfl<|al (cs:=[.v (.bool false),slc 1 (List.map aj [])]) (by exact⟨SV.aa _,imp_nil,trivial⟩) rfl<|al (cs:=[.v (.bool false),slc 1 (List.map aj [])]) (by exact⟨SV.aa _,imp_nil,trivial⟩) rfl<|ag rfl<|dn<|qq<|ak mixed<|fa rfl rfl<|lV rfl rfl rfl<|bE h fun fW jw h=>cl (aQ jw) ⟨rfl,trivial⟩<|fa rfl rfl<|lV rfl rfl rfl ?_
 refine bE h fun ji nk h=>cl (aQ nk) ⟨rfl,trivial⟩<|ag rfl<|ag rfl ?_
 refine RT.done ⟨by kernel_rfl,?_⟩
 refine ae.n<|qq<|sr<|mv rfl<|lE h fun eT jx h=>ln rfl jx<|lE h fun mB pz h=>eq _ rfl rfl (o6 (p:=eT) (q:=0) pz)<|dn ?_
 cases mB
 refine fs<|sr<|mv rfl<|mv rfl ?_
 obtain⟨⟨Gc,QA⟩,Aq,h⟩:=bS (F h)
 refine cl (ko Aq) ⟨rfl,rfl,trivial⟩<|mv rfl<|ex rfl rfl<|ex rfl rfl<|ag rfl<|ag rfl<|dn<|sr<|mv rfl<|bE h fun fR jZ h=>cl (aQ jZ) ⟨rfl,trivial⟩<|ag rfl<|dn<|qq<|qq ?_
 refine aN h (fun j3=>AS.cm 52 [(2,.ptr 2 0),(3,.ptr 3 0),(4,.ptr 4 0),(5,.ptr 5 0),(8,.sv (slc 1 (List.map aj ji))),(9,.sv (slc 1 (List.map aj Gc))),(10,.sv (slc 1 (List.map aj fR))),(36,.sv (.v (.bool j3.1)))] [(5,⟨24,[.sv (.v (.bool false)),.sv (slc 1 (List.map aj []))]⟩),(4,⟨24,[.sv (.v (.bool false)),.sv (slc 1 (List.map aj []))]⟩),(3,⟨24,[.sv (.v (.bool cA)),.sv (slc 1 (List.map aj cn))]⟩),(2,⟨24,[.sv (.v (.bool j3.2)),.sv (slc 1 (List.map aj aU))]⟩)] []) (fun h=>?_) (fun j3 h=>?_)
 refine ah<|fa rfl rfl<|lV rfl rfl rfl<|mv rfl<|bE h fun Kq Cf h=>?_
 cases aW
 obtain rfl:=O (F Cf)
 exact ww<|ww<|ww<|pF rfl<|dn<|⟨(false,false),h,wR []⟩
 refine gm rfl<|lE (V Cf) fun jF nm Cf=>gn rfl nm<|lE Cf fun qw Cc Cf=>gg _ rfl rfl Cc ?_
 obtain rfl:=O Cf
 exact pT rfl<|dn<|⟨(qw,true),h,wR []⟩
 obtain⟨Ge,B4⟩:=j3
 try dsimp only
 refine ae.n ?_
 refine aN h (fun j5=>AS.cm 52 [(2,.ptr 2 0),(3,.ptr 3 0),(4,.ptr 4 0),(5,.ptr 5 0),(9,.sv (slc 1 (List.map aj j5.1))),(10,.sv (slc 1 (List.map aj j5.2)))] [(5,⟨24,[.sv (.v (.bool false)),.sv (slc 1 (List.map aj []))]⟩),(4,⟨24,[.sv (.v (.bool false)),.sv (slc 1 (List.map aj []))]⟩),(3,⟨24,[.sv (.v (.bool cA)),.sv (slc 1 (List.map aj cn))]⟩),(2,⟨24,[.sv (.v (.bool B4)),.sv (slc 1 (List.map aj aU))]⟩)] []) (fun h=>?_) (fun j5 h=>?_)
 cases Ge
 exact fs<|⟨(Gc,fR),(F h),wR []⟩
 exact cT<|sr<|mv rfl<|bl (l:=[1]) (e:=aj) (.one rfl (.nil)) rfl rfl rfl rfl rfl rfl<|bE (V h) fun mE Ce h=>cl (kn Ce) ⟨rfl,rfl,trivial⟩<|ag rfl<|dn<|ah<|mv rfl<|mv rfl<|bE h fun rC Ar h=>cl (ia Ar) ⟨rfl,rfl,trivial⟩<|ag rfl<|dn<|⟨(mE,rC),h,wR []⟩
 obtain⟨QB,Kp⟩:=j5
 try dsimp only
 refine ae.n<|sr<|fa rfl rfl<|lV rfl rfl rfl<|fa rfl rfl<|lV rfl rfl rfl<|lE h fun Ag Ek h=>RT.Im .none _ rfl rfl T Ek<|mv rfl ?_
 obtain⟨⟨CX,CY⟩,QI,h⟩:=bS h
 refine cl (cY QI) ⟨rfl,rfl,trivial⟩<|mv rfl ?_
 obtain⟨⟨An,Ao⟩,IW,h⟩:=bS h
 refine cl (cY IW) ⟨rfl,rfl,trivial⟩<|so rfl rfl rfl<|so rfl rfl rfl<|ag rfl<|dn<|aq ?_
 obtain rfl:=O h
 exact RZ (.agg rfl rfl (.cons rfl (.cons rfl (.nil))) rfl (.agg rfl rfl (.cons rfl (.cons rfl (.nil))) rfl (.tmp rfl (.nil))))
 refine cT<|sr<|bI (cs:=[_,_]) (cs':=[.v (.bool false),slc 1 (List.map aj [])]) (.nil) ⟨SV.aa _,imp_nil,trivial⟩<|bI (cs:=[_,_]) (cs':=[.v (.bool false),slc 1 (List.map aj [])]) (.nil) ⟨SV.aa _,imp_nil,trivial⟩<|so rfl rfl rfl<|so rfl rfl rfl<|ag rfl<|dn<|aq<|ae.r ?_
 obtain rfl:=O (V h)
 exact RZ (.agg rfl rfl (.cons rfl (.cons rfl (.nil))) rfl (.agg rfl rfl (.cons rfl (.cons rfl (.nil))) rfl (.tmp rfl (.nil))))
theorem yJ{x0:Zr}{x1:Zr}{r:Zr}(h:gR x0 x1=some r):Pure Try.prog 94 [.agg (eZ x0),.agg (eZ x1)] (.agg (eZ r)):=by
 obtain⟨aW,aU⟩:=x0
 obtain⟨cA,cn⟩:=x1
 refine aA Try.func94 rfl (Nat.le_of_ble_eq_true rfl) (fun eV M vs hvs=>?_)
 unfold gR at h
 refine sr<|bx rfl<|bx rfl<|al (cs:=[.v (.bool false),slc 1 (List.map aj [])]) (by exact⟨SV.aa _,imp_nil,trivial⟩) rfl<|dn<|qq<|ak mixed<|fa rfl rfl<|lV rfl rfl rfl<|bE h fun fW jw h=>cl (aQ jw) ⟨rfl,trivial⟩<|fa rfl rfl<|lV rfl rfl rfl<|bE h fun ji nk h=>cl (aQ nk) ⟨rfl,trivial⟩<|ag rfl<|ag rfl ?_
 refine RT.done ⟨by kernel_rfl,?_⟩
 refine ae.n<|qq<|bE h fun Ef Gk jM=>?_
 refine bg (fun(nn:(List Nat)×(List Nat))=>AS.cm 57 [(4,.ptr 4 0),(5,.sv (slc 1 (List.map aj nn.1))),(6,.sv (slc 1 (List.map aj nn.2)))] [(4,⟨24,[.sv (.v (.bool false)),.sv (slc 1 (List.map aj []))]⟩)] []) (fun nn=>nn=Ef) ?_ (fun nn Gl=>?_)
 refine ax ?_
 refine bh Gk (fun uB=>AS.cm 57 [(4,.ptr 4 0),(5,.sv (slc 1 (List.map aj uB.1))),(6,.sv (slc 1 (List.map aj uB.2)))] [(4,⟨24,[.sv (.v (.bool false)),.sv (slc 1 (List.map aj []))]⟩)] []) (wR []) (fun uB y12 G12 h Gm Eo=>?_)
 obtain⟨tW,yF⟩:=uB
 try dsimp only
 refine qq<|qq ?_
 refine aN h (fun j16=>AS.cm 57 [(4,.ptr 4 0),(5,.sv (slc 1 (List.map aj tW))),(6,.sv (slc 1 (List.map aj yF))),(29,.sv (.v (.bool j16)))] [(4,⟨24,[.sv (.v (.bool false)),.sv (slc 1 (List.map aj []))]⟩)] []) (fun h=>?_) (fun B5 h=>?_)
 refine ah<|mv rfl<|lE h fun eT jx h=>ln rfl jx<|lE h fun mB pz h=>gt _ rfl rfl pz<|mv rfl<|bE h fun Gg yK h=>?_
 cases mB
 obtain rfl:=O (F yK)
 exact ww<|ww<|ww<|ww<|wu<|wu<|wu<|ww<|pF rfl<|dn<|⟨false,h,wR []⟩
 refine gm rfl<|lE (V yK) fun iV nj yK=>gn rfl nj<|lE yK fun iy mM yK=>gg _ rfl rfl mM<|gm rfl<|bE yK fun Gf pG yK=>?_
 cases iy
 refine gm rfl<|lE (F pG) fun iH mN pG=>gn rfl mN<|lE pG fun lB n8 pG=>gg _ rfl rfl n8 ?_
 obtain rfl:=O pG
 refine gF rfl ?_
 obtain rfl:=O yK
 exact pT rfl<|dn<|⟨lB,h,wR []⟩
 obtain rfl:=O (V pG)
 refine ww<|ww<|ww<|gT rfl ?_
 obtain rfl:=O yK
 exact pT rfl<|dn<|⟨true,h,wR []⟩
 try dsimp only
 refine ae.n ?_
 cases B5
 refine cF<|bq<|ae.x<|ae.x<|aF.x<|ae.n ?_
 obtain rfl:=O (F h)
 exact⟨(tW,yF),Eo _ rfl,wR []⟩
 refine cT<|aG<|ae.n<|ax<|sr<|mv rfl<|mv rfl ?_
 obtain⟨⟨YF,QC⟩,oI,h⟩:=bS (V h)
 refine cl (ko oI) ⟨rfl,rfl,trivial⟩<|mv rfl<|ex rfl rfl<|ex rfl rfl<|ag rfl<|ag rfl<|dn<|ah<|mv rfl<|mv rfl<|bE h fun uw Ei h=>cl (aQ Ei) ⟨rfl,trivial⟩<|ag rfl<|ag rfl<|RT.done<|aF.n ?_
 obtain rfl:=O h
 exact ae.n ⟨(yF,uw),Gm _ rfl,wR []⟩
 subst Gl
 obtain⟨Gh,Gi⟩:=nn
 try dsimp only
 refine ae.n<|qq<|sr<|mv rfl<|lE jM fun nW sN jM=>ln rfl sN<|lE jM fun wI Cd jM=>eq _ rfl rfl (o6 (p:=nW) (q:=0) Cd)<|dn ?_
 cases wI
 refine fs<|sr<|mv rfl<|bE (F jM) fun uA h46 jM=>cl (eW h46) ⟨rfl,trivial⟩<|mv rfl<|bE jM fun zJ h48 jM=>cl (eW h48) ⟨rfl,trivial⟩<|ag rfl<|ag rfl<|dn<|qq<|bE jM fun Nq Gq jO=>?_
 refine bg (fun(xx:Nat)=>AS.cm 57 [(4,.ptr 4 0),(9,.sv (.v (.int .u64 ((xx:Nat):Int))))] [(4,⟨24,[.sv (.v (.bool false)),.sv (slc 1 (List.map aj []))]⟩)] []) (fun xx=>xx=Nq) ?_ (fun xx Gr=>?_)
 refine ax ?_
 refine bh Gq (fun B6=>AS.cm 57 [(4,.ptr 4 0),(9,.sv (.v (.int .u64 ((B6.1:Nat):Int)))),(10,.sv (.v (.int .u64 ((B6.2:Nat):Int))))] [(4,⟨24,[.sv (.v (.bool false)),.sv (slc 1 (List.map aj []))]⟩)] []) (wR []) (fun B6 y24 G24 h Gs Es=>?_)
 obtain⟨C1,rR⟩:=B6
 try dsimp only
 refine qq<|sr<|mv rfl<|lE h fun ux El h=>gt _ rfl rfl (O8 (p:=0) (q:=rR) El)<|dn ?_
 cases ux
 refine cF<|bq<|ae.x<|ae.x<|aF.x<|ae.n ?_
 obtain rfl:=O (F h)
 exact⟨C1,Es _ rfl,wR []⟩
 refine cT<|aG<|ae.n<|ax<|ak mixed<|mv rfl<|mv rfl<|mv rfl<|bE (V h) fun M6 VS h=>RT.rem .none _ rfl rfl T (VO VS) (IF VS)<|ag rfl<|ag rfl ?_
 refine RT.done ⟨by kernel_rfl,?_⟩
 refine aF.n ?_
 obtain rfl:=O h
 exact ae.n ⟨(rR,M6),Gs _ rfl,wR []⟩
 subst Gr
 try dsimp only
 refine ae.n<|sr<|mv rfl ?_
 obtain⟨⟨Kr,Ks⟩,Nk,jO⟩:=bS jO
 refine cl (fK Nk) ⟨rfl,rfl,trivial⟩<|so rfl rfl rfl<|dn<|aq ?_
 obtain rfl:=O jO
 exact RZ (.agg rfl rfl (.cons rfl (.cons rfl (.nil))) rfl (.nil))
 refine cT<|sr<|mv rfl<|bE (V jM) fun zI E4 jM=>cl (jk E4) ⟨rfl,trivial⟩ ?_
 obtain⟨⟨CZ,C0⟩,Gn,jM⟩:=bS jM
 refine cl (cY Gn) ⟨rfl,rfl,trivial⟩<|so rfl rfl rfl<|dn<|aq<|ae.r ?_
 obtain rfl:=O jM
 exact RZ (.agg rfl rfl (.cons rfl (.cons rfl (.nil))) rfl (.nil))
end Go.Proofs.Ytmiflmkdaeianaa
namespace Go.Fw
open Go.RowKit
def Mem.fr(M:Mem)(N:Nat):Mem:=fun b o=>if N≤b then M b o else none
theorem Mem.C2(M:Mem)(N:Nat):(M.fr N).le M:=fun b o v h=>by
 unfold Mem.fr at h
 split at h
 ·exact h
 ·cases h
theorem Mem.C3{M M':Mem}(h:M.le M')(N:Nat):(M.fr N).le (M'.fr N):=fun b o v e=>by
 unfold Mem.fr at*
 split at e
 ·rename_i hn;rw[if_pos hn];exact h b o v e
 ·cases e
theorem Mem.QX(M:Mem)(N:Nat):(M.fr N).fr N=M.fr N:=by
 funext b o;unfold Mem.fr;split<;>rfl
def nw(N:Nat)(s:SV):SV:=⟨fun M v=>s.h (M.fr N) v∧∀g,v.ownBlock=some g→∃o,M.fr N g o=some (.agg #[]),fun hM h=>⟨s.mono (Mem.C3 hM N) h.1,fun g e=>by obtain⟨o,q⟩:=h.2 g e;exact⟨o,Mem.C3 hM N _ _ _ q⟩⟩⟩
theorem Cg{N:Nat}{s:SV}:SV.imp (nw N s) s:=fun M _ h=>s.mono (Mem.C2 M N) h.1
instance{N:Nat}{s:SV}{n:Nat}[h:OX s n]:OX (nw N s) n:=⟨fun M v hv=>h.h M v (Cg M v hv)⟩
instance{N:Nat}{s:SV}{n:Nat}{rows:List (List SV)}[h:Io s n rows]:Io (nw N s) n rows:=⟨fun M v hv=>h.h M v (Cg M v hv)⟩
instance{N:Nat}{s:SV}{n sz:Nat}{f:Nat→Nat→SV}[h:Sub s n sz f]:Sub (nw N s) n sz (fun a b=>nw N (f a b)):=⟨fun M v hv=>by
 obtain⟨a,c,e,hc,hs⟩:=h.h (M.fr N) v hv.1
 refine⟨a,c,e,hc,fun lo hi h1 h2=>⟨hs lo hi h1 h2,fun g hg=>hv.2 g ?_⟩⟩
 subst e
 cases a with
 |none=>split at hg<;>cases hg
 |some a=>
  split at hg
  ·exact hg
  ·have e:(a.add (lo*sz)).block=a.block:=by unfold Addr.add;split<;>rfl
   rw[show(Value.slice (Option.map (fun x=>x.add (lo*sz)) (some a)) (hi-lo) (c-lo)).ownBlock=some (a.add (lo*sz)).block from rfl,e]at hg
   exact hg⟩
instance{N:Nat}{s:SV}[h:One s]:One (nw N s):=⟨fun M v hv=>h.h _ v hv.1⟩
class ZH (N:Nat) (s:SV):Prop where
 h:∀M v,s.h M v→s.h (M.fr N) v
instance{N:Nat}{x:Value}:ZH N (.v x):=⟨fun _ _ h=>h⟩
instance{N:Nat}{s:SV}:ZH N (nw N s):=⟨fun M v h=>by show s.h ((M.fr N).fr N) v∧∀g,v.ownBlock=some g→∃o,(M.fr N).fr N g o=some (.agg #[]);rw[Mem.QX];exact h⟩
class IX (N:Nat) (l:List SV):Prop where
 h:∀s∈l,∀M v,s.h M v→s.h (M.fr N) v
instance{N:Nat}:IX N []:=⟨fun s h=>by cases h⟩
instance{N:Nat}{s:SV}{l:List SV}[a:ZH N s][b:IX N l]:IX N (s::l):=⟨fun t ht=>by
 rcases List.mem_cons.1 ht with rfl|ht
 ·exact a.h
 ·exact b.h t ht⟩
class wW (N:Nat) {α:Type} (e:α→List SV):Prop where
 h:∀x,IX N (e x)
instance{N:Nat}:wW N Kk:=⟨fun _=>inferInstance⟩
instance{N:Nat}:wW N aj:=⟨fun _=>inferInstance⟩
instance{N:Nat}:wW N vq:=⟨fun _=>inferInstance⟩
instance{N:Nat}:wW N eB:=⟨fun _=>inferInstance⟩
abbrev fZ(N:Nat)(z:Zr):List SV:=[.v (.bool z.neg),nw N (slc 1 (z.w.map aj))]
abbrev Gt(N:Nat)(x:En):List SV:=[.v (.int .i64 x.acc),.v (.int .u8 ((x.kd:Nat):Int)),.v (.int .i64 x.hour),.v (.bool x.dB.neg),nw N (slc 1 (x.dB.w.map aj))]
instance{N:Nat}:EL (fZ N) 2:=⟨fun _=>rfl,fun _=>inferInstance⟩
instance{N:Nat}:EL (Gt N) 5:=⟨fun _=>rfl,fun _=>inferInstance⟩
instance{N:Nat}:wW N (fZ N):=⟨fun _=>inferInstance⟩
instance{N:Nat}:wW N (Gt N):=⟨fun _=>inferInstance⟩
theorem dO{α:Type}{N n:Nat}{e:α→List SV}:SV.imp (.v (.slice none 0 0)) (nw N (slc n (([]:List α).map e))):=fun _ _ h=>⟨.inl ⟨none,h,rfl⟩,fun g e=>by rw[show _=Value.slice none 0 0 from h]at e;cases e⟩
theorem cc.at:∀{l l':List SV},cc l l'→∀(k:Nat) (s':SV),l'[k]? =some s'→∃s,l[k]? =some s∧SV.imp s s':=fun h _ _ e=>cc.get h e
theorem Ch{N n:Nat}{α:Type}{e:α→List SV}[he:wW N e]{l:List α}{M:Mem}{v:Value}(h:(slc n (l.map e)).h M v)(hb:∀g,v.ownBlock=some g→N≤g∧∃o,M g o=some (.agg #[])):(nw N (slc n (l.map e))).h M v:=by
 refine⟨?_,fun g hg=>by obtain⟨h1,o,h2⟩:=hb g hg;exact⟨o,by unfold Mem.fr;rw[if_pos h1];exact h2⟩⟩
 rcases h with⟨a,h1,h2⟩|⟨b,o,c,h1,h2,h3,h4⟩
 ·exact .inl ⟨a,h1,h2⟩
 ·have hN:N≤b:=(hb b (by rw[h1];rfl)).1
  refine .inr ⟨b,o,c,h1,h2,h3,fun i row hr=>⟨(h4 i row hr).1,fun k s hs=>?_⟩⟩
  obtain⟨y,hy,ho,hh⟩:=(h4 i row hr).2 k s hs
  refine⟨y,by unfold Mem.fr;rw[if_pos hN];exact hy,ho,?_⟩
  rw[List.getElem?_map]at hr
  cases hx:l[i]? with
  |none=>rw[hx]at hr;cases hr
  |some x=>
   rw[hx]at hr
   have hr:e x=row:=Option.some.inj hr
   subst hr
   exact(he.h x).h s (List.mem_of_getElem? hs) M y hh
section
variable {P:Program}{C:Ctx}{S:AS}{Q:Exit→AS→Prop}
theorem ai.IY{E:Env}{a:Act}{w:World}(h:ai C S E a w)(vs:List Value)(T:TypeId)(hone:∀v∈vs,v.oneCell'=true):ai C S {E with M:=fun b o=>if b=w.heap.size then(vs++[.agg #[]])[o]? else E.M b o} a (w.alloc (.cells ⟨vs⟩ T)):=by
 have hno:∀o,E.M w.heap.size o=none:=fun o=>by
  cases e:E.M w.heap.size o with
  |none=>rfl
  |some v=>have:=ga h.bu e;omega
 refine h.grow (fun b o v e=>?_) (fun b o v e=>?_) (fun b o v e=>?_) (((Below.refl _ _).alloc (Nat.le_refl _) _))
 ·have:b≠w.heap.size:=by rintro rfl;rw[hno o]at e;cases e
  simp[this,e]
 ·by_cases hb:b=w.heap.size
  ·exact .inr (by omega)
  ·simp only[if_neg hb]at e;exact .inl e
 ·by_cases hb:b=w.heap.size
  ·subst hb
   simp only[if_true]at e
   by_cases ho:o<vs.length
   ·rw[List.getElem?_append_left ho]at e
    refine .of ?_ (hone v (List.mem_of_getElem? e))
    rw[World.cell?_alloc_new];simpa using e
   ·rw[List.getElem?_append_right (by omega)]at e
    cases xy:o-vs.length with
    |succ k=>rw[xy]at e;simp at e
    |zero=>
     rw[xy]at e
     simp at e
     subst e
     exact⟨⟨vs⟩,T,by show(w.heap.push _)[w.heap.size]? =_;rw[Array.getElem?_push,if_pos rfl]⟩
  ·simp only[if_neg hb]at e
   refine(h.bu b o v e).same ?_
   show(w.heap.push _)[b]? =_
   rw[Array.getElem?_push,if_neg hb]
theorem C4{c:Code}{i n N:Nat}{E1:TypeId}{α:Type}{e:α→List SV}{l:List α}[el:EL e n][he:wW N e](hN:N≤C.w0.heap.size)(hb:∀k,¬C.mO k)(hR:S.r i=.live (TR E1 n e l))(hk:Ok P C c (S.jo i (nw N (slc n (l.map e)))) Q):Ok P C c S Q:=fun a w hs=>by
 obtain⟨E,h⟩:=hs
 have hlen:l.length≤9223372036854775807:=by
  obtain⟨⟨vs,ho,hv⟩,_⟩:=h.rx i _ hR
  rcases ho.2 with⟨_,q2⟩|⟨g',cap,cur,q1,_,q2,q3,q4,q5,q6⟩
  ·have q2:l.length=0:=q2
   omega
  ·have q3:l.length≤cap:=q3
   have:maxLen=9223372036854775807:=by decide
   omega
 exact hk a w (h.jo hR (qt l) (by rw[List.length_map]) hlen (nU l) (fun M v hv hg=>Ch hv (fun g e=>⟨(hg g e).1.elim (fun q=>Nat.le_trans hN q) (fun q=>absurd q (hb g)),(hg g e).2⟩)))
def jP(P:Program)(f:FuncId)(N:Nat)(args:List SV)(r:SV):Prop:=
 ∀(M:Mem) (w:World) (vs:List Value),N≤w.heap.size→M.bu w→SV.cG M args vs→
  Calls P f ⟨vs⟩ w fun e w'=>∃v M',e=.returned v∧M.le M'∧(∀b o x,M' b o=some x→M b o=some x∨w.heap.size≤b)∧M'.bu w'∧r.h M' v∧Below w.heap.size w w'
theorem jP.w{f:FuncId}{N:Nat}{args args':List SV}{r:SV}(h:jP P f N args r)(hi:cc args' args):jP P f N args' r:=fun M w vs hN hM hv=>h M w vs hN hM (hi.holds hv)
theorem ec{f:FuncId}{fn:Func}{code:Code}{N:Nat}{args:List SV}{r:SV}(hf:P.funcs[f]? =some fn)(hb:fn.body=some code)(hn:args.length≤fn.ntmps)
  (h:∀(w:World) (M:Mem) (vs:List Value),N≤w.heap.size→SV.cG M args vs→Ok P (yj w M) code (AS.init fn.ntmps args) (fun e S=>(e=.normal∨e=.ret)∧EV P S fn.results.toList r)):jP P f N args r:=by
 intro M w vs hN hM hvs
 refine(callsIn_wide (n:=0)).1 (callsIn_of_wp_marks (F:=Fence.wide) hf hb trivial ?_)
 refine wpIn_mono (h w M vs hN hvs _ w ⟨_,eR hM hvs hn⟩) ?_
 rintro e a' w' ⟨S',⟨he,ss,HY,himp⟩,E,hh⟩
 have key:LeavesInM Fence.wide 0 P fn a'.tmps (fun e w'=>∃v M',e=.returned v∧M.le M'∧(∀b o x,M' b o=some x→M b o=some x∨w.heap.size≤b)∧M'.bu w'∧r.h M' v∧Below w.heap.size w w') a'.defers .returning w':=by
  obtain⟨ds,h1,h2,h3⟩:=hh.marks
  rw[h1]
  refine fQ ds w' h2 (fun r hr=>(h3 r hr).2.2) (fun w2 g1 g2 g3 g4 g5=>?_)
  have mA:=hh.mW h3 g1 g2 g3 g4 g5
  obtain⟨v,hv,hs⟩:=qe mA HY
  refine⟨v,hv,v,E.M,rfl,mA.m0,fun b o x e=>?_,mA.bu,himp _ _ hs,mA.os,mA.tape,mA.output,mA.grown,fun k hk=>mA.frame k hk (fun h=>h)⟩
  rcases mA.cj b o x e with h|h|h
  ·exact .inl h
  ·exact .inr h
  ·exact h.elim
 rcases he with rfl|rfl
 ·exact key
 ·exact key
end
section
variable {P:Program}{C:Ctx}{ops:Array Oper}{S:AS}{nd:Bool}{K:List Ac→AS→Prop}{rest:List Oper}{acc:List Ac}
variable {gd:Option (Nat×Bool)}{rg:List Nat}{d:Nat}{ty:TypeId}{pos:String}{aft:Array Edge}{x y z:Operand}{T U E0:TypeId}
variable {α:Type}{l l' k:List α}{e:α→List SV}{n by_ N:Nat}{zv:Value}
theorem RT.jQ(hg:Gd ops S gd rg){f:FuncId}[bM P f]{g:Operand}{xs:Array Operand}{at_:Array TypeId}{args:List SV}{r:SV}(hp:jP P f N args r)(hN:N≤C.w0.heap.size)(hf:S.ev g=.sv (.v (.func (.func f) #[] #[])))(hargs:eM S xs.toList args)(hd:d<S.n)
  (next:RunT P C ops nd K rest (⟨rg++(af g++xs.toList.flatMap af),[],[],⟨some (d,.sv r),[],[]⟩⟩::acc) (S.set d (.sv r))):RunT P C ops nd K (⟨some d,.call ⟨.value g,xs,at_⟩,ty,pos,aft,gd⟩::rest) acc S:=by
 refine .inl ⟨_,[],[],_,?_,next⟩
 rintro S' hn ht _ _ i a w L Q ho ⟨E,h⟩ hL
 refine aX (C:=C) ho (hg.wanted h (fun s hs=>ht s (List.mem_append_left _ hs)) rfl) ?_
 have mU:a.eval g=.func (.func f) #[] #[]:=by
  have h1:=h.ev g;rw[az (fun _ h=>List.mem_append_right _ (List.mem_append_left _ h)) ht,hf]at h1;exact h1
 have hall:=eM.vals h hargs (fun s hs=>ht s (List.mem_append_right _ (List.mem_append_right _ hs)))
 have hr:(execOp a.eval ⟨some d,.call ⟨.value g,xs,at_⟩,ty,pos,aft,gd⟩).run P w=.ok (.enter f ⟨xs.toList.map a.eval⟩) w:=by
  have e2:xs.map a.eval=⟨xs.toList.map a.eval⟩:=by apply Array.ext';simp
  have e1:=bM.run (P:=P) (f:=f) (xs.map a.eval) w
  rw[←e2]
  simp[execOp,resolve,mU,Deferred.ofValue,invoke,e1]
 refine aY (C:=C) (by intro c h;cases h) hr ?_
 refine⟨fun h=>by simp at h,dh ((hp E.M w _ (Nat.le_trans hN h.grown) h.bu hall).mono ?_)⟩
 rintro e w' ⟨v,M',rfl,hM,hnew,hin,hv,hb⟩
 exact hL _ _ ⟨_,(h.grow hM hnew hin hb).put (x:=.sv r) hv (by show d<S'.n;omega) cS⟩
theorem RT.C5(hg:Gd ops S gd rg){m:Nat}[tS:cK P T E0 m]{c:Int}(hx:S.ev x=.sv (nw N (slc n (l.map e))))(hd:d<S.n)(hc:(l.length:Int)=c)
  (next:RunT P C ops nd K rest (⟨rg++af x,[],[],⟨some (d,.sv (.v (.int .i64 c))),[],[]⟩⟩::acc) (S.set d (.sv (.v (.int .i64 c))))):RunT P C ops nd K (⟨some d,.call ⟨.builtin .len,#[x],#[T]⟩,ty,pos,aft,gd⟩::rest) acc S:=
 RT.len hg hx hd (by rw[List.length_map,hc];exact next)
theorem RT.ZI(hg:Gd ops S gd rg)[tS:cK P T E0 n]{kk:IntKind}{i:Int}{a:α}(hx:S.ev x=.sv (nw N (slc n (l.map e))))(hy:S.ev y=.sv (.v (.int kk i)))(hd:d<S.n)(ha:bJ l i=some a)
  (next:RunT P C ops nd K rest (⟨rg++(af x++af y),[],[],⟨some (d,.sv (ref (e a))),[],[]⟩⟩::acc) (S.set d (.sv (ref (e a))))):RunT P C ops nd K (⟨some d,.indexAddr T x y,ty,pos,aft,gd⟩::rest) acc S:=
 RT.indexAddr hg (e a) hx hy hd (kM ha).1 (by rw[List.getElem?_map,(kM ha).2];rfl) next
theorem RT.IZ(hg:Gd ops S gd rg)[tS:cK P T E0 n]{lo hi:Option Operand}(a b:Int)(hx:S.ev x=.sv (nw N (slc n (l.map e))))(hlo:va S 0 lo a)(hhi:va S l.length hi b)(hd:d<S.n)(h:yu l a b=some l')
  (next:RunT P C ops nd K rest (⟨rg++(af x++(jq lo++jq hi)),[],[],⟨some (d,.sv (nw N (slc n (l'.map e)))),[],[]⟩⟩::acc) (S.set d (.sv (nw N (slc n (l'.map e)))))):RunT P C ops nd K (⟨some d,.slice T x lo hi none,ty,pos,aft,gd⟩::rest) acc S:=by
 obtain⟨h0,h1,h2,h3⟩:=xk h
 exact RT.slice hg hx a b hlo (by rw[List.length_map];exact hhi) hd h0 h1 (by rw[List.length_map];exact h2) _ (by rw[CM,h3]) next
theorem RT.QY(hg:Gd ops S gd rg)[tS:cK P T E0 n][tE:aB P E0 n by_ zv][el:EL e n][he:wW N e]{i:Nat}(hN:N≤C.w0.heap.size)(hb:∀k,¬C.mO k)(hx:S.ev x=.row i)(hR:S.r i=.live (TR E0 n e l))(hy:S.ev y=.sv (slc n (k.map e)))(hd:d<S.n)(qg:S.r d=.un)(oB:d<1000)(h:wH by_ l k=some l')
  (next:RunT P C ops nd K rest (⟨rg++(af x++af y),[],[d,i],⟨some (d,.sv (nw N (slc n (l'.map e)))),[],[(i,.dead),(d,.dead)]⟩⟩::acc) ((AS.aH [(i,.dead),(d,.dead)] S).set d (.sv (nw N (slc n (l'.map e)))))):RunT P C ops nd K (⟨some d,.call ⟨.builtin .append,#[x,y],#[T,T]⟩,ty,pos,aft,gd⟩::rest) acc S:=by
 obtain⟨h1,h2,rfl⟩:=mZ h
 have hf:l.flatMap e++(k.map e).flatten=(l++k).flatMap e:=by simp[m7]
 exact RT.CQ hg (.row hx hR) hy hd qg oB (by simpa using h1) (by simpa using h2) _ (rows':=(l++k).map e) (fun _ _ hv hg=>Ch hv (fun g e=>⟨(hg g e).1.elim (fun q=>Nat.le_trans hN q) (fun q=>absurd q (hb g)),(hg g e).2⟩)) (by rw[hf];exact qt _) (by simp) (by rw[hf];exact nU _) next
theorem RT.Aw(hg:Gd ops S gd rg)[tS:cK P T E0 n][tE:aB P E0 n by_ zv][he:wW N e](hN:N≤C.w0.heap.size){len:Nat}{parts:Array (Nat×Operand)}{qs:List (Nat×List SV)}(hp:g9 S parts.toList qs)(hd:d<S.n)
  (hc:kA 0 qs=true) (hl:qs.length=len) (hsz:(qs.all fun q=>Nat.beq q.2.length n)=true) (hlen:Nat.ble (len*n) 16777216=true) (D3:(zv.cells.toList.all fun v=>v.oneCell')=true) (gZ:qs.map (·.2)=l.map e)
  (next:RunT P C ops nd K rest (⟨rg++ew parts.toList,[],[],⟨some (d,.sv (nw N (slc n (l.map e)))),[],[]⟩⟩::acc) (S.set d (.sv (nw N (slc n (l.map e)))))):RunT P C ops nd K (⟨some d,.buildSlice T len parts,ty,pos,aft,gd⟩::rest) acc S:=by
 refine .inl ⟨_,[],[],_,?_,next⟩
 rintro S' hn ht _ _ i a w L Q ho ⟨E,h⟩ hL
 refine aX (C:=C) ho (hg.wanted h (fun s hs=>ht s (List.mem_append_left _ hs)) rfl) ?_
 obtain⟨vs,hr,hall,hone⟩:=jI (P:=P) (T:=T) (E0:=E0) (n:=n) (by_:=by_) (zv:=zv) (d:=d) (ty:=ty) (pos:=pos) (aft:=aft) (gd:=gd) h hp (fun s hs=>ht s (List.mem_append_right _ hs)) hc hl hsz (Nat.le_of_ble_eq_true hlen) (List.all_eq_true.1 D3)
 refine aY (C:=C) (by intro c h;cases h) hr (hL _ _ ⟨_,(h.IY vs E0 hone).put (d:=d) (x:=.sv (nw N (slc n (l.map e)))) (v:=.slice (some ⟨w.heap.size,0,none⟩) len len) ?_ (by show d<S'.n;omega) cS⟩)
 have hrw:Rows n (qs.map (·.2)) (qs.map (·.2)).flatten:=⟨rfl,fun r hr=>by
  obtain⟨q,hq,rfl⟩:=List.mem_map.1 hr
  exact Nat.eq_of_beq_eq_true (List.all_eq_true.1 hsz q hq)⟩
 have Fy:=tE.p
 have hlb:len≤16777216:=Nat.le_trans (Nat.le_mul_of_pos_right _ Fy) (Nat.le_of_ble_eq_true hlen)
 refine Ch ?_ (fun g e=>by cases e;exact⟨Nat.le_trans hN h.grown,vs.length,by simp⟩)
 rw[←gZ]
 refine .inr ⟨w.heap.size,0,len,by rw[List.length_map,hl],by rw[List.length_map,hl];exact Nat.le_refl _,by rw[List.length_map,hl];omega,fun k row hk=>?_⟩
 obtain⟨q1,q2⟩:=qh hrw k row hk
 refine⟨q1,fun j s hs=>?_⟩
 obtain⟨y,hy,hys⟩:=hall.get (q2 j s hs)
 refine⟨y,by show(if w.heap.size=w.heap.size then(vs++[Value.agg #[]])[0+k*n+j]? else _)=_;rw[if_pos rfl,Nat.zero_add,List.getElem?_append_left (List.getElem?_eq_some_iff.1 hy).1];exact hy,hone y (List.mem_of_getElem? hy),s.mono (fun b o v e=>?_) hys⟩
 have:b≠w.heap.size:=by rintro rfl;have:=ga h.bu e;omega
 simp[this,e]
end
end Go.Fw
namespace Go.Proofs.Ytmiflmkdaeianaa
open Go.Fw Go.Fw.Z Go.RowKit
theorem wX{x0:List Nat}(N:Nat){r:List Nat}(h:ay x0=some r):jP Try.prog 54 N [nw N (slc 1 (List.map aj x0))] (nw N (slc 1 (List.map aj r))):=by
 refine ec Try.func54 rfl (Nat.le_of_ble_eq_true rfl) (fun eV M vs hN hvs=>?_)
 unfold ay at h
 refine sr<|aI rfl (dO (N:=N) (n:=1) (e:=aj))<|dn<|qq<|bE h fun M8 B7 yG=>?_
 refine bg (fun(vw:(List Nat))=>AS.cm 21 [(0,.sv (nw N (slc 1 (List.map aj vw))))] [] []) (fun vw=>vw=M8) ?_ (fun vw B8=>?_)
 refine ax ?_
 refine bh B7 (fun Ai=>AS.cm 21 [(0,.sv (nw N (slc 1 (List.map aj Ai))))] [] []) (wR []) (fun tL YG YH h B9 Ap=>?_)
 try dsimp only
 refine qq<|qq ?_
 refine aN h (fun QE=>AS.cm 21 [(0,.sv (nw N (slc 1 (List.map aj tL)))),(14,.sv (.v (.bool QE)))] [] []) (fun h=>?_) (fun vv h=>?_)
 refine ah<|mv rfl<|lE h fun x4 h4 h=>RT.C5 .none rfl T h4<|lE h fun x5 h5 h=>gt _ rfl rfl h5<|mv rfl<|bE h fun BV eL h=>?_
 cases x5
 obtain rfl:=O (F eL)
 exact ww<|ww<|ww<|ww<|ww<|ww<|ww<|pF rfl<|dn<|⟨false,h,wR []⟩
 refine gm rfl<|gm rfl<|lE (V eL) fun x9 h9 eL=>RT.C5 (.some rfl rfl) rfl T h9<|lE eL fun eN gL eL=>RT.sub (.some rfl rfl) _ rfl rfl T gL<|bE eL fun jE lU eL=>RT.ZI (.some rfl rfl) rfl rfl T lU<|gr rfl rfl<|lE eL fun fW jw eL=>BU _ rfl rfl (MB (p:=jE) (q:=0) jw) ?_
 obtain rfl:=O eL
 exact pT rfl<|dn<|⟨fW,h,wR []⟩
 try dsimp only
 refine ae.n ?_
 cases vv
 refine cF<|bq<|ae.x<|ae.x<|aF.x<|ae.n ?_
 obtain rfl:=O (F h)
 exact⟨tL,Ap _ rfl,wR []⟩
 refine cT<|aG<|ae.n<|ax<|ah<|mv rfl<|mv rfl<|lE (V h) fun gi kQ h=>RT.C5 .none rfl T kQ<|lE h fun eT jx h=>sb _ rfl rfl jx<|bE h fun mB pz h=>RT.IZ .none 0 eT rfl rfl ⟨_,rfl⟩ T pz<|ag rfl<|RT.done<|aF.n ?_
 obtain rfl:=O h
 exact ae.n ⟨mB,B9 _ rfl,wR []⟩
 subst B8
 try dsimp only
 refine ae.n<|sr<|mv rfl<|ag rfl<|dn<|aq ?_
 obtain rfl:=O yG
 exact R1 rfl
theorem jR{x0:Bool}{x1:List Nat}(N:Nat){r:Zr}(h:aV x0 x1=some r):jP Try.prog 55 N [.v (.bool x0),nw N (slc 1 (List.map aj x1))] (.agg ((fZ N) r)):=by
 refine ec Try.func55 rfl (Nat.le_of_ble_eq_true rfl) (fun eV M vs hN hvs=>?_)
 unfold aV at h
 refine sr<|al (cs:=[.v (.bool false),nw N (slc 1 (List.map aj []))]) (by exact⟨SV.aa _,dO,trivial⟩) rfl<|dn<|sr<|mv rfl<|bE h fun x6 h6 h=>RT.jQ .none (wX N h6) hN rfl ⟨rfl,trivial⟩ T<|ag rfl<|dn<|qq<|sr<|mv rfl<|lE h fun x8 h8 h=>RT.C5 .none rfl T h8<|lE h fun x9 h9 h=>eq _ rfl rfl (o6 (p:=x8) (q:=0) h9)<|dn ?_
 cases x9
 refine fs<|sr<|mv rfl<|mv rfl<|bI (cs:=[_,_]) (cs':=[.v (.bool x0),nw N (slc 1 (List.map aj x6))]) (.one rfl (.one rfl (.nil))) ⟨SV.aa _,SV.aa _,trivial⟩<|so rfl rfl rfl<|dn<|aq ?_
 obtain rfl:=O (F h)
 exact RZ (.agg rfl rfl (.cons rfl (.cons rfl (.nil))) rfl (.nil))
 refine cT<|sr<|bI (cs:=[_,_]) (cs':=[.v (.bool false),nw N (slc 1 (List.map aj []))]) (.nil) ⟨SV.aa _,dO,trivial⟩<|so rfl rfl rfl<|dn<|aq<|ae.r ?_
 obtain rfl:=O (V h)
 exact RZ (.agg rfl rfl (.cons rfl (.cons rfl (.nil))) rfl (.nil))
theorem vL{x0:Bool}{x1:Nat}(N:Nat){r:Zr}(h:cr x0 x1=some r):jP Try.prog 71 N [.v (.bool x0),.v (.int .u64 ((x1:Nat):Int))] (.agg ((fZ N) r)):=by
 refine ec Try.func71 rfl (Nat.le_of_ble_eq_true rfl) (fun eV M vs hN hvs=>?_)
 unfold cr at h
 refine sr<|al (cs:=[.v (.bool false),nw N (slc 1 (List.map aj []))]) (by exact⟨SV.aa _,dO,trivial⟩) rfl<|dn<|qq<|ax<|sr<|mv rfl<|lE h fun x7 h7 h=>eq _ rfl rfl (MB (p:=x1) (q:=0) h7)<|ag rfl<|dn ?_
 cases x7
 refine cF<|sr<|mv rfl<|lE (F h) fun jE lU h=>RT.shr .none _ rfl rfl T (by decide) (vp (k:=.u64) (a:=x1) (q:=32) (s:=32) rfl lU)<|lE h fun fF iY h=>eq _ rfl rfl (MB (p:=jE) (q:=0) iY)<|ag rfl<|dn ?_
 cases fF
 refine cF<|aG<|aF.n<|ae.n<|sr<|mv rfl<|mv rfl<|lE (F h) fun fX kE h=>cv _ rfl (UK.nat kE)<|mv rfl<|lE h fun iV nj h=>RT.shr .none _ rfl rfl T (by decide) (vp (k:=.u64) (a:=x1) (q:=32) (s:=32) rfl nj)<|lE h fun iy mM h=>cv _ rfl (UK.nat mM)<|RT.Aw (l:=[fX,iy]) (e:=aj) .none hN (.one rfl (.one rfl (.nil))) T rfl rfl rfl rfl rfl rfl<|bI (cs:=[_,_]) (cs':=[.v (.bool x0),nw N (slc 1 (List.map aj [fX,iy]))]) (.one rfl (.one rfl (.nil))) ⟨SV.aa _,SV.aa _,trivial⟩ ?_
 refine so rfl rfl rfl<|dn<|aq ?_
 obtain rfl:=O h
 exact RZ (.agg rfl rfl (.cons rfl (.cons rfl (.nil))) rfl (.nil))
 refine cT<|sr<|mv rfl<|mv rfl<|lE (V h) fun kD pA h=>cv _ rfl (UK.nat pA)<|RT.Aw (l:=[kD]) (e:=aj) .none hN (.one rfl (.nil)) T rfl rfl rfl rfl rfl rfl<|bI (cs:=[_,_]) (cs':=[.v (.bool x0),nw N (slc 1 (List.map aj [kD]))]) (.one rfl (.one rfl (.nil))) ⟨SV.aa _,SV.aa _,trivial⟩<|so rfl rfl rfl<|dn<|aq<|aF.r<|ae.r ?_
 obtain rfl:=O h
 exact RZ (.agg rfl rfl (.cons rfl (.cons rfl (.nil))) rfl (.nil))
 refine cT<|sr<|bI (cs:=[_,_]) (cs':=[.v (.bool false),nw N (slc 1 (List.map aj []))]) (.nil) ⟨SV.aa _,dO,trivial⟩<|so rfl rfl rfl<|dn<|aq<|aF.r<|ae.r ?_
 obtain rfl:=O (V h)
 exact RZ (.agg rfl rfl (.cons rfl (.cons rfl (.nil))) rfl (.nil))
theorem qJ{x0:List Nat}{x1:List Nat}(N:Nat){r:List Nat}(h:bZ x0 x1=some r):jP Try.prog 69 N [slc 1 (List.map aj x0),slc 1 (List.map aj x1)] (nw N (slc 1 (List.map aj r))):=by
 refine ec Try.func69 rfl (Nat.le_of_ble_eq_true rfl) (fun eV M vs hN hvs=>?_)
 unfold bZ at h
 refine sr<|aI rfl (dO (N:=N) (n:=1) (e:=aj))<|dn<|sr<|mv rfl<|lE h fun eN gL h=>ln rfl gL<|mv rfl<|lE h fun fF iY h=>ln rfl iY<|lE h fun fW jw h=>RT.max .none _ rfl rfl T (P2 (p:=eN) (q:=fF) jw)<|lE h fun jh n7 h=>ad _ rfl rfl n7<|bE h fun kD pA h=>RT.xn (e:=aj) .none rfl rfl T rfl T pA<|RT.alloc .none T rfl rfl<|RT.lJ (cells:=[_]) .none rfl rfl rfl rfl T rfl<|dn<|sr ?_
 refine RT.qm .none (b8 0) rfl ⟨rfl,trivial⟩ T rfl rfl<|RT.alloc .none T rfl rfl<|RT.uT (cells:=[_]) .none (s:=.dV _ _) rfl rfl rfl T rfl<|dn<|qq<|sr<|mv rfl<|mv rfl<|cl (hG x0 x1) ⟨rfl,rfl,trivial⟩<|dn<|ax<|bE h fun e7 Na Ca=>?_
 obtain⟨Cb,Nb,Nc,Nd⟩:=kN Na
 refine jv (hH x0 x1) (fun _ _ _ _ _=>trivial) rfl (fun k=>AS.cm 35 [(5,.ptr 5 0),(6,.ptr 6 0),(19,.sv (uZ 114 [ref [slc 1 (List.map aj x0)],ref [slc 1 (List.map aj x1)]]))] [(6,⟨119,[.dV 113 [.box 16]]⟩),(16,⟨100,[.sv (.v (.int .u64 (((Cb k).1:Nat):Int)))]⟩),(5,⟨22,[.row 302]⟩)] [(302,TR 80 1 aj (Cb k).2)]) [6,16,5] rfl (fun _=>⟨rfl,rfl⟩) (yq rfl) (fun _=>rfl) (yt rfl) (by(try dsimp only);rw[Nb];(try dsimp only);exact dz (fun i=>bif Nat.beq i 302 then 15 else i) rfl rfl rfl rfl rfl ⟨.ptr,.ptr,.sv (SV.aa _),trivial⟩ ⟨⟨_,rfl,⟨.dV,trivial⟩⟩,⟨_,rfl,⟨.sv (SV.aa _),trivial⟩⟩,⟨_,rfl,⟨.row rfl,trivial⟩⟩,trivial⟩ ⟨⟨_,rfl,cc.refl _⟩,trivial⟩ (fun i hi=>by rw[bB (show i≠302 by omega)];rfl)) (fun k hk D hD=>?_) ?_
 have h:=Nc k hk
 obtain⟨sk,Nf⟩:∃q,Cb k=q:=⟨_,rfl⟩
 rw[Nf]at h⊢
 obtain⟨lP,dU⟩:=sk
 dsimp only[AS.O5,vk]
 try dsimp only at h
 refine lE h fun Qd Ng h=>?_
 rw[Ng]
 refine lE h fun Qe Nh h=>?_
 rw[Nh]
 refine sr<|ag rfl<|dn<|ah<|ag rfl<|RT.done ?_
 refine ae.n ⟨rfl,?_⟩
 dsimp only[AS.D6]
 refine ax<|ak mixed<|RT.fH .none (s:=.row _) rfl rfl rfl T<|RT.fH .none (s:=.dV _ _) rfl rfl rfl T<|mv rfl<|mv rfl<|lE h fun iH mN h=>ad _ rfl rfl (UK.add (a:=Qd) (b:=Qe) mN) ?_
 obtain⟨⟨lB,k9⟩,n8,h⟩:=bS h
 refine cB (aP n8) 16 rfl ⟨rfl,trivial⟩<|bl (l:=[lB]) (e:=aj) (.one rfl (.nil)) rfl rfl rfl rfl rfl rfl<|bE h fun fR jZ h=>aR (k:=[lB]) (e:=aj) rfl rfl rfl jZ<|RT.lJ (cells:=[_]) .none rfl rfl rfl rfl T rfl ?_
 refine RT.done ⟨by kernel_rfl,?_⟩
 refine aF.n ?_
 replace h:=Option.some.inj h
 refine⟨trivial,rfl,rfl,?_⟩
 try dsimp only
 rw[←h]
 try dsimp only
 exact dz (fun i=>bif Nat.beq i 302 then 29 else i) rfl rfl rfl rfl rfl ⟨.ptr,.ptr,.sv (SV.aa _),trivial⟩ ⟨⟨_,rfl,⟨.dV,trivial⟩⟩,⟨_,rfl,⟨.sv (SV.aa _),trivial⟩⟩,⟨_,rfl,⟨.row rfl,trivial⟩⟩,trivial⟩ ⟨⟨_,rfl,cc.refl _⟩,trivial⟩ (fun i hi=>by rw[bB (show i≠302 by omega)];rfl)
 rw[Nd]
 obtain⟨lP,dU⟩:=e7
 try dsimp only
 refine aF.n<|ae.n<|qq<|ak mixed<|RT.fH .none (s:=.row _) rfl rfl rfl T<|RT.fH .none (s:=.dV _ _) rfl rfl rfl T ?_
 obtain⟨⟨iA,k11⟩,lD,Ca⟩:=bS Ca
 refine cB (aP lD) 16 rfl ⟨rfl,trivial⟩<|bl (l:=[iA]) (e:=aj) (.one rfl (.nil)) rfl rfl rfl rfl rfl rfl<|bE Ca fun jF nm Ca=>RT.QY (k:=[iA]) (e:=aj) .none hN (fun _ h=>h) rfl rfl rfl T rfl T nm<|ag rfl ?_
 refine RT.done ⟨by kernel_rfl,?_⟩
 refine ae.n<|aq ?_
 obtain rfl:=O Ca
 exact R1 rfl
theorem kp{x0:List Nat}{x1:List Nat}(N:Nat){r:List Nat}(h:bp x0 x1=some r):jP Try.prog 70 N [slc 1 (List.map aj x0),slc 1 (List.map aj x1)] (nw N (slc 1 (List.map aj r))):=by
 refine ec Try.func70 rfl (Nat.le_of_ble_eq_true rfl) (fun eV M vs hN hvs=>?_)
 unfold bp at h
 refine sr<|aI rfl (dO (N:=N) (n:=1) (e:=aj))<|dn<|sr<|mv rfl<|lE h fun eN gL h=>ln rfl gL<|bE h fun jE lU h=>RT.xn (e:=aj) .none rfl rfl T rfl T lU<|RT.alloc .none T rfl rfl<|RT.lJ (cells:=[_]) .none rfl rfl rfl rfl T rfl<|dn<|sr<|RT.qm .none (b8 1) rfl ⟨rfl,trivial⟩ T rfl rfl<|RT.alloc .none T rfl rfl<|RT.uT (cells:=[_]) .none (s:=.dV _ _) rfl rfl rfl T rfl<|dn<|qq<|sr<|mv rfl ?_
 refine mv rfl<|cl (hG x0 x1) ⟨rfl,rfl,trivial⟩<|dn<|ax<|bE h fun e7 Na Ca=>?_
 obtain⟨Cb,Nb,Nc,Nd⟩:=kN Na
 refine jv (hH x0 x1) (fun _ _ _ _ _=>trivial) rfl (fun k=>AS.cm 28 [(5,.ptr 5 0),(6,.ptr 6 0),(15,.sv (uZ 114 [ref [slc 1 (List.map aj x0)],ref [slc 1 (List.map aj x1)]]))] [(6,⟨119,[.dV 113 [.box 12]]⟩),(12,⟨100,[.sv (.v (.int .u64 (((Cb k).1:Nat):Int)))]⟩),(5,⟨22,[.row 302]⟩)] [(302,TR 80 1 aj (Cb k).2)]) [6,12,5] rfl (fun _=>⟨rfl,rfl⟩) (yq rfl) (fun _=>rfl) (yt rfl) (by(try dsimp only);rw[Nb];(try dsimp only);exact dz (fun i=>bif Nat.beq i 302 then 11 else i) rfl rfl rfl rfl rfl ⟨.ptr,.ptr,.sv (SV.aa _),trivial⟩ ⟨⟨_,rfl,⟨.dV,trivial⟩⟩,⟨_,rfl,⟨.sv (SV.aa _),trivial⟩⟩,⟨_,rfl,⟨.row rfl,trivial⟩⟩,trivial⟩ ⟨⟨_,rfl,cc.refl _⟩,trivial⟩ (fun i hi=>by rw[bB (show i≠302 by omega)];rfl)) (fun k hk D hD=>?_) ?_
 have h:=Nc k hk
 obtain⟨sk,Nf⟩:∃q,Cb k=q:=⟨_,rfl⟩
 rw[Nf]at h⊢
 obtain⟨nX,dU⟩:=sk
 dsimp only[AS.O5,vk]
 try dsimp only at h
 refine lE h fun Qf Ni h=>?_
 rw[Ni]
 refine lE h fun Qg Nj h=>?_
 rw[Nj]
 refine sr<|ag rfl<|dn<|ah<|ag rfl<|RT.done ?_
 refine ae.n ⟨rfl,?_⟩
 dsimp only[AS.D6]
 refine ax<|ak mixed<|RT.fH .none (s:=.row _) rfl rfl rfl T<|RT.fH .none (s:=.dV _ _) rfl rfl rfl T<|mv rfl<|mv rfl<|lE h fun iV nj h=>sb _ rfl rfl (UK.sub (a:=4294967295) (b:=Qg) nj)<|lE h fun iy mM h=>ad _ rfl rfl (UK.add (a:=Qf) (b:=iV) mM) ?_
 obtain⟨⟨eo,k9⟩,lF,h⟩:=bS h
 refine cB (aP lF) 12 rfl ⟨rfl,trivial⟩<|bl (l:=[eo]) (e:=aj) (.one rfl (.nil)) rfl rfl rfl rfl rfl rfl<|bE h fun iH mN h=>aR (k:=[eo]) (e:=aj) rfl rfl rfl mN<|RT.lJ (cells:=[_]) .none rfl rfl rfl rfl T rfl ?_
 refine RT.done ⟨by kernel_rfl,?_⟩
 refine aF.n ?_
 replace h:=Option.some.inj h
 refine⟨trivial,rfl,rfl,?_⟩
 try dsimp only
 rw[←h]
 try dsimp only
 exact dz (fun i=>bif Nat.beq i 302 then 26 else i) rfl rfl rfl rfl rfl ⟨.ptr,.ptr,.sv (SV.aa _),trivial⟩ ⟨⟨_,rfl,⟨.dV,trivial⟩⟩,⟨_,rfl,⟨.sv (SV.aa _),trivial⟩⟩,⟨_,rfl,⟨.row rfl,trivial⟩⟩,trivial⟩ ⟨⟨_,rfl,cc.refl _⟩,trivial⟩ (fun i hi=>by rw[bB (show i≠302 by omega)];rfl)
 rw[Nd]
 obtain⟨nX,dU⟩:=e7
 try dsimp only
 refine aF.n<|ae.n<|sr<|RT.fH .none (s:=.row _) rfl rfl rfl T<|an (s:=.row _) rfl<|dn<|C4 (i:=302) (E1:=80) (n:=1) (e:=aj) (l:=dU) hN (fun _ h=>h) rfl<|aq ?_
 obtain rfl:=O Ca
 exact R1 rfl
end Go.Proofs.Ytmiflmkdaeianaa
namespace Go.Proofs.Ytmiflmkdaeianaa
open Go.Fw Go.Fw.Z Go.RowKit
theorem pH{x0:Int}(N:Nat){r:Zr}(h:aC x0=some r):jP Try.prog 35 N [.v (.int .i64 x0)] (.agg ((fZ N) r)):=by
 refine ec Try.func35 rfl (Nat.le_of_ble_eq_true rfl) (fun eV M vs hN hvs=>?_)
 unfold aC at h
 refine sr<|al (cs:=[.v (.bool false),nw N (slc 1 (List.map aj []))]) (by exact⟨SV.aa _,dO,trivial⟩) rfl<|dn<|sr<|mv rfl<|lE h fun x5 h5 h=>cv _ rfl (UK.conv h5)<|ag rfl<|dn<|qq<|sr<|mv rfl<|lE h fun x7 h7 h=>ls _ rfl rfl h7<|dn ?_
 refine aN h (fun j2=>AS.cm 14 [(0,.sv (.v (.int .i64 x0))),(2,.ptr 2 0),(3,.sv (.v (.int .u64 ((j2:Nat):Int))))] [(2,⟨24,[.sv (.v (.bool false)),.sv (nw N (slc 1 (List.map aj [])))]⟩)] []) (fun h=>?_) (fun M5 h=>?_)
 cases x7
 exact fs<|⟨x5,(F h),wR []⟩
 exact cT<|ah<|mv rfl<|lE (V h) fun x9 h9 h=>RT.neg .none _ rfl T (UK.neg h9)<|ag rfl<|dn<|⟨x9,h,wR []⟩
 try dsimp only
 refine ae.n<|sr<|mv rfl<|lE h fun jE lU h=>ls _ rfl rfl lU<|mv rfl ?_
 obtain⟨⟨mF,qC⟩,jw,h⟩:=bS h
 refine RT.jQ .none (vL N jw) hN rfl ⟨rfl,rfl,trivial⟩ T<|so rfl rfl rfl<|dn<|aq ?_
 obtain rfl:=O h
 exact RZ (.agg rfl rfl (.cons rfl (.cons rfl (.nil))) rfl (.nil))
theorem pI{x0:Bool}{x1:List Nat}{x2:Bool}{x3:List Nat}(N:Nat){r:Zr}(h:bt x0 x1 x2 x3=some r):jP Try.prog 53 N [.v (.bool x0),slc 1 (List.map aj x1),.v (.bool x2),slc 1 (List.map aj x3)] (.agg ((fZ N) r)):=by
 refine ec Try.func53 rfl (Nat.le_of_ble_eq_true rfl) (fun eV M vs hN hvs=>?_)
 unfold bt at h
 refine sr<|al (cs:=[.v (.bool false),nw N (slc 1 (List.map aj []))]) (by exact⟨SV.aa _,dO,trivial⟩) rfl<|dn<|qq<|sr<|mv rfl<|mv rfl<|lE h fun jE lU h=>RT.PA .none _ rfl rfl T lU<|dn ?_
 cases jE
 refine fs<|qq<|sr<|mv rfl<|mv rfl<|bE (F h) fun mB pz h=>cl (cQ pz) ⟨rfl,rfl,trivial⟩<|lE h fun fX kE h=>ls _ rfl rfl kE<|dn ?_
 cases fX
 refine fs<|sr<|mv rfl<|mv rfl<|mv rfl<|bE (F h) fun fR jZ h=>RT.jQ .none (kp N jZ) hN rfl ⟨rfl,rfl,trivial⟩ T ?_
 obtain⟨⟨vE,vF⟩,vJ,h⟩:=bS h
 refine RT.jQ .none (jR N vJ) hN rfl ⟨rfl,rfl,trivial⟩ T<|so rfl rfl rfl<|dn<|aq ?_
 obtain rfl:=O h
 exact RZ (.agg rfl rfl (.cons rfl (.cons rfl (.nil))) rfl (.nil))
 refine cT<|sr<|mv rfl<|mv rfl<|mv rfl<|bE (V h) fun eo lF h=>RT.jQ .none (kp N lF) hN rfl ⟨rfl,rfl,trivial⟩ T ?_
 obtain⟨⟨vC,vD⟩,Aq,h⟩:=bS h
 refine RT.jQ .none (jR N Aq) hN rfl ⟨rfl,rfl,trivial⟩ T<|so rfl rfl rfl<|dn<|aq<|ae.r ?_
 obtain rfl:=O h
 exact RZ (.agg rfl rfl (.cons rfl (.cons rfl (.nil))) rfl (.nil))
 refine cT<|sr<|mv rfl<|mv rfl<|mv rfl<|bE (V h) fun kD pA h=>RT.jQ .none (qJ N pA) hN rfl ⟨rfl,rfl,trivial⟩ T ?_
 obtain⟨⟨ng,nh⟩,nk,h⟩:=bS h
 refine RT.jQ .none (jR N nk) hN rfl ⟨rfl,rfl,trivial⟩ T<|so rfl rfl rfl<|dn<|aq<|ae.r ?_
 obtain rfl:=O h
 exact RZ (.agg rfl rfl (.cons rfl (.cons rfl (.nil))) rfl (.nil))
theorem yL{x0:Zr}{x1:Zr}(N:Nat){r:Zr}(h:cg x0 x1=some r):jP Try.prog 18 N [.agg (eZ x0),.agg (eZ x1)] (.agg ((fZ N) r)):=by
 obtain⟨aW,aU⟩:=x0
 obtain⟨cA,cn⟩:=x1
 refine ec Try.func18 rfl (Nat.le_of_ble_eq_true rfl) (fun eV M vs hN hvs=>?_)
 unfold cg at h
 refine sr<|bx rfl<|bx rfl<|al (cs:=[.v (.bool false),nw N (slc 1 (List.map aj []))]) (by exact⟨SV.aa _,dO,trivial⟩) rfl<|dn<|sr<|ld rfl rfl (.cons rfl (.cons rfl (.nil))) ?_
 obtain⟨⟨tR,yD⟩,iY,h⟩:=bS h
 refine cl (cJ iY) ⟨rfl,trivial⟩<|mv rfl<|ex rfl rfl<|ex rfl rfl<|ag rfl<|ag rfl<|dn<|sr<|ld rfl rfl (.cons rfl (.cons rfl (.nil))) ?_
 obtain⟨⟨vG,yE⟩,kQ,h⟩:=bS h
 refine cl (cJ kQ) ⟨rfl,trivial⟩<|mv rfl<|ex rfl rfl<|ex rfl rfl<|ag rfl<|ag rfl<|dn<|qq<|qq ?_
 refine aN h (fun j3=>AS.cm 48 [(2,.ptr 2 0),(3,.ptr 3 0),(4,.ptr 4 0),(5,.sv (.v (.int .i64 tR))),(7,.sv (.v (.int .i64 vG))),(23,.sv (.v (.bool j3)))] [(4,⟨24,[.sv (.v (.bool false)),.sv (nw N (slc 1 (List.map aj [])))]⟩),(3,⟨24,[.sv (.v (.bool cA)),.sv (slc 1 (List.map aj cn))]⟩),(2,⟨24,[.sv (.v (.bool aW)),.sv (slc 1 (List.map aj aU))]⟩)] []) (fun h=>?_) (fun qD h=>?_)
 refine ah<|mv rfl<|mv rfl<|bE h fun xu Cf h=>?_
 cases yD
 obtain rfl:=O (F Cf)
 exact ww<|pF rfl<|dn<|⟨false,h,wR []⟩
 refine gm rfl ?_
 obtain rfl:=O (V Cf)
 exact pT rfl<|dn<|⟨yE,h,wR []⟩
 try dsimp only
 refine ae.n ?_
 refine aN h (fun j5=>AS.cm 48 [(2,.ptr 2 0),(3,.ptr 3 0),(4,.ptr 4 0)] [(4,⟨24,[.sv (.v (.bool false)),.sv (nw N (slc 1 (List.map aj [])))]⟩),(3,⟨24,[.sv (.v (.bool cA)),.sv (slc 1 (List.map aj cn))]⟩),(2,⟨24,[.sv (.v (.bool aW)),.sv (slc 1 (List.map aj aU))]⟩)] []) (fun h=>?_) (fun j5 h=>?_)
 cases qD
 exact fs<|⟨(),(F h),wR []⟩
 refine cT<|sr<|mv rfl<|mv rfl<|lE (V h) fun iH mN h=>ad _ rfl rfl mN<|ag rfl<|dn<|sr<|mv rfl<|mv rfl<|lE h fun fR jZ h=>RT.xor .none _ rfl rfl T jZ<|mv rfl<|mv rfl<|lE h fun iA lD h=>RT.xor .none _ rfl rfl T lD<|lE h fun kO oI h=>RT.and .none _ rfl rfl T oI<|lE h fun jF nm h=>ge _ rfl rfl nm<|dn ?_
 cases jF
 exact fs<|⟨(),(F h),wR []⟩
 refine cT<|sr<|mv rfl ?_
 obtain⟨⟨ni,kP⟩,vK,h⟩:=bS (V h)
 refine RT.jQ .none (pH N vK) hN rfl ⟨rfl,trivial⟩ T<|so rfl rfl rfl<|dn<|aq<|ae.r<|ae.r ?_
 obtain rfl:=O h
 exact RZ (.agg rfl rfl (.cons rfl (.cons rfl (.nil))) rfl (.nil))
 try dsimp only
 refine ae.n<|qq<|ak mixed<|fa rfl rfl<|lV rfl rfl rfl<|fa rfl rfl<|lV rfl rfl rfl<|bE h fun wI Cd h=>cl (aQ Cd) ⟨rfl,trivial⟩<|fa rfl rfl<|lV rfl rfl rfl<|fa rfl rfl<|lV rfl rfl rfl<|bE h fun uA h46 h=>cl (aQ h46) ⟨rfl,trivial⟩ ?_
 obtain⟨⟨F9,Ga⟩,Ek,h⟩:=bS h
 refine RT.jQ .none (pI N Ek) hN rfl ⟨rfl,rfl,rfl,rfl,trivial⟩ T<|so rfl rfl rfl ?_
 refine RT.done ⟨by kernel_rfl,?_⟩
 refine ae.n<|aq ?_
 obtain rfl:=O h
 exact RZ (.agg rfl rfl (.cons rfl (.cons rfl (.nil))) rfl (.nil))
end Go.Proofs.Ytmiflmkdaeianaa
namespace Go.Proofs.Ytmiflmkdaeianaa
open Go.Fw
noncomputable def jt(x0:Zr)(x1:Zr)(x2:Zr)(x3:Zr):Option (Zr×Zr):=match x0 with|⟨aW,aU⟩=>match x1 with|⟨cA,cn⟩=>match x2 with|⟨yM,yN⟩=>match x3 with|⟨Et,Eu⟩=>(cL ⟨aW,aU⟩ ⟨Et,Eu⟩).bind fun⟨nu,nv⟩=>(cL ⟨yM,yN⟩ ⟨cA,cn⟩).bind fun⟨kR,kS⟩=>(cg ⟨nu,nv⟩ ⟨kR,kS⟩).bind fun⟨ng,nh⟩=>(cL ⟨cA,cn⟩ ⟨Et,Eu⟩).bind fun⟨nx,qK⟩=>some (⟨ng,nh⟩,⟨nx,qK⟩)
noncomputable def ez(x0:Zr)(x1:Zr)(x2:Zr)(x3:Zr):Option (Zr×Zr):=match x0 with|⟨aW,aU⟩=>match x1 with|⟨cA,cn⟩=>match x2 with|⟨yM,yN⟩=>match x3 with|⟨Et,Eu⟩=>(cL ⟨aW,aU⟩ ⟨Et,Eu⟩).bind fun⟨nu,nv⟩=>(cL ⟨yM,yN⟩ ⟨cA,cn⟩).bind fun⟨kR,kS⟩=>(gQ ⟨nu,nv⟩ ⟨kR,kS⟩).bind fun⟨ng,nh⟩=>(cL ⟨cA,cn⟩ ⟨Et,Eu⟩).bind fun⟨nx,qK⟩=>some (⟨ng,nh⟩,⟨nx,qK⟩)
noncomputable def cw(x0:Qr):Option (Zr×Zr):=match x0 with|⟨⟨aW,aU⟩,⟨fL,gb⟩⟩=>(b7 ⟨fL,gb⟩).bind fun x6=>(some (decide ((x6:Int)=0))).bind fun x8=>(bif x8 then(aC 1).bind fun⟨kT,Ax⟩=>some (⟨aW,aU⟩,⟨kT,Ax⟩)else(some (decide ((x6:Int)=(-1)))).bind fun fW=>(bif fW then(dZ ⟨aW,aU⟩).bind fun⟨ng,nh⟩=>(dZ ⟨fL,gb⟩).bind fun⟨nx,qK⟩=>some (⟨ng,nh⟩,⟨nx,qK⟩)else some (⟨aW,aU⟩,⟨fL,gb⟩)))
noncomputable def dG(x0:Zr)(x1:Zr):Option (Qr):=match x0 with|⟨aW,aU⟩=>match x1 with|⟨cA,cn⟩=>(b7 ⟨cA,cn⟩).bind fun x9=>(some (decide ((x9:Int)<0))).bind fun eN=>cz (fun(j2:Bool×(List Nat)×Bool×(List Nat))=>match j2 with|⟨Ci,Cj,Ck,Cm⟩=>(gR ⟨Ck,Cm⟩ ⟨Ci,Cj⟩).bind fun⟨mG,mH⟩=>(bU ⟨Ck,Cm⟩ ⟨mG,mH⟩).bind fun⟨⟨vM,vN⟩,⟨Nr,Ns⟩,ZJ⟩=>(bU ⟨Ci,Cj⟩ ⟨mG,mH⟩).bind fun⟨⟨vO,vP⟩,⟨Nt,Nu⟩,ZK⟩=>(bW ⟨vO,vP⟩).bind fun⟨Nv,Nw⟩=>cz (fun(Gu:Bool)=>cz (fun(j7:Bool×(List Nat))=>match j7 with|⟨Co,Cp⟩=>some ⟨⟨vM,vN⟩,⟨Co,Cp⟩⟩) fun K7=>(bif Gu then K7 (false,[])else K7 (vO,vP))) fun K5=>(bif Nw then(some (decide ((Nv:Int)=1))).bind fun nW=>some nW else some false).bind fun Ku=>K5 Ku) fun K2=>(bif eN then(dZ ⟨aW,aU⟩).bind fun⟨nu,nv⟩=>(dZ ⟨cA,cn⟩).bind fun⟨sO,sP⟩=>K2 (sO,sP,nu,nv)else K2 (cA,cn,aW,aU))
noncomputable def dm(x0:Qr):Option (Int×Int×Bool):=match x0 with|⟨⟨aW,aU⟩,⟨fL,gb⟩⟩=>(bW ⟨aW,aU⟩).bind fun⟨yO,I0⟩=>(bW ⟨fL,gb⟩).bind fun⟨wY,QZ⟩=>cz (fun(Cq:Bool)=>(bif Cq then some (0,0,false)else(some (decide ((wY:Int)=0))).bind fun zI=>cz (fun(Pg:Int×Int)=>match Pg with|⟨Kv,Kw⟩=>some (Kv,Kw,true)) fun K24=>(bif zI then K24 (yO,1)else(some (decide ((wY:Int)<0))).bind fun uA=>cz (fun(Ph:Int×Int)=>match Ph with|⟨Gv,Gw⟩=>K24 (Gv,Gw)) fun K26=>(bif uA then(some (IntKind.i64.wrap (0-yO))).bind fun zJ=>(some (IntKind.i64.wrap (0-wY))).bind fun ux=>K26 (zJ,ux)else K26 (yO,wY))))) fun K21=>(some (!I0)).bind fun fX=>(bif fX then some true else(some (!QZ)).bind fun iy=>some iy).bind fun Gx=>(bif Gx then some true else(some (decide ((yO:Int)≤(-2147483648)))).bind fun lB=>some lB).bind fun Nx=>(bif Nx then some true else(some (decide ((2147483648:Int)≤yO))).bind fun mD=>some mD).bind fun Ny=>(bif Ny then some true else(some (decide ((wY:Int)≤(-2147483648)))).bind fun qw=>some qw).bind fun Nz=>(bif Nz then some true else(some (decide ((2147483648:Int)≤wY))).bind fun mE=>some mE).bind fun NA=>K21 NA
noncomputable def eY(x0:Int)(x1:Int):Option (Qr):=(bR (fun(s6:Int×Int)=>match s6 with|⟨tN,Ev⟩=>(show Option ((Int×Int)⊕(Int))from(some (decide ((Ev:Int)≠0))).bind fun eN=>(bif eN then(D8 tN Ev).bind fun jh=>some (.inl (Ev,jh))else some (.inr tN)))) (x0,x1)).bind fun yP=>(some (decide ((yP:Int)<0))).bind fun ji=>cz (fun(Ew:Int)=>(some (decide ((Ew:Int)=x1))).bind fun iz=>(bif iz then(qp x0 Ew).bind fun eo=>(aC eo).bind fun⟨vC,vD⟩=>some ⟨⟨vC,vD⟩,⟨false,[]⟩⟩else(qp x0 Ew).bind fun fR=>(aC fR).bind fun⟨vE,vF⟩=>(qp x1 Ew).bind fun kO=>(aC kO).bind fun⟨xz,sQ⟩=>some ⟨⟨vE,vF⟩,⟨xz,sQ⟩⟩)) fun K8=>(bif ji then(some (IntKind.i64.wrap (0-yP))).bind fun eT=>K8 eT else K8 yP)
noncomputable def kq(x0:Int):Option (Int):=(some (decide ((x0:Int)<0))).bind fun x5=>(bif x5 then some (-1)else(some (decide ((0:Int)<x0))).bind fun x8=>(bif x8 then some 1 else some 0))
noncomputable def iT(x0:Zr):Option (Zr):=match x0 with|⟨aW,aU⟩=>(cg ⟨aW,aU⟩ ⟨false,[]⟩).bind fun⟨I1,I2⟩=>some ⟨I1,I2⟩
noncomputable def jS(x1:Qr)(x2:Qr):Option (Qr):=match x1 with|⟨⟨cA,cn⟩,⟨pJ,pK⟩⟩=>match x2 with|⟨⟨yM,yN⟩,⟨I3,I4⟩⟩=>(cw ⟨⟨cA,cn⟩,⟨pJ,pK⟩⟩).bind fun⟨⟨lW,lX⟩,⟨ny,nA⟩⟩=>(cw ⟨⟨yM,yN⟩,⟨I3,I4⟩⟩).bind fun⟨⟨lY,lZ⟩,⟨nB,nC⟩⟩=>(jt ⟨lW,lX⟩ ⟨ny,nA⟩ ⟨lY,lZ⟩ ⟨nB,nC⟩).bind fun⟨⟨yQ,yR⟩,⟨yS,yT⟩⟩=>(dG ⟨yQ,yR⟩ ⟨yS,yT⟩).bind fun⟨⟨jL,iW⟩,⟨qL,qM⟩⟩=>some ⟨⟨jL,iW⟩,⟨qL,qM⟩⟩
noncomputable def fM(x1:Qr)(x2:Qr):Option (Qr):=match x1 with|⟨⟨cA,cn⟩,⟨pJ,pK⟩⟩=>match x2 with|⟨⟨yM,yN⟩,⟨I3,I4⟩⟩=>(cw ⟨⟨cA,cn⟩,⟨pJ,pK⟩⟩).bind fun⟨⟨lW,lX⟩,⟨ny,nA⟩⟩=>(cw ⟨⟨yM,yN⟩,⟨I3,I4⟩⟩).bind fun⟨⟨lY,lZ⟩,⟨nB,nC⟩⟩=>(ez ⟨lW,lX⟩ ⟨ny,nA⟩ ⟨lY,lZ⟩ ⟨nB,nC⟩).bind fun⟨⟨yQ,yR⟩,⟨yS,yT⟩⟩=>(dG ⟨yQ,yR⟩ ⟨yS,yT⟩).bind fun⟨⟨jL,iW⟩,⟨qL,qM⟩⟩=>some ⟨⟨jL,iW⟩,⟨qL,qM⟩⟩
noncomputable def iI(x0:Int)(x1:Int):Option (Qr×Int):=(some (decide ((x1:Int)=0))).bind fun x7=>(bif x7 then some (⟨⟨false,[]⟩,⟨false,[]⟩⟩,7)else(aC x0).bind fun⟨Al,Am⟩=>(aC x1).bind fun⟨nu,nv⟩=>(dG ⟨Al,Am⟩ ⟨nu,nv⟩).bind fun⟨⟨mF,qC⟩,⟨Kx,Ky⟩⟩=>some (⟨⟨mF,qC⟩,⟨Kx,Ky⟩⟩,0))
noncomputable def cU(x0:Zr):Option (Qr):=match x0 with|⟨aW,aU⟩=>(iT ⟨aW,aU⟩).bind fun⟨Ex,Ey⟩=>some ⟨⟨Ex,Ey⟩,⟨false,[]⟩⟩
noncomputable def iJ(x0:Qr):Option (Qr):=match x0 with|⟨⟨aW,aU⟩,⟨fL,gb⟩⟩=>(dm ⟨⟨aW,aU⟩,⟨fL,gb⟩⟩).bind fun⟨x8a,x8b,x8c⟩=>(bif x8c then(eY x8a x8b).bind fun⟨⟨kR,kS⟩,⟨Q0,Q1⟩⟩=>some ⟨⟨kR,kS⟩,⟨Q0,Q1⟩⟩else(cw ⟨⟨aW,aU⟩,⟨fL,gb⟩⟩).bind fun⟨⟨NB,NC⟩,⟨ND,NF⟩⟩=>(dG ⟨NB,NC⟩ ⟨ND,NF⟩).bind fun⟨⟨xA,sS⟩,⟨xB,vQ⟩⟩=>some ⟨⟨xA,sS⟩,⟨xB,vQ⟩⟩)
noncomputable def vR(x0:Qr)(x1:Qr):Option (Qr):=match x0 with|⟨⟨aW,aU⟩,⟨fL,gb⟩⟩=>match x1 with|⟨⟨cA,cn⟩,⟨pJ,pK⟩⟩=>(dm ⟨⟨aW,aU⟩,⟨fL,gb⟩⟩).bind fun⟨Gy,Cr,Gz⟩=>(dm ⟨⟨cA,cn⟩,⟨pJ,pK⟩⟩).bind fun⟨GA,Cs,GB⟩=>cz (fun(Ay:Bool)=>(bif Ay then(some (IntKind.i64.wrap (Gy*Cs))).bind fun fR=>(some (IntKind.i64.wrap (GA*Cr))).bind fun iA=>(some (IntKind.i64.wrap (fR+iA))).bind fun kO=>(some (IntKind.i64.wrap (Cr*Cs))).bind fun tQ=>(eY kO tQ).bind fun⟨⟨mI,mJ⟩,⟨vS,xC⟩⟩=>some ⟨⟨mI,mJ⟩,⟨vS,xC⟩⟩else(jS ⟨⟨aW,aU⟩,⟨fL,gb⟩⟩ ⟨⟨cA,cn⟩,⟨pJ,pK⟩⟩).bind fun⟨⟨kg,kj⟩,⟨vT,vU⟩⟩=>some ⟨⟨kg,kj⟩,⟨vT,vU⟩⟩)) fun K3=>(bif Gz then some GB else some false).bind fun C6=>K3 C6
noncomputable def iK(x0:Qr)(x1:Qr):Option (Qr):=match x0 with|⟨⟨aW,aU⟩,⟨fL,gb⟩⟩=>match x1 with|⟨⟨cA,cn⟩,⟨pJ,pK⟩⟩=>(dm ⟨⟨aW,aU⟩,⟨fL,gb⟩⟩).bind fun⟨Gy,Cr,Gz⟩=>(dm ⟨⟨cA,cn⟩,⟨pJ,pK⟩⟩).bind fun⟨GA,Cs,GB⟩=>cz (fun(Ay:Bool)=>(bif Ay then(some (IntKind.i64.wrap (Gy*Cs))).bind fun fR=>(some (IntKind.i64.wrap (GA*Cr))).bind fun iA=>(some (IntKind.i64.wrap (fR-iA))).bind fun kO=>(some (IntKind.i64.wrap (Cr*Cs))).bind fun tQ=>(eY kO tQ).bind fun⟨⟨mI,mJ⟩,⟨vS,xC⟩⟩=>some ⟨⟨mI,mJ⟩,⟨vS,xC⟩⟩else(fM ⟨⟨aW,aU⟩,⟨fL,gb⟩⟩ ⟨⟨cA,cn⟩,⟨pJ,pK⟩⟩).bind fun⟨⟨kg,kj⟩,⟨vT,vU⟩⟩=>some ⟨⟨kg,kj⟩,⟨vT,vU⟩⟩)) fun K3=>(bif Gz then some GB else some false).bind fun C6=>K3 C6
noncomputable def vV(x0:Qr):Option (Qr):=match x0 with|⟨⟨aW,aU⟩,⟨fL,gb⟩⟩=>(iJ ⟨⟨aW,aU⟩,⟨fL,gb⟩⟩).bind fun⟨⟨I1,I2⟩,⟨ZL,ZM⟩⟩=>(dZ ⟨I1,I2⟩).bind fun⟨ZN,ZO⟩=>some ⟨⟨ZN,ZO⟩,⟨ZL,ZM⟩⟩
noncomputable def jT(x0:Qr)(x1:Qr):Option (Int):=match x0 with|⟨⟨aW,aU⟩,⟨fL,gb⟩⟩=>match x1 with|⟨⟨cA,cn⟩,⟨pJ,pK⟩⟩=>(cw ⟨⟨aW,aU⟩,⟨fL,gb⟩⟩).bind fun⟨⟨lW,lX⟩,⟨ny,nA⟩⟩=>(cw ⟨⟨cA,cn⟩,⟨pJ,pK⟩⟩).bind fun⟨⟨lY,lZ⟩,⟨nB,nC⟩⟩=>(b7 ⟨lW,lX⟩).bind fun iV=>(b7 ⟨lY,lZ⟩).bind fun eo=>cz (fun(GC:Bool)=>(bif GC then(some (IntKind.i64.wrap (iV-eo))).bind fun jF=>(kq jF).bind fun qw=>some qw else(cL ⟨lW,lX⟩ ⟨nB,nC⟩).bind fun⟨Kz,KA⟩=>(cL ⟨lY,lZ⟩ ⟨ny,nA⟩).bind fun⟨Az,AA⟩=>(iX ⟨Kz,KA⟩ ⟨Az,AA⟩).bind fun rC=>some rC)) fun K3=>(some (decide ((iV:Int)≠eo))).bind fun lB=>(bif lB then some true else(some (decide ((iV:Int)=0))).bind fun nY=>some nY).bind fun KB=>K3 KB
noncomputable def ig(x0:Qr):Option (Zr):=match x0 with|⟨⟨aW,aU⟩,⟨fL,gb⟩⟩=>(cw ⟨⟨aW,aU⟩,⟨fL,gb⟩⟩).bind fun⟨⟨KC,KD⟩,⟨KE,KF⟩⟩=>(bU ⟨KC,KD⟩ ⟨KE,KF⟩).bind fun⟨⟨vW,vX⟩,⟨NG,NH⟩,ZP⟩=>some ⟨vW,vX⟩
end Go.Proofs.Ytmiflmkdaeianaa
namespace Go.Proofs.Ytmiflmkdaeianaa
open Go.Fw Go.Fw.Z Go.RowKit
abbrev GD:List (Value×Value):=[(.int .u8 43,.agg #[.func (.func 105) #[] #[]]),(.int .u8 45,.agg #[.func (.func 106) #[] #[]]),(.int .u8 42,.agg #[.func (.func 107) #[] #[]]),(.int .u8 47,.agg #[.func (.func 108) #[] #[]])]
theorem pL:Pure Try.prog 88 [] (FR GD):=by
 refine aA Try.func88 rfl (Nat.le_of_ble_eq_true rfl) (fun eV M vs hvs=>?_)
 refine aZ<|ah<|RT.yo .none rfl T<|RT.done<|ae.n<|aZ<|IM (Nat.le_of_ble_eq_true rfl) rfl rfl rfl (fun S' h0=>?_)
 exact aq (R1 h0)
theorem nD{x0:Zr}{x1:Zr}{x2:Zr}{x3:Zr}{r:Zr×Zr}(h:ez x0 x1 x2 x3=some r):Pure Try.prog 106 [.agg (eZ x0),.agg (eZ x1),.agg (eZ x2),.agg (eZ x3)] (.wL [.agg (eZ r.1),.agg (eZ r.2)]):=by
 obtain⟨aW,aU⟩:=x0
 obtain⟨cA,cn⟩:=x1
 obtain⟨yM,yN⟩:=x2
 obtain⟨Et,Eu⟩:=x3
 refine aA Try.func106 rfl (Nat.le_of_ble_eq_true rfl) (fun eV M vs hvs=>?_)
 unfold ez at h
 refine sr<|bx rfl<|bx rfl<|bx rfl<|bx rfl<|al (cs:=[.v (.bool false),slc 1 (List.map aj [])]) (by exact⟨SV.aa _,imp_nil,trivial⟩) rfl<|al (cs:=[.v (.bool false),slc 1 (List.map aj [])]) (by exact⟨SV.aa _,imp_nil,trivial⟩) rfl<|dn<|qq<|ak mixed<|ld rfl rfl (.cons rfl (.cons rfl (.nil)))<|ld rfl rfl (.cons rfl (.cons rfl (.nil))) ?_
 obtain⟨⟨nu,nv⟩,iY,h⟩:=bS h
 refine cl (ic iY) ⟨rfl,rfl,trivial⟩<|ld rfl rfl (.cons rfl (.cons rfl (.nil)))<|ld rfl rfl (.cons rfl (.cons rfl (.nil))) ?_
 obtain⟨⟨kR,kS⟩,pA,h⟩:=bS h
 refine cl (ic pA) ⟨rfl,rfl,trivial⟩ ?_
 obtain⟨⟨ng,nh⟩,nk,h⟩:=bS h
 refine cl (qI nk) ⟨rfl,rfl,trivial⟩<|ld rfl rfl (.cons rfl (.cons rfl (.nil)))<|ld rfl rfl (.cons rfl (.cons rfl (.nil))) ?_
 obtain⟨⟨nx,qK⟩,pz,h⟩:=bS h
 refine cl (ic pz) ⟨rfl,rfl,trivial⟩<|so rfl rfl rfl<|so rfl rfl rfl ?_
 refine RT.done ⟨by kernel_rfl,?_⟩
 refine ae.n<|aq ?_
 obtain rfl:=O h
 exact RZ (.agg rfl rfl (.cons rfl (.cons rfl (.nil))) rfl (.agg rfl rfl (.cons rfl (.cons rfl (.nil))) rfl (.nil)))
theorem gu{x0:Qr}{r:Zr×Zr}(h:cw x0=some r):Pure Try.prog 65 [.agg (eQ x0)] (.wL [.agg (eZ r.1),.agg (eZ r.2)]):=by
 obtain⟨⟨aW,aU⟩,⟨fL,gb⟩⟩:=x0
 refine aA Try.func65 rfl (Nat.le_of_ble_eq_true rfl) (fun eV M vs hvs=>?_)
 unfold cw at h
 refine sr<|bx rfl<|al (cs:=[.v (.bool false),slc 1 (List.map aj [])]) (by exact⟨SV.aa _,imp_nil,trivial⟩) rfl<|al (cs:=[.v (.bool false),slc 1 (List.map aj [])]) (by exact⟨SV.aa _,imp_nil,trivial⟩) rfl<|dn<|qq<|sr<|fa rfl rfl<|ld rfl rfl (.cons rfl (.cons rfl (.nil)))<|bE h fun x6 h6 h=>cl (ep h6) ⟨rfl,trivial⟩<|dn<|ax<|sr<|lE h fun x8 h8 h=>eq _ rfl rfl (o6 (p:=x6) (q:=0) h8) ?_
 refine ag rfl<|dn ?_
 cases x8
 refine cF<|sr<|lE (F h) fun fW jw h=>eq _ rfl rfl (o6 (p:=x6) (q:=(-1)) jw)<|ag rfl<|dn ?_
 cases fW
 refine cF<|aG<|aF.n<|ae.n<|qq<|ak mixed<|fa rfl rfl<|ld rfl rfl (.cons rfl (.cons rfl (.nil)))<|fa rfl rfl<|ld rfl rfl (.cons rfl (.cons rfl (.nil)))<|so rfl rfl rfl<|so rfl rfl rfl ?_
 refine RT.done ⟨by kernel_rfl,?_⟩
 refine ae.n<|aq ?_
 obtain rfl:=O (F h)
 exact RZ (.agg rfl rfl (.cons rfl (.cons rfl (.nil))) rfl (.agg rfl rfl (.cons rfl (.cons rfl (.nil))) rfl (.nil)))
 refine cT<|qq<|ak mixed<|fa rfl rfl<|ld rfl rfl (.cons rfl (.cons rfl (.nil))) ?_
 obtain⟨⟨ng,nh⟩,nk,h⟩:=bS (V h)
 refine cl (jz nk) ⟨rfl,trivial⟩<|fa rfl rfl<|ld rfl rfl (.cons rfl (.cons rfl (.nil))) ?_
 obtain⟨⟨nx,qK⟩,pz,h⟩:=bS h
 refine cl (jz pz) ⟨rfl,trivial⟩<|so rfl rfl rfl<|so rfl rfl rfl ?_
 refine RT.done ⟨by kernel_rfl,?_⟩
 refine ae.n<|aq<|aF.r<|ae.r ?_
 obtain rfl:=O h
 exact RZ (.agg rfl rfl (.cons rfl (.cons rfl (.nil))) rfl (.agg rfl rfl (.cons rfl (.cons rfl (.nil))) rfl (.nil)))
 refine cT<|qq<|ak mixed<|fa rfl rfl<|ld rfl rfl (.cons rfl (.cons rfl (.nil))) ?_
 obtain⟨⟨kT,Ax⟩,lU,h⟩:=bS (V h)
 refine cl (bj lU) ⟨rfl,trivial⟩<|so rfl rfl rfl<|so rfl rfl rfl ?_
 refine RT.done ⟨by kernel_rfl,?_⟩
 refine ae.n<|aq<|aF.r<|ae.r ?_
 obtain rfl:=O h
 exact RZ (.agg rfl rfl (.cons rfl (.cons rfl (.nil))) rfl (.agg rfl rfl (.cons rfl (.cons rfl (.nil))) rfl (.nil)))
theorem nE{x0:Zr}{x1:Zr}{r:Qr}(h:dG x0 x1=some r):Pure Try.prog 73 [.agg (eZ x0),.agg (eZ x1)] (.agg (eQ r)):=by
 obtain⟨aW,aU⟩:=x0
 obtain⟨cA,cn⟩:=x1
 refine aA Try.func73 rfl (Nat.le_of_ble_eq_true rfl) (fun eV M vs hvs=>?_)
 unfold dG at h
 refine sr<|bx rfl<|bx rfl<|al (cs:=[.v (.bool false),slc 1 (List.map aj []),.v (.bool false),slc 1 (List.map aj [])]) (by exact⟨SV.aa _,imp_nil,SV.aa _,imp_nil,trivial⟩) rfl<|dn<|qq<|sr<|ld rfl rfl (.cons rfl (.cons rfl (.nil)))<|bE h fun x9 h9 h=>cl (ep h9) ⟨rfl,trivial⟩<|lE h fun eN gL h=>ls _ rfl rfl gL<|dn ?_
 refine aN h (fun j2=>AS.cm 46 [(2,.ptr 2 0),(3,.ptr 3 0),(4,.ptr 4 0)] [(4,⟨26,[.sv (.v (.bool false)),.sv (slc 1 (List.map aj [])),.sv (.v (.bool false)),.sv (slc 1 (List.map aj []))]⟩),(3,⟨24,[.sv (.v (.bool j2.1)),.sv (slc 1 (List.map aj j2.2.1))]⟩),(2,⟨24,[.sv (.v (.bool j2.2.2.1)),.sv (slc 1 (List.map aj j2.2.2.2))]⟩)] []) (fun h=>?_) (fun j2 h=>?_)
 cases eN
 exact fs<|⟨(cA,cn,aW,aU),(F h),wR []⟩
 refine cT<|ak mixed<|ld rfl rfl (.cons rfl (.cons rfl (.nil))) ?_
 obtain⟨⟨nu,nv⟩,iY,h⟩:=bS (V h)
 refine cl (jz iY) ⟨rfl,trivial⟩<|ld rfl rfl (.cons rfl (.cons rfl (.nil))) ?_
 obtain⟨⟨sO,sP⟩,n7,h⟩:=bS h
 refine cl (jz n7) ⟨rfl,trivial⟩<|so rfl rfl rfl<|so rfl rfl rfl ?_
 refine RT.done ⟨by kernel_rfl,?_⟩
 exact ae.n<|⟨(sO,sP,nu,nv),h,wR []⟩
 obtain⟨Ci,Cj,Ck,Cm⟩:=j2
 try dsimp only
 refine ae.n<|sr<|ld rfl rfl (.cons rfl (.cons rfl (.nil)))<|ld rfl rfl (.cons rfl (.cons rfl (.nil))) ?_
 obtain⟨⟨mG,mH⟩,kQ,h⟩:=bS h
 refine cl (yJ kQ) ⟨rfl,rfl,trivial⟩<|al (cs:=[.v (.bool false),slc 1 (List.map aj [])]) (by exact⟨SV.aa _,imp_nil,trivial⟩) rfl<|so rfl rfl rfl<|dn<|sr<|ld rfl rfl (.cons rfl (.cons rfl (.nil)))<|ld rfl rfl (.cons rfl (.cons rfl (.nil))) ?_
 obtain⟨⟨⟨vM,vN⟩,⟨Nr,Ns⟩,ZJ⟩,pB,h⟩:=bS h
 refine cl (gH pB) ⟨rfl,rfl,trivial⟩<|mv rfl<|ex rfl rfl<|ex rfl rfl<|ex rfl rfl<|so rfl rfl rfl<|dn<|sr<|ld rfl rfl (.cons rfl (.cons rfl (.nil)))<|ld rfl rfl (.cons rfl (.cons rfl (.nil))) ?_
 obtain⟨⟨⟨vO,vP⟩,⟨Nt,Nu⟩,ZK⟩,vI,h⟩:=bS h
 refine cl (gH vI) ⟨rfl,rfl,trivial⟩<|mv rfl<|ex rfl rfl<|ex rfl rfl<|ex rfl rfl<|so rfl rfl rfl<|dn<|qq<|sr<|ld rfl rfl (.cons rfl (.cons rfl (.nil))) ?_
 obtain⟨⟨Nv,Nw⟩,nm,h⟩:=bS h
 refine cl (cJ nm) ⟨rfl,trivial⟩<|mv rfl<|ex rfl rfl<|ex rfl rfl<|ag rfl<|ag rfl<|dn<|qq ?_
 refine aN h (fun j5=>AS.cm 46 [(2,.ptr 2 0),(3,.ptr 3 0),(4,.ptr 4 0),(41,.sv (.v (.bool j5)))] [(4,⟨26,[.sv (.v (.bool false)),.sv (slc 1 (List.map aj [])),.sv (.v (.bool false)),.sv (slc 1 (List.map aj []))]⟩),(3,⟨24,[.sv (.v (.bool vO)),.sv (slc 1 (List.map aj vP))]⟩),(2,⟨24,[.sv (.v (.bool vM)),.sv (slc 1 (List.map aj vN))]⟩)] []) (fun h=>?_) (fun Gu h=>?_)
 refine ah<|mv rfl<|mv rfl<|bE h fun Ku I5 h=>?_
 cases Nw
 obtain rfl:=O (F I5)
 exact ww<|ww<|pF rfl<|dn<|⟨false,h,wR []⟩
 refine gm rfl<|lE (V I5) fun nW sN I5=>BU _ rfl rfl (o6 (p:=Nv) (q:=1) sN) ?_
 obtain rfl:=O I5
 exact pT rfl<|dn<|⟨nW,h,wR []⟩
 try dsimp only
 refine ae.n ?_
 refine aN h (fun j7=>AS.cm 46 [(2,.ptr 2 0),(3,.ptr 3 0),(4,.ptr 4 0)] [(4,⟨26,[.sv (.v (.bool false)),.sv (slc 1 (List.map aj [])),.sv (.v (.bool false)),.sv (slc 1 (List.map aj []))]⟩),(3,⟨24,[.sv (.v (.bool j7.1)),.sv (slc 1 (List.map aj j7.2))]⟩),(2,⟨24,[.sv (.v (.bool vM)),.sv (slc 1 (List.map aj vN))]⟩)] []) (fun h=>?_) (fun j7 h=>?_)
 cases Gu
 exact fs<|⟨(vO,vP),(F h),wR []⟩
 exact cT<|ah<|bI (cs:=[_,_]) (cs':=[.v (.bool false),slc 1 (List.map aj [])]) (.nil) ⟨SV.aa _,imp_nil,trivial⟩<|so rfl rfl rfl<|dn<|⟨(false,[]),(V h),wR []⟩
 obtain⟨Co,Cp⟩:=j7
 try dsimp only
 refine ae.n<|sr<|ld rfl rfl (.cons rfl (.cons rfl (.nil)))<|ld rfl rfl (.cons rfl (.cons rfl (.nil)))<|bI (cs:=[_,_,_,_]) (cs':=[.v (.bool vM),slc 1 (List.map aj vN),.v (.bool Co),slc 1 (List.map aj Cp)]) (.agg rfl (.agg rfl (.nil))) ⟨SV.aa _,SV.aa _,SV.aa _,SV.aa _,trivial⟩<|so rfl rfl rfl<|dn<|aq ?_
 obtain rfl:=O h
 exact RZ (.agg rfl rfl (.cons rfl (.cons rfl (.cons rfl (.cons rfl (.nil))))) rfl (.nil))
theorem oK{x0:Qr}{r:Int×Int×Bool}(h:dm x0=some r):Pure Try.prog 61 [.agg (eQ x0)] (.wL [.v (.int .i64 r.1),.v (.int .i64 r.2.1),.v (.bool r.2.2)]):=by
 obtain⟨⟨aW,aU⟩,⟨fL,gb⟩⟩:=x0
 refine aA Try.func61 rfl (Nat.le_of_ble_eq_true rfl) (fun eV M vs hvs=>?_)
 unfold dm at h
 refine sr<|bx rfl<|ag rfl<|ag rfl<|ag rfl<|dn<|sr<|fa rfl rfl<|ld rfl rfl (.cons rfl (.cons rfl (.nil))) ?_
 obtain⟨⟨yO,I0⟩,gL,h⟩:=bS h
 refine cl (cJ gL) ⟨rfl,trivial⟩<|mv rfl<|ex rfl rfl<|ex rfl rfl<|ag rfl<|ag rfl<|dn<|sr<|fa rfl rfl<|ld rfl rfl (.cons rfl (.cons rfl (.nil))) ?_
 obtain⟨⟨wY,QZ⟩,nk,h⟩:=bS h
 refine cl (cJ nk) ⟨rfl,trivial⟩<|mv rfl<|ex rfl rfl<|ex rfl rfl<|ag rfl<|ag rfl<|dn<|qq<|qq ?_
 refine aN h (fun j21=>AS.cm 53 [(2,.sv (.v (.int .i64 yO))),(3,.sv (.v (.int .i64 wY))),(40,.sv (.v (.bool j21)))] [] []) (fun h=>?_) (fun Cq h=>?_)
 refine ah<|mv rfl<|lE h fun fX kE h=>nt rfl _ kE<|mv rfl<|bE h fun Gx I6 h=>?_
 cases fX
 refine gm rfl<|lE (F I6) fun iy mM I6=>Yl rfl _ mM ?_
 obtain rfl:=O I6
 refine pF rfl<|mv rfl<|bE h fun ZQ I7 h=>?_
 cases iy
 refine gm rfl<|lE (F I7) fun lB n8 I7=>RT.leq (.some rfl rfl) _ rfl rfl T n8 ?_
 obtain rfl:=O I7
 refine pF rfl<|mv rfl<|bE h fun ZR I8 h=>?_
 cases lB
 refine gm rfl<|lE (F I8) fun mD wJ I8=>RT.geq (.some rfl rfl) _ rfl rfl T wJ ?_
 obtain rfl:=O I8
 refine pF rfl<|mv rfl<|bE h fun ZS rX h=>?_
 cases mD
 refine gm rfl<|lE (F rX) fun qw Cc rX=>RT.leq (.some rfl rfl) _ rfl rfl T Cc ?_
 obtain rfl:=O rX
 refine pF rfl<|mv rfl<|bE h fun ZT yU h=>?_
 cases qw
 refine gm rfl<|lE (F yU) fun mE Ce yU=>RT.geq (.some rfl rfl) _ rfl rfl T Ce ?_
 obtain rfl:=O yU
 exact pF rfl<|dn<|⟨mE,h,wR []⟩
 obtain rfl:=O (V yU)
 exact ww<|ww<|pT rfl<|dn<|⟨true,h,wR []⟩
 obtain rfl:=O (V rX)
 refine ww<|ww<|pT rfl<|mv rfl<|bE h fun ZU AB h=>?_
 obtain rfl:=O (V AB)
 exact ww<|ww<|pT rfl<|dn<|⟨true,h,wR []⟩
 obtain rfl:=O (V I8)
 refine ww<|ww<|pT rfl<|mv rfl<|bE h fun ZV NI h=>?_
 obtain rfl:=O (V NI)
 refine ww<|ww<|pT rfl<|mv rfl<|bE h fun ZW ZX h=>?_
 obtain rfl:=O (V ZX)
 exact ww<|ww<|pT rfl<|dn<|⟨true,h,wR []⟩
 obtain rfl:=O (V I7)
 refine ww<|ww<|pT rfl<|mv rfl<|bE h fun ZY wZ h=>?_
 obtain rfl:=O (V wZ)
 refine ww<|ww<|pT rfl<|mv rfl<|bE h fun ZZ w5 h=>?_
 obtain rfl:=O (V w5)
 refine ww<|ww<|pT rfl<|mv rfl<|bE h fun Z0 tX h=>?_
 obtain rfl:=O (V tX)
 exact ww<|ww<|pT rfl<|dn<|⟨true,h,wR []⟩
 obtain rfl:=O (V I6)
 refine ww<|ww<|pT rfl<|mv rfl<|bE h fun Z1 NJ h=>?_
 obtain rfl:=O (V NJ)
 refine ww<|ww<|pT rfl<|mv rfl<|bE h fun Z2 NK h=>?_
 obtain rfl:=O (V NK)
 refine ww<|ww<|pT rfl<|mv rfl<|bE h fun Z3 NL h=>?_
 obtain rfl:=O (V NL)
 refine ww<|ww<|pT rfl<|mv rfl<|bE h fun Z4 Z5 h=>?_
 obtain rfl:=O (V Z5)
 exact ww<|ww<|pT rfl<|dn<|⟨true,h,wR []⟩
 try dsimp only
 refine ae.n ?_
 cases Cq
 refine fs<|qq<|ax<|sr<|mv rfl<|lE (F h) fun zI E4 h=>eq _ rfl rfl (o6 (p:=wY) (q:=0) E4)<|ag rfl<|dn ?_
 refine aN h (fun Pg=>AS.cm 53 [(2,.sv (.v (.int .i64 Pg.1))),(3,.sv (.v (.int .i64 Pg.2)))] [] []) (fun h=>?_) (fun Pg h=>?_)
 cases zI
 refine cF<|sr<|mv rfl<|lE (F h) fun uA h46 h=>ls _ rfl rfl h46<|ag rfl<|dn ?_
 refine aN h (fun Ph=>AS.cm 53 [(2,.sv (.v (.int .i64 Ph.1))),(3,.sv (.v (.int .i64 Ph.2)))] [] []) (fun h=>?_) (fun Ph h=>?_)
 cases uA
 exact fs<|⟨(yO,wY),(F h),wR []⟩
 exact cT<|ah<|mv rfl<|lE (V h) fun zJ h48 h=>RT.neg .none _ rfl T h48<|mv rfl<|lE h fun ux El h=>RT.neg .none _ rfl T El<|ag rfl<|ag rfl<|dn<|⟨(zJ,ux),h,wR []⟩
 obtain⟨Gv,Gw⟩:=Ph
 try dsimp only
 exact ae.n<|⟨(Gv,Gw),h,wR []⟩
 exact cT<|ah<|ag rfl<|dn<|⟨(yO,1),(V h),wR []⟩
 obtain⟨Kv,Kw⟩:=Pg
 try dsimp only
 refine aF.n<|ae.n<|sr<|mv rfl<|mv rfl<|ag rfl<|ag rfl<|ag rfl<|dn<|aq ?_
 obtain rfl:=O h
 exact RZ (.tmp rfl (.tmp rfl (.tmp rfl (.nil))))
 refine cT<|sr<|ag rfl<|ag rfl<|ag rfl<|dn<|aq<|ae.r ?_
 obtain rfl:=O (V h)
 exact RZ (.tmp rfl (.tmp rfl (.tmp rfl (.nil))))
theorem w6{x0:Int}{x1:Int}{r:Qr}(h:eY x0 x1=some r):Pure Try.prog 62 [.v (.int .i64 x0),.v (.int .i64 x1)] (.agg (eQ r)):=by
 refine aA Try.func62 rfl (Nat.le_of_ble_eq_true rfl) (fun eV M vs hvs=>?_)
 unfold eY at h
 refine sr<|al (cs:=[.v (.bool false),slc 1 (List.map aj []),.v (.bool false),slc 1 (List.map aj [])]) (by exact⟨SV.aa _,imp_nil,SV.aa _,imp_nil,trivial⟩) rfl<|dn<|sr<|mv rfl<|mv rfl<|ag rfl<|ag rfl<|dn<|qq<|bE h fun e6 QF pC=>?_
 refine bg (fun(yP:Int)=>AS.cm 36 [(0,.sv (.v (.int .i64 x0))),(1,.sv (.v (.int .i64 x1))),(4,.ptr 4 0),(5,.sv (.v (.int .i64 yP)))] [(4,⟨26,[.sv (.v (.bool false)),.sv (slc 1 (List.map aj [])),.sv (.v (.bool false)),.sv (slc 1 (List.map aj []))]⟩)] []) (fun yP=>yP=e6) ?_ (fun yP QG=>?_)
 refine ax ?_
 refine bh QF (fun s6=>AS.cm 36 [(0,.sv (.v (.int .i64 x0))),(1,.sv (.v (.int .i64 x1))),(4,.ptr 4 0),(5,.sv (.v (.int .i64 s6.1))),(6,.sv (.v (.int .i64 s6.2)))] [(4,⟨26,[.sv (.v (.bool false)),.sv (slc 1 (List.map aj [])),.sv (.v (.bool false)),.sv (slc 1 (List.map aj []))]⟩)] []) (wR []) (fun s6 y6 G6 h QH M9=>?_)
 obtain⟨tN,Ev⟩:=s6
 try dsimp only
 refine qq<|sr<|mv rfl<|lE h fun eN gL h=>ne _ rfl rfl (IE (p:=Ev) (q:=0) gL)<|dn ?_
 cases eN
 refine cF<|bq<|ae.x<|ae.x<|aF.x<|ae.n ?_
 obtain rfl:=O (F h)
 exact⟨tN,M9 _ rfl,wR []⟩
 refine cT<|aG<|ae.n<|ax<|ak mixed<|mv rfl<|mv rfl<|mv rfl<|bE (V h) fun jh n7 h=>RT.rem .none _ rfl rfl T (X6 n7) (X7 n7)<|ag rfl<|ag rfl ?_
 refine RT.done ⟨by kernel_rfl,?_⟩
 refine aF.n ?_
 obtain rfl:=O h
 exact ae.n ⟨(Ev,jh),QH _ rfl,wR []⟩
 subst QG
 try dsimp only
 refine ae.n<|qq<|sr<|mv rfl<|lE pC fun ji nk pC=>ls _ rfl rfl nk<|dn ?_
 refine aN pC (fun j8=>AS.cm 36 [(0,.sv (.v (.int .i64 x0))),(1,.sv (.v (.int .i64 x1))),(4,.ptr 4 0),(5,.sv (.v (.int .i64 j8)))] [(4,⟨26,[.sv (.v (.bool false)),.sv (slc 1 (List.map aj [])),.sv (.v (.bool false)),.sv (slc 1 (List.map aj []))]⟩)] []) (fun pC=>?_) (fun Ew pC=>?_)
 cases ji
 exact fs<|⟨yP,(F pC),wR []⟩
 exact cT<|ah<|mv rfl<|lE (V pC) fun eT jx pC=>RT.neg .none _ rfl T jx<|ag rfl<|dn<|⟨eT,pC,wR []⟩
 try dsimp only
 refine ae.n<|qq<|sr<|mv rfl<|mv rfl<|lE pC fun iz pB pC=>eq _ rfl rfl (o6 (p:=Ew) (q:=x1) pB)<|dn ?_
 cases iz
 refine fs<|qq<|ak mixed<|mv rfl<|mv rfl<|bE (F pC) fun fR jZ pC=>RT.quo .none _ rfl rfl T (X5 jZ) (MC jZ) ?_
 obtain⟨⟨vE,vF⟩,vJ,pC⟩:=bS pC
 refine cl (bj vJ) ⟨rfl,trivial⟩<|mv rfl<|mv rfl<|bE pC fun kO oI pC=>RT.quo .none _ rfl rfl T (X5 oI) (MC oI) ?_
 obtain⟨⟨xz,sQ⟩,nm,pC⟩:=bS pC
 refine cl (bj nm) ⟨rfl,trivial⟩<|bI (cs:=[_,_,_,_]) (cs':=[.v (.bool vE),slc 1 (List.map aj vF),.v (.bool xz),slc 1 (List.map aj sQ)]) (.agg rfl (.agg rfl (.nil))) ⟨SV.aa _,SV.aa _,SV.aa _,SV.aa _,trivial⟩<|so rfl rfl rfl ?_
 refine RT.done ⟨by kernel_rfl,?_⟩
 refine ae.n<|aq ?_
 obtain rfl:=O pC
 exact RZ (.agg rfl rfl (.cons rfl (.cons rfl (.cons rfl (.cons rfl (.nil))))) rfl (.nil))
 refine cT<|sr<|mv rfl<|mv rfl<|bE (V pC) fun eo lF pC=>RT.quo .none _ rfl rfl T (X5 lF) (MC lF) ?_
 obtain⟨⟨vC,vD⟩,Aq,pC⟩:=bS pC
 refine cl (bj Aq) ⟨rfl,trivial⟩<|bI (cs:=[_,_,_,_]) (cs':=[.v (.bool vC),slc 1 (List.map aj vD),.v (.bool false),slc 1 (List.map aj [])]) (.agg rfl (.nil)) ⟨SV.aa _,SV.aa _,SV.aa _,imp_nil,trivial⟩<|so rfl rfl rfl<|dn<|aq<|ae.r ?_
 obtain rfl:=O pC
 exact RZ (.agg rfl rfl (.cons rfl (.cons rfl (.cons rfl (.cons rfl (.nil))))) rfl (.nil))
theorem yV{x0:Int}{r:Int}(h:kq x0=some r):Pure Try.prog 66 [.v (.int .i64 x0)] (.v (.int .i64 r)):=by
 refine aA Try.func66 rfl (Nat.le_of_ble_eq_true rfl) (fun eV M vs hvs=>?_)
 unfold kq at h
 refine sr<|ag rfl<|dn<|qq<|ax<|sr<|mv rfl<|lE h fun x5 h5 h=>ls _ rfl rfl h5<|ag rfl<|dn ?_
 cases x5
 refine cF<|sr<|mv rfl<|lE (F h) fun x8 h8 h=>gt _ rfl rfl h8<|ag rfl<|dn ?_
 cases x8
 refine cF<|aG<|aF.n<|ae.n<|sr<|ag rfl<|dn<|aq ?_
 obtain rfl:=O (F h)
 exact R1 rfl
 refine cT<|sr<|ag rfl<|dn<|aq<|aF.r<|ae.r ?_
 obtain rfl:=O (V h)
 exact R1 rfl
 refine cT<|sr<|ag rfl<|dn<|aq<|aF.r<|ae.r ?_
 obtain rfl:=O (V h)
 exact R1 rfl
theorem vY{x0:Zr}{r:Zr}(h:iT x0=some r):Pure Try.prog 64 [.agg (eZ x0)] (.agg (eZ r)):=by
 obtain⟨aW,aU⟩:=x0
 refine aA Try.func64 rfl (Nat.le_of_ble_eq_true rfl) (fun eV M vs hvs=>?_)
 unfold iT at h
 refine sr<|bx rfl<|al (cs:=[.v (.bool false),slc 1 (List.map aj [])]) (by exact⟨SV.aa _,imp_nil,trivial⟩) rfl<|dn<|sr<|ld rfl rfl (.cons rfl (.cons rfl (.nil)))<|bI (cs:=[_,_]) (cs':=[.v (.bool false),slc 1 (List.map aj [])]) (.nil) ⟨SV.aa _,imp_nil,trivial⟩ ?_
 obtain⟨⟨I1,I2⟩,h5,h⟩:=bS h
 refine cl (eX h5) ⟨rfl,rfl,trivial⟩<|so rfl rfl rfl<|dn<|aq ?_
 obtain rfl:=O h
 exact RZ (.agg rfl rfl (.cons rfl (.cons rfl (.nil))) rfl (.nil))
theorem tY{x1:Qr}{x2:Qr}{r:Qr}(h:fM x1 x2=some r):Pure Try.prog 63 [.v (.int .u8 ((45:Nat):Int)),.agg (eQ x1),.agg (eQ x2)] (.agg (eQ r)):=by
 obtain⟨⟨cA,cn⟩,⟨pJ,pK⟩⟩:=x1
 obtain⟨⟨yM,yN⟩,⟨I3,I4⟩⟩:=x2
 refine aA Try.func63 rfl (Nat.le_of_ble_eq_true rfl) (fun eV M vs hvs=>?_)
 unfold fM at h
 refine sr<|bx rfl<|bx rfl<|al (cs:=[.v (.bool false),slc 1 (List.map aj []),.v (.bool false),slc 1 (List.map aj [])]) (by exact⟨SV.aa _,imp_nil,SV.aa _,imp_nil,trivial⟩) rfl<|dn<|sr<|ld rfl rfl (.cons rfl (.cons rfl (.cons rfl (.cons rfl (.nil))))) ?_
 obtain⟨⟨⟨lW,lX⟩,⟨ny,nA⟩⟩,jw,h⟩:=bS h
 refine cl (gu jw) ⟨rfl,trivial⟩<|mv rfl<|ex rfl rfl<|ex rfl rfl<|al (cs:=[.v (.bool false),slc 1 (List.map aj [])]) (by exact⟨SV.aa _,imp_nil,trivial⟩) rfl<|al (cs:=[.v (.bool false),slc 1 (List.map aj [])]) (by exact⟨SV.aa _,imp_nil,trivial⟩) rfl<|so rfl rfl rfl<|so rfl rfl rfl<|dn<|sr<|ld rfl rfl (.cons rfl (.cons rfl (.cons rfl (.cons rfl (.nil))))) ?_
 obtain⟨⟨⟨lY,lZ⟩,⟨nB,nC⟩⟩,jx,h⟩:=bS h
 refine cl (gu jx) ⟨rfl,trivial⟩<|mv rfl<|ex rfl rfl<|ex rfl rfl<|al (cs:=[.v (.bool false),slc 1 (List.map aj [])]) (by exact⟨SV.aa _,imp_nil,trivial⟩) rfl<|al (cs:=[.v (.bool false),slc 1 (List.map aj [])]) (by exact⟨SV.aa _,imp_nil,trivial⟩) rfl<|so rfl rfl rfl<|so rfl rfl rfl<|dn<|qq<|ak mixed<|cl pL trivial<|mv rfl ?_
 refine RT.look .none [.func (.func 106) #[] #[]] rfl rfl rfl T<|fl rfl rfl<|ld rfl rfl (.cons rfl (.cons rfl (.nil)))<|ld rfl rfl (.cons rfl (.cons rfl (.nil)))<|ld rfl rfl (.cons rfl (.cons rfl (.nil)))<|ld rfl rfl (.cons rfl (.cons rfl (.nil))) ?_
 obtain⟨⟨⟨yQ,yR⟩,⟨yS,yT⟩⟩,jZ,h⟩:=bS h
 refine cl (nD jZ) ⟨rfl,rfl,rfl,rfl,trivial⟩<|ex rfl rfl<|ex rfl rfl ?_
 obtain⟨⟨⟨jL,iW⟩,⟨qL,qM⟩⟩,lD,h⟩:=bS h
 refine cl (nE lD) ⟨rfl,rfl,trivial⟩<|so rfl rfl rfl ?_
 refine RT.done ⟨by kernel_rfl,?_⟩
 refine ae.n<|aq ?_
 obtain rfl:=O h
 exact RZ (.agg rfl rfl (.cons rfl (.cons rfl (.cons rfl (.cons rfl (.nil))))) rfl (.nil))
end Go.Proofs.Ytmiflmkdaeianaa
namespace Go.Proofs.Ytmiflmkdaeianaa
open Go.Fw Go.Fw.Z Go.RowKit
theorem sV{x0:Int}{x1:Int}{r:Qr×Int}(h:iI x0 x1=some r):Pure Try.prog 40 [.v (.int .i64 x0),.v (.int .i64 x1)] (.wL [.agg (eQ r.1),.v (.int .i64 r.2)]):=by
 refine aA Try.func40 rfl (Nat.le_of_ble_eq_true rfl) (fun eV M vs hvs=>?_)
 unfold iI at h
 refine sr<|al (cs:=[.v (.bool false),slc 1 (List.map aj []),.v (.bool false),slc 1 (List.map aj [])]) (by exact⟨SV.aa _,imp_nil,SV.aa _,imp_nil,trivial⟩) rfl<|ag rfl<|dn<|qq<|sr<|mv rfl<|lE h fun x7 h7 h=>eq _ rfl rfl (o6 (p:=x1) (q:=0) h7)<|dn ?_
 cases x7
 refine fs<|sr<|mv rfl ?_
 obtain⟨⟨Al,Am⟩,gL,h⟩:=bS (F h)
 refine cl (bj gL) ⟨rfl,trivial⟩<|mv rfl ?_
 obtain⟨⟨nu,nv⟩,iY,h⟩:=bS h
 refine cl (bj iY) ⟨rfl,trivial⟩ ?_
 obtain⟨⟨⟨mF,qC⟩,⟨Kx,Ky⟩⟩,jw,h⟩:=bS h
 refine cl (nE jw) ⟨rfl,rfl,trivial⟩<|so rfl rfl rfl<|ag rfl<|dn<|aq ?_
 obtain rfl:=O h
 exact RZ (.agg rfl rfl (.cons rfl (.cons rfl (.cons rfl (.cons rfl (.nil))))) rfl (.tmp rfl (.nil)))
 refine cT<|sr<|bI (cs:=[_,_,_,_]) (cs':=[.v (.bool false),slc 1 (List.map aj []),.v (.bool false),slc 1 (List.map aj [])]) (.nil) ⟨SV.aa _,imp_nil,SV.aa _,imp_nil,trivial⟩<|so rfl rfl rfl<|ag rfl<|dn<|aq<|ae.r ?_
 obtain rfl:=O (V h)
 exact RZ (.agg rfl rfl (.cons rfl (.cons rfl (.cons rfl (.cons rfl (.nil))))) rfl (.tmp rfl (.nil)))
theorem ow{x0:Zr}{r:Qr}(h:cU x0=some r):Pure Try.prog 32 [.agg (eZ x0)] (.agg (eQ r)):=by
 obtain⟨aW,aU⟩:=x0
 refine aA Try.func32 rfl (Nat.le_of_ble_eq_true rfl) (fun eV M vs hvs=>?_)
 unfold cU at h
 refine sr<|bx rfl<|al (cs:=[.v (.bool false),slc 1 (List.map aj []),.v (.bool false),slc 1 (List.map aj [])]) (by exact⟨SV.aa _,imp_nil,SV.aa _,imp_nil,trivial⟩) rfl<|dn<|sr<|ld rfl rfl (.cons rfl (.cons rfl (.nil))) ?_
 obtain⟨⟨Ex,Ey⟩,h4,h⟩:=bS h
 refine cl (vY h4) ⟨rfl,trivial⟩<|bI (cs:=[_,_,_,_]) (cs':=[.v (.bool Ex),slc 1 (List.map aj Ey),.v (.bool false),slc 1 (List.map aj [])]) (.agg rfl (.nil)) ⟨SV.aa _,SV.aa _,SV.aa _,imp_nil,trivial⟩<|so rfl rfl rfl<|dn<|aq ?_
 obtain rfl:=O h
 exact RZ (.agg rfl rfl (.cons rfl (.cons rfl (.cons rfl (.cons rfl (.nil))))) rfl (.nil))
theorem AD{x0:Qr}{x1:Qr}{r:Qr}(h:iK x0 x1=some r):Pure Try.prog 31 [.agg (eQ x0),.agg (eQ x1)] (.agg (eQ r)):=by
 obtain⟨⟨aW,aU⟩,⟨fL,gb⟩⟩:=x0
 obtain⟨⟨cA,cn⟩,⟨pJ,pK⟩⟩:=x1
 refine aA Try.func31 rfl (Nat.le_of_ble_eq_true rfl) (fun eV M vs hvs=>?_)
 unfold iK at h
 refine sr<|bx rfl<|bx rfl<|al (cs:=[.v (.bool false),slc 1 (List.map aj []),.v (.bool false),slc 1 (List.map aj [])]) (by exact⟨SV.aa _,imp_nil,SV.aa _,imp_nil,trivial⟩) rfl<|dn<|sr<|ld rfl rfl (.cons rfl (.cons rfl (.cons rfl (.cons rfl (.nil))))) ?_
 obtain⟨⟨Gy,Cr,Gz⟩,jw,h⟩:=bS h
 refine cl (oK jw) ⟨rfl,trivial⟩<|mv rfl<|ex rfl rfl<|ex rfl rfl<|ex rfl rfl<|ag rfl<|ag rfl<|ag rfl<|dn<|sr<|ld rfl rfl (.cons rfl (.cons rfl (.cons rfl (.cons rfl (.nil))))) ?_
 obtain⟨⟨GA,Cs,GB⟩,pz,h⟩:=bS h
 refine cl (oK pz) ⟨rfl,trivial⟩<|mv rfl<|ex rfl rfl<|ex rfl rfl<|ex rfl rfl<|ag rfl<|ag rfl<|ag rfl<|dn<|qq<|qq ?_
 refine aN h (fun j3=>AS.cm 41 [(2,.ptr 2 0),(3,.ptr 3 0),(4,.ptr 4 0),(5,.sv (.v (.int .i64 Gy))),(6,.sv (.v (.int .i64 Cr))),(8,.sv (.v (.int .i64 GA))),(9,.sv (.v (.int .i64 Cs))),(26,.sv (.v (.bool j3)))] [(4,⟨26,[.sv (.v (.bool false)),.sv (slc 1 (List.map aj [])),.sv (.v (.bool false)),.sv (slc 1 (List.map aj []))]⟩),(3,⟨26,[.sv (.v (.bool cA)),.sv (slc 1 (List.map aj cn)),.sv (.v (.bool pJ)),.sv (slc 1 (List.map aj pK))]⟩),(2,⟨26,[.sv (.v (.bool aW)),.sv (slc 1 (List.map aj aU)),.sv (.v (.bool fL)),.sv (slc 1 (List.map aj gb))]⟩)] []) (fun h=>?_) (fun Ay h=>?_)
 refine ah<|mv rfl<|mv rfl<|bE h fun C6 oJ h=>?_
 cases Gz
 obtain rfl:=O (F oJ)
 exact ww<|pF rfl<|dn<|⟨false,h,wR []⟩
 refine gm rfl ?_
 obtain rfl:=O (V oJ)
 exact pT rfl<|dn<|⟨GB,h,wR []⟩
 try dsimp only
 refine ae.n ?_
 cases Ay
 refine fs<|sr<|ld rfl rfl (.cons rfl (.cons rfl (.cons rfl (.cons rfl (.nil)))))<|ld rfl rfl (.cons rfl (.cons rfl (.cons rfl (.cons rfl (.nil))))) ?_
 obtain⟨⟨⟨kg,kj⟩,⟨vT,vU⟩⟩,sN,h⟩:=bS (F h)
 refine cl (tY sN) ⟨rfl,rfl,rfl,trivial⟩<|so rfl rfl rfl<|dn<|aq ?_
 obtain rfl:=O h
 exact RZ (.agg rfl rfl (.cons rfl (.cons rfl (.cons rfl (.cons rfl (.nil))))) rfl (.nil))
 refine cT<|sr<|mv rfl<|mv rfl<|lE (V h) fun fR jZ h=>RT.mul .none _ rfl rfl T jZ<|mv rfl<|mv rfl<|lE h fun iA lD h=>RT.mul .none _ rfl rfl T lD<|lE h fun kO oI h=>sb _ rfl rfl oI<|mv rfl<|mv rfl<|lE h fun tQ vK h=>RT.mul .none _ rfl rfl T vK ?_
 obtain⟨⟨⟨mI,mJ⟩,⟨vS,xC⟩⟩,yH,h⟩:=bS h
 refine cl (w6 yH) ⟨rfl,rfl,trivial⟩<|so rfl rfl rfl<|dn<|aq<|ae.r ?_
 obtain rfl:=O h
 exact RZ (.agg rfl rfl (.cons rfl (.cons rfl (.cons rfl (.cons rfl (.nil))))) rfl (.nil))
theorem AE{x0:Qr}{x1:Qr}{r:Int}(h:jT x0 x1=some r):Pure Try.prog 33 [.agg (eQ x0),.agg (eQ x1)] (.v (.int .i64 r)):=by
 obtain⟨⟨aW,aU⟩,⟨fL,gb⟩⟩:=x0
 obtain⟨⟨cA,cn⟩,⟨pJ,pK⟩⟩:=x1
 refine aA Try.func33 rfl (Nat.le_of_ble_eq_true rfl) (fun eV M vs hvs=>?_)
 unfold jT at h
 refine sr<|bx rfl<|bx rfl<|ag rfl<|dn<|sr<|ld rfl rfl (.cons rfl (.cons rfl (.cons rfl (.cons rfl (.nil))))) ?_
 obtain⟨⟨⟨lW,lX⟩,⟨ny,nA⟩⟩,jw,h⟩:=bS h
 refine cl (gu jw) ⟨rfl,trivial⟩<|mv rfl<|ex rfl rfl<|ex rfl rfl<|al (cs:=[.v (.bool false),slc 1 (List.map aj [])]) (by exact⟨SV.aa _,imp_nil,trivial⟩) rfl<|al (cs:=[.v (.bool false),slc 1 (List.map aj [])]) (by exact⟨SV.aa _,imp_nil,trivial⟩) rfl<|so rfl rfl rfl<|so rfl rfl rfl<|dn<|sr<|ld rfl rfl (.cons rfl (.cons rfl (.cons rfl (.cons rfl (.nil))))) ?_
 obtain⟨⟨⟨lY,lZ⟩,⟨nB,nC⟩⟩,jx,h⟩:=bS h
 refine cl (gu jx) ⟨rfl,trivial⟩<|mv rfl<|ex rfl rfl<|ex rfl rfl<|al (cs:=[.v (.bool false),slc 1 (List.map aj [])]) (by exact⟨SV.aa _,imp_nil,trivial⟩) rfl<|al (cs:=[.v (.bool false),slc 1 (List.map aj [])]) (by exact⟨SV.aa _,imp_nil,trivial⟩) rfl<|so rfl rfl rfl<|so rfl rfl rfl<|dn<|qq<|qq<|ak mixed<|ld rfl rfl (.cons rfl (.cons rfl (.nil)))<|bE h fun iV nj h=>?_
 refine cl (ep nj) ⟨rfl,trivial⟩<|ld rfl rfl (.cons rfl (.cons rfl (.nil)))<|bE h fun eo lF h=>cl (ep lF) ⟨rfl,trivial⟩<|ag rfl<|ag rfl ?_
 refine RT.done ⟨by kernel_rfl,?_⟩
 refine ae.n<|qq ?_
 refine aN h (fun j3=>AS.cm 43 [(5,.ptr 5 0),(6,.ptr 6 0),(7,.ptr 7 0),(8,.ptr 8 0),(9,.sv (.v (.int .i64 iV))),(10,.sv (.v (.int .i64 eo))),(31,.sv (.v (.bool j3)))] [(8,⟨24,[.sv (.v (.bool nB)),.sv (slc 1 (List.map aj nC))]⟩),(7,⟨24,[.sv (.v (.bool lY)),.sv (slc 1 (List.map aj lZ))]⟩),(6,⟨24,[.sv (.v (.bool ny)),.sv (slc 1 (List.map aj nA))]⟩),(5,⟨24,[.sv (.v (.bool lW)),.sv (slc 1 (List.map aj lX))]⟩)] []) (fun h=>?_) (fun GC h=>?_)
 refine ah<|mv rfl<|mv rfl<|lE h fun lB n8 h=>ne _ rfl rfl (IE (p:=iV) (q:=eo) n8)<|mv rfl<|bE h fun KB oJ h=>?_
 cases lB
 refine gm rfl<|lE (F oJ) fun nY vJ oJ=>BU _ rfl rfl (o6 (p:=iV) (q:=0) vJ) ?_
 obtain rfl:=O oJ
 exact pF rfl<|dn<|⟨nY,h,wR []⟩
 obtain rfl:=O (V oJ)
 exact ww<|ww<|pT rfl<|dn<|⟨true,h,wR []⟩
 try dsimp only
 refine ae.n ?_
 cases GC
 refine fs<|qq<|ak mixed<|ld rfl rfl (.cons rfl (.cons rfl (.nil)))<|ld rfl rfl (.cons rfl (.cons rfl (.nil))) ?_
 obtain⟨⟨Kz,KA⟩,Ei,h⟩:=bS (F h)
 refine cl (ic Ei) ⟨rfl,rfl,trivial⟩<|ld rfl rfl (.cons rfl (.cons rfl (.nil)))<|ld rfl rfl (.cons rfl (.cons rfl (.nil))) ?_
 obtain⟨⟨Az,AA⟩,Cd,h⟩:=bS h
 refine cl (ic Cd) ⟨rfl,rfl,trivial⟩<|bE h fun rC Ar h=>cl (yI Ar) ⟨rfl,rfl,trivial⟩<|ag rfl ?_
 refine RT.done ⟨by kernel_rfl,?_⟩
 refine ae.n<|aq ?_
 obtain rfl:=O h
 exact R1 rfl
 refine cT<|sr<|mv rfl<|mv rfl<|lE (V h) fun jF nm h=>sb _ rfl rfl nm<|bE h fun qw Cc h=>cl (yV Cc) ⟨rfl,trivial⟩<|ag rfl<|dn<|aq<|ae.r ?_
 obtain rfl:=O h
 exact R1 rfl
theorem w7{x0:Qr}{r:Zr}(h:ig x0=some r):Pure Try.prog 41 [.agg (eQ x0)] (.agg (eZ r)):=by
 obtain⟨⟨aW,aU⟩,⟨fL,gb⟩⟩:=x0
 refine aA Try.func41 rfl (Nat.le_of_ble_eq_true rfl) (fun eV M vs hvs=>?_)
 unfold ig at h
 refine sr<|bx rfl<|al (cs:=[.v (.bool false),slc 1 (List.map aj [])]) (by exact⟨SV.aa _,imp_nil,trivial⟩) rfl<|dn<|sr<|ld rfl rfl (.cons rfl (.cons rfl (.cons rfl (.cons rfl (.nil))))) ?_
 obtain⟨⟨⟨KC,KD⟩,⟨KE,KF⟩⟩,h8,h⟩:=bS h
 refine cl (gu h8) ⟨rfl,trivial⟩<|ex rfl rfl<|ex rfl rfl ?_
 obtain⟨⟨⟨vW,vX⟩,⟨NG,NH⟩,ZP⟩,lU,h⟩:=bS h
 refine cl (gH lU) ⟨rfl,rfl,trivial⟩<|mv rfl<|ex rfl rfl<|ex rfl rfl<|ex rfl rfl<|al (cs:=[.v (.bool false),slc 1 (List.map aj [])]) (by exact⟨SV.aa _,imp_nil,trivial⟩) rfl<|al (cs:=[.v (.bool false),slc 1 (List.map aj [])]) (by exact⟨SV.aa _,imp_nil,trivial⟩) rfl<|so rfl rfl rfl<|so rfl rfl rfl<|ag rfl<|dn<|sr<|ld rfl rfl (.cons rfl (.cons rfl (.nil))) ?_
 refine so rfl rfl rfl<|dn<|aq ?_
 obtain rfl:=O h
 exact RZ (.agg rfl rfl (.cons rfl (.cons rfl (.nil))) rfl (.nil))
end Go.Proofs.Ytmiflmkdaeianaa
namespace Go.Fw
open Go.RowKit
def gw:List (Nat×Row×Value)→(Nat→Value)→Nat→Value
 |[],ν,j=>ν j
 |(k,_,v)::l,ν,j=>if j=k then v else gw l ν j
theorem iZ{ν:Nat→Value}:∀{l:List (Nat×Row×Value)} {j:Nat},(∀R v,(j,R,v)∉l)→gw l ν j=ν j
 |[],_,_=>rfl
 |(k,R,v)::l,j,h=>by
  have:j≠k:=fun e=>h R v (by rw[e];simp)
  rw[gw,if_neg this]
  exact iZ (fun R v hm=>h R v (List.mem_cons_of_mem _ hm))
theorem eI{ν:Nat→Value}:∀{l:List (Nat×Row×Value)} {j:Nat} {R:Row} {v:Value},(l.map (·.1)).Nodup→(j,R,v)∈l→gw l ν j=v
 |(k,R',v')::l,j,R,v,hn,h=>by
  rw[List.map_cons,List.nodup_cons]at hn
  rcases List.mem_cons.1 h with e|e
  ·cases e;rw[gw,if_pos rfl]
  ·have:j≠k:=fun q=>hn.1 (List.mem_map.2 ⟨(j,R,v),e,q⟩)
   rw[gw,if_neg this];exact eI hn.2 e
def qN(olds:List Nat)(news:List (Nat×Row×Value)):List (Nat×gG):=olds.map (fun j=>(j,.dead))++news.map (fun n=>(n.1,.live n.2.1))
theorem l7:∀(l k:List (Nat×gG)) (j:Nat),b9 (l++k) j=match b9 k j with|some R=>some R|none=>b9 l j
 |[],k,j=>by cases h:b9 k j<;>simp[h,b9]
 |(i,R)::l,k,j=>by
  rw[List.cons_append,b9,b9,l7 l k j]
  cases h:b9 k j<;>simp
theorem l9{l:List (Nat×gG)}{j:Nat}(h:∀R,(j,R)∉l):b9 l j=none:=by
 induction l with
 |nil=>rfl
 |cons p l ih=>
  obtain⟨i,R⟩:=p
  rw[b9,ih (fun R hm=>h R (List.mem_cons_of_mem _ hm))]
  have:j≠i:=fun e=>h R (by rw[e];simp)
  simp[this]
theorem mc{l:List (Nat×gG)}{j:Nat}{R:gG}(h:b9 l j=some R):(j,R)∈l:=by
 induction l with
 |nil=>cases h
 |cons p l ih=>
  obtain⟨i,R'⟩:=p
  rw[b9]at h
  cases e:b9 l j with
  |some R2=>rw[e]at h;cases h;exact List.mem_cons_of_mem _ (ih e)
  |none=>
   rw[e]at h
   by_cases q:j=i
   ·subst q;simp at h;subst h;simp
   ·simp[q]at h
theorem qO{l:List (Nat×gG)}{j:Nat}{R:gG}(h:(j,R)∈l):∃R',b9 l j=some R':=by
 induction l with
 |nil=>cases h
 |cons p l ih=>
  obtain⟨i,R'⟩:=p
  rw[b9]
  rcases List.mem_cons.1 h with e|e
  ·cases e
   cases q:b9 l j with
   |some R2=>exact⟨R2,rfl⟩
   |none=>exact⟨R,by simp⟩
  ·obtain⟨R2,h2⟩:=ih e
   exact⟨R2,by rw[h2]⟩
section swap
variable {C:Ctx}{S:AS}
theorem ai.Q2{E:Env}{a:Act}{w w':World}(h:ai C S E a w){i:Nat}{T:TypeId}{cells cells':List AV}{us':List Value}{M':Mem}(hB:S.b i=some ⟨T,cells⟩)(olds:List Nat)(news:List (Nat×Row×Value))
  (hold:∀j∈olds,∃R,S.r j=.live R) (hnew:∀k R v,(k,R,v)∈news→S.r k=.un∧k<1000) (hnd:(news.map (·.1)).Nodup)
  (hM:E.M.le M') (hmn:∀b o x,M' b o=some x→E.M b o=some x∨w.heap.size≤b∨∃j∈olds,(E.ν j).ownBlock=some b) (hin:M'.bu w')
  (Z6:w'.heap[E.β i]? =some (.cells ⟨us'⟩ T (0,0))) (hnb:∀o,M' (E.β i) o=none) (oV:bz {E with M:=M',ν:=gw news E.ν} cells' us')
  (hcb:∀x∈cells',(∀j,¬x.mb j)∧∀j,x.mr j→∃R v,(j,R,v)∈news)
  (hrow:∀k R v,(k,R,v)∈news→(∃vs:List Value,w'.ownsRow 0 R.E R.sz v R.n vs∧SV.cG M' R.cells vs)∧∀g,v.ownBlock=some g→((∃j∈olds,(E.ν j).ownBlock=some g)∨w.heap.size≤g)∧(∀o,M' g o=none)∧g≠E.β i)
  (Q3:∀k R v k' R' v' g,(k,R,v)∈news→(k',R',v')∈news→v.ownBlock=some g→v'.ownBlock=some g→k=k')
  (hos:w'.os=w.os) (gx:w'.tape=w.tape) (hout:w'.output=w.output) (hsize:w.heap.size≤w'.heap.size)
  (eF:∀k,k<w.heap.size→k≠E.β i→(∀j∈olds,(E.ν j).ownBlock≠some k)→w'.heap[k]? =w.heap[k]?):
  ai C (AS.aH (qN olds news) (AS.cP [(i,⟨T,cells'⟩)] S)) {E with M:=M',ν:=gw news E.ν} a w':=by
 obtain⟨Ez,Z7,I9,EW,EA,_⟩:=h.bx i _ hB
 have ach:E.β i<w.heap.size:=(Array.getElem?_eq_some_iff.1 EA).1
 obtain⟨n1,n2,n3,n4,n5⟩:=cu (qN olds news) (AS.cP [(i,⟨T,cells'⟩)] S)
 have Z8:(AS.aH (qN olds news) (AS.cP [(i,⟨T,cells'⟩)] S)).t=S.t:=n2
 have rI:∀j,(AS.aH (qN olds news) (AS.cP [(i,⟨T,cells'⟩)] S)).b j=if j=i then some ⟨T,cells'⟩else S.b j:=fun j=>by
  rw[n3]
  by_cases e:j=i
  ·subst e;rw[if_pos rfl];exact AS.bD _ _ _
  ·rw[if_neg e];exact AS.aO _ _ _ _ e
 have Q4:∀k R v,(k,R,v)∈news→b9 (news.map (fun n=>(n.1,gG.live n.2.1))) k=some (.live R):=fun k R v hm=>by
  obtain⟨R',iQ⟩:=qO (l:=news.map (fun n=>(n.1,gG.live n.2.1))) (j:=k) (R:=.live R) (List.mem_map.2 ⟨(k,R,v),hm,rfl⟩)
  obtain⟨⟨k2,R2,v2⟩,Ff,e⟩:=List.mem_map.1 (mc iQ)
  have e1:k2=k:=congrArg Prod.fst e
  have e2:gG.live R2=R':=congrArg Prod.snd e
  rw[e1]at Ff
  have:R2=R:=by
   have key:∀(l:List (Nat×Row×Value)),(l.map (·.1)).Nodup→(k,R2,v2)∈l→(k,R,v)∈l→R2=R:=by
    intro l
    induction l with
    |nil=>intro _ h;cases h
    |cons p l ih=>
     intro hn h1 h2
     rw[List.map_cons,List.nodup_cons]at hn
     rcases List.mem_cons.1 h1 with e1|e1<;>rcases List.mem_cons.1 h2 with e2|e2
     ·rw[←e1]at e2;cases e2;rfl
     ·exact absurd (List.mem_map.2 ⟨_,e2,by rw[←e1]⟩) hn.1
     ·exact absurd (List.mem_map.2 ⟨_,e1,by rw[←e2]⟩) hn.1
     ·exact ih hn.2 e1 e2
   exact key news hnd Ff hm
  rw[iQ,←e2,this]
 have Q5:∀k R v,(k,R,v)∈news→(AS.aH (qN olds news) (AS.cP [(i,⟨T,cells'⟩)] S)).r k=.live R:=fun k R v hm=>by
  rw[fE,qN,l7,Q4 k R v hm];rfl
 have Q6:∀j,(∀R v,(j,R,v)∉news)→(AS.aH (qN olds news) (AS.cP [(i,⟨T,cells'⟩)] S)).r j=if j∈olds then .dead else S.r j:=fun j hn=>by
  have e1:b9 (news.map (fun n=>(n.1,gG.live n.2.1))) j=none:=l9 (fun R hm=>by
   obtain⟨⟨k2,R2,v2⟩,Ff,e⟩:=List.mem_map.1 hm
   cases e;exact hn R2 v2 Ff)
  rw[fE,qN,l7,e1]
  by_cases ho:j∈olds
  ·rw[if_pos ho]
   obtain⟨R',iQ⟩:=qO (l:=olds.map (fun j=>(j,gG.dead))) (j:=j) (R:=.dead) (List.mem_map.2 ⟨j,ho,rfl⟩)
   obtain⟨j2,_,e⟩:=List.mem_map.1 (mc iQ)
   cases e
   rw[iQ];rfl
  ·rw[if_neg ho,l9 (fun R hm=>by obtain⟨j2,Ff,e⟩:=List.mem_map.1 hm;cases e;exact ho Ff)];rfl
 have GF:∀j,S.r j≠ .un→∀R v,(j,R,v)∉news:=fun j hj R v hm=>hj (hnew j R v hm).1
 have rne:∀j,S.r j≠ .un→(AS.aH (qN olds news) (AS.cP [(i,⟨T,cells'⟩)] S)).r j≠ .un:=fun j hj=>by
  rw[Q6 j (GF j hj)]
  split
  ·simp
  ·exact hj
 have rY:∀j∈olds,∀g,(E.ν j).ownBlock=some g→(C.w0.heap.size≤g∨C.mO g)∧(∀o,E.M g o=none)∧¬E.O g∧(∀n B,S.b n=some B→E.β n≠g)∧g<w.heap.size∧∃c e,w.heap[g]? =some (Obj.cells c e (0,0)):=fun j hj g hg=>by
  obtain⟨R,hR⟩:=hold j hj
  obtain⟨⟨us,q1,_⟩,q2⟩:=h.rx j R hR
  obtain⟨q3,q4,q5,q6⟩:=q2 g hg
  refine⟨q3,q4,q5,q6,fG h hR hg,?_⟩
  rcases q1.2 with⟨q7,_⟩|⟨g',cap,cur,q7,_,q8,_⟩
  ·rw[q7]at hg;cases hg
  ·rw[q7]at hg;cases hg;exact⟨_,_,q8⟩
 have keep:∀x:AV,(∀j,x.mr j→S.r j≠ .un)→∀v,x.holds E v→x.holds {E with M:=M',ν:=gw news E.ν} v:=fun x hx v hv=>
  AV.bn (E:=E) (E':={E with M:=M',ν:=gw news E.ν}) hM (fun _ _=>rfl) (fun j hj=>iZ (GF j (hx j hj))) hv
 have NM:∀b,b<w.heap.size→(∀o,E.M b o=none)→(∀j∈olds,(E.ν j).ownBlock≠some b)→∀o,M' b o=none:=fun b h1 h2 h3 o=>by
  cases e:M' b o with
  |none=>rfl
  |some v=>
   rcases hmn b o v e with q|q|⟨j,q1,q2⟩
   ·rw[h2 o]at q;cases q
   ·omega
   ·exact absurd q2 (h3 j q1)
 have live:∀j R,(AS.aH (qN olds news) (AS.cP [(i,⟨T,cells'⟩)] S)).r j=.live R→(∃v,(j,R,v)∈news)∨((∀R v,(j,R,v)∉news)∧j∉olds∧S.r j=.live R):=fun j R hj=>by
  by_cases hn:∃R v,(j,R,v)∈news
  ·obtain⟨R',v,hm⟩:=hn
   rw[Q5 j R' v hm]at hj;cases hj;exact .inl ⟨v,hm⟩
  ·have hn:∀R v,(j,R,v)∉news:=fun R v hm=>hn ⟨R,v,hm⟩
   rw[Q6 j hn]at hj
   by_cases ho:j∈olds
   ·rw[if_pos ho]at hj;cases hj
   ·rw[if_neg ho]at hj;exact .inr ⟨hn,ho,hj⟩
 have Q7:∀j R,S.r j=.live R→j∉olds→∀g,(E.ν j).ownBlock=some g→∀j'∈olds,(E.ν j').ownBlock≠some g:=fun j R hR ho g hg j' hj' e=>by
  obtain⟨R',iQ⟩:=hold j' hj'
  have:=h.cI j j' R R' hR iQ g hg e
  subst this;exact ho hj'
 exact{
  wf:=by
   refine⟨fun s j hj=>?_,fun s j hj=>?_,fun j B cX x hx m hm=>?_,fun j B cX x hx m hm=>?_⟩
   ·rw[Z8]at hj
    obtain⟨B,cX⟩:=h.wf.tb s j hj
    rw[rI]
    by_cases e:j=i
    ·exact⟨_,if_pos e⟩
    ·exact⟨B,by rw[if_neg e];exact cX⟩
   ·rw[Z8]at hj
    exact rne j (h.wf.tr s j hj)
   ·rw[rI]at cX⊢
    by_cases e:j=i
    ·rw[if_pos e]at cX;cases cX;exact absurd hm ((hcb x hx).1 m)
    ·rw[if_neg e]at cX
     obtain⟨B2,Pj⟩:=h.wf.bb j B cX x hx m hm
     by_cases e2:m=i
     ·exact⟨_,if_pos e2⟩
     ·exact⟨B2,by rw[if_neg e2];exact Pj⟩
   ·rw[rI]at cX
    by_cases e:j=i
    ·rw[if_pos e]at cX;cases cX
     obtain⟨R,v,Ff⟩:=(hcb x hx).2 m hm
     rw[Q5 m R v Ff];simp
    ·rw[if_neg e]at cX;exact rne m (h.wf.br j B cX x hx m hm)
  marks:=by
   obtain⟨ds,d1,d2,d3⟩:=h.marks
   refine⟨ds,d1,d2,fun r hr=>?_⟩
   obtain⟨p1,p2,p3⟩:=d3 r hr
   refine⟨p1,p2,?_⟩
   rw[eF r (Array.getElem?_eq_some_iff.1 p3).1 (fun e=>by rw[e,EA]at p3;cases p3) (fun j hj e=>by
    obtain⟨_,_,_,_,_,c,e2,q⟩:=rY j hj r e
    rw[q]at p3;cases p3)]
   exact p3
  size:=by rw[n1];exact h.size
  os:=hos.trans h.os
  tape:=gx.trans h.tape
  output:=hout.trans h.output
  grown:=Nat.le_trans h.grown hsize
  frame:=fun k hk hown=>by
   rw[eF k (Nat.lt_of_lt_of_le hk h.grown) (fun e=>by
    rcases Ez with q|q
    ·omega
    ·exact hown (C.wE _ (by rw[e];exact q))) (fun j hj e=>by
    rcases(rY j hj k e).1 with q|q
    ·omega
    ·exact hown (C.wE _ q))]
   exact h.frame k hk hown
  m0:=Mem.le_trans h.m0 hM
  cj:=fun b o v e=>by
   rcases hmn b o v e with q|q|⟨j,q1,q2⟩
   ·exact h.cj b o v q
   ·exact .inr (.inl (Nat.le_trans h.grown q))
   ·rcases(rY j q1 b q2).1 with q|q
    ·exact .inr (.inl q)
    ·exact .inr (.inr (C.wE _ q))
  bu:=hin
  tm:=fun s=>by rw[Z8];exact keep _ (h.wf.tr s) _ (h.tm s)
  bx:=fun j B cX=>by
   rw[rI]at cX
   by_cases e:j=i
   ·rw[if_pos e]at cX;cases cX;subst e
    exact⟨Ez,hnb,I9,us',Z6,oV⟩
   ·rw[if_neg e]at cX
    obtain⟨p1,p2,p3,vs,p4,p5⟩:=h.bx j B cX
    have hlt:=(Array.getElem?_eq_some_iff.1 p4).1
    have hno:∀j'∈olds,(E.ν j').ownBlock≠some (E.β j):=fun j' hj' q=>(rY j' hj' _ q).2.2.2.1 j B cX rfl
    refine⟨p1,NM _ hlt p2 hno,p3,vs,?_,p5.imp (fun x hx v hv=>keep x (h.wf.br j B cX x hx) v hv)⟩
    show w'.heap[E.β j]? =_
    rw[eF _ hlt (fun q=>e (h.inj j i B _ cX hB q)) hno];exact p4
  inj:=fun j j' B B' h1 h2 e=>by
   have key:∀n B,(AS.aH (qN olds news) (AS.cP [(i,⟨T,cells'⟩)] S)).b n=some B→∃B',S.b n=some B':=fun n B hn=>by
    rw[rI]at hn
    by_cases e:n=i
    ·subst e;exact⟨_,hB⟩
    ·rw[if_neg e]at hn;exact⟨B,hn⟩
   obtain⟨B1,p1⟩:=key j B h1
   obtain⟨B2,p2⟩:=key j' B' h2
   exact h.inj j j' B1 B2 p1 p2 e
  rx:=fun j R hj=>by
   have boxes:∀g,(∀n B,S.b n=some B→E.β n≠g)→∀n B,(AS.aH (qN olds news) (AS.cP [(i,⟨T,cells'⟩)] S)).b n=some B→E.β n≠g:=fun g hg n B hn=>by
    rw[rI]at hn
    by_cases e:n=i
    ·subst e;exact hg _ _ hB
    ·rw[if_neg e]at hn;exact hg n B hn
   rcases live j R hj with⟨v,hm⟩|⟨hn,ho,hR⟩
   ·rw[show({E with M:=M',ν:=gw news E.ν}:Env).ν j=v from eI hnd hm]
    obtain⟨p1,p2⟩:=hrow j R v hm
    refine⟨p1,fun g hg=>?_⟩
    obtain⟨p3,p4,p5⟩:=p2 g hg
    rcases p3 with⟨j',q1,q2⟩|p3
    ·obtain⟨o1,o2,o3,o4,_⟩:=rY j' q1 g q2
     exact⟨o1,p4,o3,boxes g o4⟩
    ·refine⟨.inl (Nat.le_trans h.grown p3),p4,fun q=>?_,boxes g (fun n B hn q=>?_)⟩
     ·have:=(h.fO g q).1;omega
     ·obtain⟨_,_,_,vs,q4,_⟩:=h.bx n B hn
      have:=(Array.getElem?_eq_some_iff.1 q4).1
      omega
   ·rw[show({E with M:=M',ν:=gw news E.ν}:Env).ν j=E.ν j from iZ hn]
    obtain⟨⟨us,p1,p2⟩,p3⟩:=h.rx j R hR
    refine⟨⟨us,bN p1 fun g hg=>eF g (fG h hR hg) (fun e=>(p3 g hg).2.2.2 i _ hB e.symm) (Q7 j R hR ho g hg),p2.mono hM⟩,fun g hg=>?_⟩
    obtain⟨p4,p5,p6,p7⟩:=p3 g hg
    exact⟨p4,NM g (fG h hR hg) p5 (Q7 j R hR ho g hg),p6,boxes g p7⟩
  cI:=fun j j' R R' h1 h2 g e1 e2=>by
   have mixed:∀j R v j' R' g,(j,R,v)∈news→S.r j'=.live R'→j'∉olds→v.ownBlock=some g→(E.ν j').ownBlock=some g→False:=fun j R v j' R' g hm iQ ho e1 e2=>by
    rcases((hrow j R v hm).2 g e1).1 with⟨j2,q1,q2⟩|q
    ·exact Q7 j' R' iQ ho g e2 j2 q1 q2
    ·have:=fG h iQ e2;omega
   rcases live j R h1 with⟨v,hm⟩|⟨hn,ho,hR⟩<;>rcases live j' R' h2 with⟨v',hm'⟩|⟨hn',ho',iQ⟩
   ·rw[show({E with M:=M',ν:=gw news E.ν}:Env).ν j=v from eI hnd hm]at e1
    rw[show({E with M:=M',ν:=gw news E.ν}:Env).ν j'=v' from eI hnd hm']at e2
    exact Q3 j R v j' R' v' g hm hm' e1 e2
   ·rw[show({E with M:=M',ν:=gw news E.ν}:Env).ν j=v from eI hnd hm]at e1
    rw[show({E with M:=M',ν:=gw news E.ν}:Env).ν j'=E.ν j' from iZ hn']at e2
    exact(mixed j R v j' R' g hm iQ ho' e1 e2).elim
   ·rw[show({E with M:=M',ν:=gw news E.ν}:Env).ν j=E.ν j from iZ hn]at e1
    rw[show({E with M:=M',ν:=gw news E.ν}:Env).ν j'=v' from eI hnd hm']at e2
    exact(mixed j' R' v' j R g hm' hR ho e2 e1).elim
   ·rw[show({E with M:=M',ν:=gw news E.ν}:Env).ν j=E.ν j from iZ hn]at e1
    rw[show({E with M:=M',ν:=gw news E.ν}:Env).ν j'=E.ν j' from iZ hn']at e2
    exact h.cI j j' R R' hR iQ g e1 e2
  dL:=h.dL
  bX:=fun k v e=>by
   rw[show({E with M:=M',ν:=gw news E.ν}:Env).ν k=E.ν k from iZ (fun R v hm=>by have:=(hnew k R v hm).2;have:=C.CH k _ e;omega)]
   exact h.bX k v e
  fO:=fun b hb=>by
   obtain⟨p1,p2,p3⟩:=h.fO b hb
   exact⟨Nat.lt_of_lt_of_le p1 hsize,NM b p1 p2 (fun j hj e=>(rY j hj b e).2.2.1 hb),p3⟩
  jj:=by
   have hj:=C.jf S.g S.go E.O E.M M' w w' h.jj hM hin (fun b o v e=>by
    rcases hmn b o v e with q|q|⟨j,q1,q2⟩
    ·exact .inl q
    ·exact .inr ⟨.inl (Nat.le_trans h.grown q),fun q2=>by have:=(h.fO b q2).1;omega⟩
    ·obtain⟨o1,_,o3,_⟩:=rY j q1 b q2
     exact .inr ⟨o1,o3⟩) (fun b hb=>by
    have hlt:b<w.heap.size∨w.heap.size≤b:=Nat.lt_or_ge _ _
    have hb':b<w.heap.size:=by
     rcases hb with⟨q,_⟩|q
     ·exact Nat.lt_of_lt_of_le q h.grown
     ·exact(h.fO b q).1
    refine eF b hb' (fun e=>?_) (fun j hj e=>?_)
    ·subst e
     rcases hb with⟨q1,q2⟩|q
     ·rcases Ez with p|p
      ·omega
      ·exact q2 p
     ·exact I9 q
    ·obtain⟨o1,_,o3,_⟩:=rY j hj b e
     rcases hb with⟨q1,q2⟩|q
     ·rcases o1 with p|p
      ·omega
      ·exact q2 p
     ·exact o3 q) hos gx hout hsize
   rw[n4,n5];exact hj}
end swap
end Go.Fw
namespace Go.Fw
open Go.RowKit
inductive Oc where
 |s (x:SV)
 |r (R:Row)
def mK(M:Mem)(w:World):List Oc→List Value→Prop
 |[],[]=>True
 |.s x::l,v::vs=>x.h M v∧mK M w l vs
 |.r R::l,v::vs=>(∃us:List Value,w.ownsRow 0 R.E R.sz v R.n us∧SV.cG M R.cells us)∧mK M w l vs
 |_,_=>False
def rowsOf:List Oc→List Row
 |[]=>[]
 |.s _::l=>rowsOf l
 |.r R::l=>R::rowsOf l
def aK:List Oc→List Value→List (Row×Value)
 |.s _::l,_::vs=>aK l vs
 |.r R::l,v::vs=>(R,v)::aK l vs
 |_,_=>[]
def da(c:List Oc)(us:List Value)(g:Nat):Prop:=∃p∈aK c us,p.2.ownBlock=some g
def aM:List Nat→List Oc→List AV
 |ids,.s x::l=>.sv x::aM ids l
 |i::ids,.r _::l=>.row i::aM ids l
 |[],.r _::l=>.sv .any::aM [] l
 |_,[]=>[]
def AF(l:List (Row×Value)):Prop:=l.Pairwise fun p q=>∀g,p.2.ownBlock=some g→q.2.ownBlock≠some g
structure ju (M:Mem) (w:World) (β:Nat) (T:TypeId) (c:List Oc) (us:List Value):Prop where
 hp:w.heap[β]? =some (.cells ⟨us⟩ T (0,0))
 al:mK M w c us
 nb:∀o,M β o=none
 nr:∀g,da c us g→g≠β∧∀o,M g o=none
 ap:AF (aK c us)
theorem cZ{M:Mem}{w:World}:∀{c:List Oc} {us:List Value},mK M w c us→(aK c us).map (·.1)=rowsOf c
 |[],[],_=>rfl
 |.s _::l,_::vs,h=>cZ (c:=l) (us:=vs) h.2
 |.r R::l,v::vs,h=>congrArg (R:: ·) (cZ (c:=l) (us:=vs) h.2)
 |[],_::_,h=>h.elim
 |.s _::_,[],h=>h.elim
 |.r _::_,[],h=>h.elim
theorem gM{M:Mem}{w:World}:∀{c:List Oc} {us:List Value},mK M w c us→∀p∈aK c us,∃vs:List Value,w.ownsRow 0 p.1.E p.1.sz p.2 p.1.n vs∧SV.cG M p.1.cells vs
 |[],[],_,p,hp=>by cases hp
 |.s _::l,_::vs,h,p,hp=>gM (c:=l) (us:=vs) h.2 p hp
 |.r R::l,v::vs,h,p,hp=>by
  rcases List.mem_cons.1 hp with rfl|hp
  ·exact h.1
  ·exact gM (c:=l) (us:=vs) h.2 p hp
 |[],_::_,h,_,_=>h.elim
 |.s _::_,[],h,_,_=>h.elim
 |.r _::_,[],h,_,_=>h.elim
theorem eA{α β:Type}:∀{l:List α} {k:List β} {a:α} {b:β},(a,b)∈l.zip k→a∈l∧b∈k
 |_::_,_::_,_,_,h=>by
  rw[List.zip_cons_cons]at h
  rcases List.mem_cons.1 h with e|e
  ·cases e;simp
  ·have:=eA e;exact⟨List.mem_cons_of_mem _ this.1,List.mem_cons_of_mem _ this.2⟩
 |[],_,_,_,h=>by simp at h
 |_::_,[],_,_,h=>by simp at h
theorem qP{α β:Type}:∀{l:List α} {k:List β},l.length=k.length→(l.zip k).map (·.1)=l
 |[],[],_=>rfl
 |_::l,_::k,h=>by rw[List.zip_cons_cons,List.map_cons,qP (by simpa using h)]
 |[],_::_,h=>by simp at h
 |_::_,[],h=>by simp at h
theorem rZ:∀{ids:List Nat} {l:List (Row×Value)},ids.Nodup→AF l→∀k R v k' R' v' g,(k,R,v)∈ids.zip l→(k',R',v')∈ids.zip l→v.ownBlock=some g→v'.ownBlock=some g→k=k'
 |i::ids,p::l,hn,ha,k,R,v,k',R',v',g,h1,h2,e1,e2=>by
  rw[List.zip_cons_cons]at h1 h2
  rw[List.nodup_cons]at hn
  obtain⟨VT,Z9⟩:=List.pairwise_cons.1 ha
  rcases List.mem_cons.1 h1 with q1|q1<;>rcases List.mem_cons.1 h2 with q2|q2
  ·cases q1;cases q2;rfl
  ·cases q1;exact absurd e2 (VT (R',v') (eA q2).2 g e1)
  ·cases q2;exact absurd e1 (VT (R,v) (eA q1).2 g e2)
  ·exact rZ hn.2 Z9 k R v k' R' v' g q1 q2 e1 e2
 |[],_,_,_,_,_,_,_,_,_,_,h1,_,_,_=>by simp at h1
 |_::_,[],_,_,_,_,_,_,_,_,_,h1,_,_,_=>by simp at h1
theorem iL{E:Env}{w:World}:∀{ids:List Nat} {c:List Oc} {us:List Value},ids.length=(rowsOf c).length→mK E.M w c us→(∀i p,(i,p)∈ids.zip (aK c us)→E.ν i=p.2)→bz E (aM ids c) us
 |ids,[],[],_,_,_=>by cases ids<;>exact trivial
 |ids,.s x::l,v::vs,hl,h,hv=>by
  have ih:=iL (E:=E) (w:=w) (ids:=ids) (c:=l) (us:=vs) hl h.2 hv
  cases ids<;>exact⟨h.1,ih⟩
 |i::ids,.r R::l,v::vs,hl,h,hv=>by
  refine⟨(hv i (R,v) (by rw[aK,List.zip_cons_cons];simp)).symm,iL (w:=w) (ids:=ids) (c:=l) (us:=vs) (by simpa[rowsOf]using hl) h.2 (fun j p hm=>hv j p ?_)⟩
  rw[aK,List.zip_cons_cons];exact List.mem_cons_of_mem _ hm
 |[],.r R::l,_::_,hl,_,_=>by simp[rowsOf]at hl
 |_,[],_::_,_,h,_=>h.elim
 |_,.s _::_,[],_,h,_=>h.elim
 |_,.r _::_,[],_,h,_=>h.elim
theorem ja:∀{ids:List Nat} {c:List Oc} (x:AV),x∈aM ids c→(∀j,¬x.mb j)∧∀j,x.mr j→j∈ids
 |ids,[],x,h=>by cases ids<;>simp[aM]at h
 |ids,.s y::l,x,h=>by
  have h':x∈AV.sv y::aM ids l:=by cases ids<;>exact h
  rcases List.mem_cons.1 h' with rfl|h'
  ·exact⟨fun j e=>e,fun j e=>e.elim⟩
  ·exact ja x h'
 |i::ids,.r _::l,x,h=>by
  rcases List.mem_cons.1 (show x∈AV.row i::aM ids l from h)with rfl|h'
  ·exact⟨fun j e=>e,fun j e=>by cases e;simp⟩
  ·obtain⟨h1,h2⟩:=ja x h'
   exact⟨h1,fun j e=>List.mem_cons_of_mem _ (h2 j e)⟩
 |[],.r _::l,x,h=>by
  rcases List.mem_cons.1 (show x∈AV.sv .any::aM [] l from h)with rfl|h'
  ·exact⟨fun j e=>e,fun j e=>e.elim⟩
  ·exact ja x h'
def Lv(S:AS):List Nat→List Row→Prop
 |[],[]=>True
 |j::js,R::Rs=>S.r j=.live R∧Lv S js Rs
 |_,_=>False
theorem Lv.len{S:AS}:∀{js:List Nat} {Rs:List Row},Lv S js Rs→js.length=Rs.length
 |[],[],_=>rfl
 |_::_,_::_,h=>congrArg (· +1) (Lv.len h.2)
 |[],_::_,h=>h.elim
 |_::_,[],h=>h.elim
theorem Lv.mem{S:AS}:∀{js:List Nat} {Rs:List Row},Lv S js Rs→∀j∈js,∃R,S.r j=.live R
 |j::js,R::Rs,h,k,hk=>by
  rcases List.mem_cons.1 hk with rfl|hk
  ·exact⟨R,h.1⟩
  ·exact Lv.mem h.2 k hk
 |[],_,_,k,hk=>by cases hk
 |_::_,[],h,_,_=>h.elim
theorem kU{C:Ctx}{S:AS}{E:Env}{a:Act}{w:World}(h:ai C S E a w):∀{js:List Nat} {c:List Oc} {us:List Value},Lv S js (rowsOf c)→bz E (aM js c) us→mK E.M w c us∧aK c us=(rowsOf c).zip (js.map E.ν)
 |[],[],[],_,_=>⟨trivial,rfl⟩
 |js,.s x::l,v::vs,hL,hv=>by
  have ot:bz E (AV.sv x::aM js l) (v::vs):=by cases js<;>exact hv
  obtain⟨h1,h2⟩:=kU h (js:=js) (c:=l) (us:=vs) hL ot.2
  exact⟨⟨ot.1,h1⟩,h2⟩
 |j::js,.r R::l,v::vs,hL,hv=>by
  have hL:S.r j=.live R∧Lv S js (rowsOf l):=hL
  have ot:bz E (AV.row j::aM js l) (v::vs):=hv
  obtain⟨h1,h2⟩:=kU h (js:=js) (c:=l) (us:=vs) hL.2 ot.2
  have e:v=E.ν j:=ot.1
  obtain⟨q1,_⟩:=h.rx j R hL.1
  rw[←e]at q1
  refine⟨⟨q1,h1⟩,?_⟩
  rw[aK,h2,e];rfl
 |[],.r _::_,_,hL,_=>hL.elim
 |_::_,[],_,hL,_=>hL.elim
 |[],[],_::_,_,hv=>by simp[aM]at hv;exact hv.elim
 |js,.s x::l,[],_,hv=>by
  have ot:bz E (AV.sv x::aM js l) []:=by cases js<;>exact hv
  exact ot.elim
 |_::_,.r _::_,[],_,hv=>hv.elim
theorem nF{α β:Type}:∀{l:List α} {k:List β} {b:β},l.length=k.length→b∈k→∃a,(a,b)∈l.zip k
 |a::l,c::k,b,h,hb=>by
  rcases List.mem_cons.1 hb with rfl|hb
  ·exact⟨a,by rw[List.zip_cons_cons];simp⟩
  ·obtain⟨a',h'⟩:=nF (l:=l) (k:=k) (by simpa using h) hb
   exact⟨a',by rw[List.zip_cons_cons];exact List.mem_cons_of_mem _ h'⟩
 |[],[],_,_,hb=>by cases hb
 |[],_::_,_,h,_=>by simp at h
theorem gy{C:Ctx}{S:AS}{E:Env}{a:Act}{w:World}(h:ai C S E a w){i:Nat}{T:TypeId}{js:List Nat}{c:List Oc}(hB:S.b i=some ⟨T,aM js c⟩)(hL:Lv S js (rowsOf c))(hn:js.Nodup):
  ∃us,ju E.M w (E.β i) T c us∧(∀g,da c us g↔∃j∈js,(E.ν j).ownBlock=some g):=by
 obtain⟨_,q1,_,us,q2,q3⟩:=h.bx i _ hB
 obtain⟨p1,p2⟩:=kU h hL q3
 have hlen:=hL.len
 have ym:∀g,da c us g↔∃j∈js,(E.ν j).ownBlock=some g:=fun g=>by
  unfold da
  rw[p2]
  constructor
  ·rintro⟨⟨R,v⟩,hm,hg⟩
   obtain⟨j,hj,rfl⟩:=List.mem_map.1 (eA hm).2
   exact⟨j,hj,hg⟩
  ·rintro⟨j,hj,hg⟩
   obtain⟨R,hR⟩:=nF (l:=rowsOf c) (k:=js.map E.ν) (by simp[hlen]) (List.mem_map.2 ⟨j,hj,rfl⟩)
   exact⟨(R,E.ν j),hR,hg⟩
 refine⟨us,⟨q2,p1,q1,fun g hg=>?_,?_⟩,ym⟩
 ·obtain⟨j,hj,oW⟩:=(ym g).1 hg
  obtain⟨R,hR⟩:=hL.mem j hj
  obtain⟨_,q4⟩:=h.rx j R hR
  obtain⟨_,q5,_,q6⟩:=q4 g oW
  exact⟨fun e=>q6 i _ hB e.symm,q5⟩
 ·rw[p2]
  have key:∀(js:List Nat) (Rs:List Row),Lv S js Rs→js.Nodup→AF (Rs.zip (js.map E.ν)):=by
   intro js
   induction js with
   |nil=>intro Rs hL _;cases Rs with|nil=>exact List.Pairwise.nil|cons _ _=>exact hL.elim
   |cons j js ih=>
    intro Rs hL hn
    cases Rs with
    |nil=>exact hL.elim
    |cons R Rs=>
     rw[List.nodup_cons]at hn
     rw[List.map_cons,List.zip_cons_cons]
     refine List.pairwise_cons.2 ⟨fun p hp g e1 e2=>?_,ih Rs hL.2 hn.2⟩
     obtain⟨R',v'⟩:=p
     obtain⟨j',hj',rfl⟩:=List.mem_map.1 (eA hp).2
     obtain⟨R2,hR2⟩:=hL.2.mem j' hj'
     have:=h.cI j j' R R2 hL.1 hR2 g e1 e2
     subst this;exact hn.1 hj'
  exact key js _ hL hn
def me(M:Mem)(β:Nat):Env:=⟨fun _=>β,fun _=>.nilIface,fun _=>False,M⟩
def Fc.oy:Fc→Bool
 |.val _=>true
 |.box i=>Nat.beq i 1000
 |.row _=>false
def AV.oy:AV→Bool
 |.sv _=>true
 |.ptr i _=>Nat.beq i 1000
 |.cmp _ js=>js.all Fc.oy
 |_=>false
def Fc.H9(i:Nat):Fc→Fc
 |.box _=>.box i
 |c=>c
def AV.H9(i:Nat):AV→AV
 |.ptr _ o=>.ptr i o
 |.cmp t js=>.cmp t (js.map (Fc.H9 i))
 |x=>x
theorem EB{E:Env}{i:Nat}{x:AV}{v:Value}(hx:x.oy=true)(h:(x.H9 i).holds E v):x.holds (me E.M (E.β i)) v:=by
 cases x with
 |sv s=>exact h
 |ptr k o=>exact h
 |cmp t js=>
  obtain⟨vs,rfl,h⟩:=h
  refine⟨vs,rfl,?_⟩
  have key:∀(l:List Fc) (vs:List Value),(l.all Fc.oy)=true→oq E (l.map (Fc.H9 i)) vs→oq (me E.M (E.β i)) l vs:=by
   intro l
   induction l with
   |nil=>intro vs _ h;cases vs with|nil=>trivial|cons _ _=>exact h.elim
   |cons c l ih=>
    intro vs ho h
    rw[List.all_cons,Bool.and_eq_true]at ho
    cases vs with
    |nil=>exact h.elim
    |cons u vs=>
     refine⟨?_,ih vs ho.2 h.2⟩
     cases c with
     |val s=>exact h.1
     |box k=>exact h.1
     |row k=>exact(Bool.false_ne_true ho.1).elim
  exact key js vs hx h
 |_=>exact(Bool.false_ne_true hx).elim
theorem n9{E:Env}{i:Nat}:∀{l:List AV} {vs:List Value},(l.all AV.oy)=true→bz E (l.map (AV.H9 i)) vs→bz (me E.M (E.β i)) l vs
 |[],[],_,_=>trivial
 |x::l,v::vs,h,hv=>by
  rw[List.all_cons,Bool.and_eq_true]at h
  exact⟨EB h.1 hv.1,n9 h.2 hv.2⟩
 |[],_::_,_,h=>h.elim
 |_::_,[],_,h=>h.elim
def NN(P:Program)(f:FuncId)(args:List AV)(T:TypeId)(c0:List Oc)(res:SV)(c1:List Oc):Prop:=
 ∀(M:Mem) (w:World) (β:Nat) (vs us:List Value),M.bu w→ju M w β T c0 us→bz (me M β) args vs→
  Calls P f ⟨vs⟩ w fun e w'=>∃v M' us',e=.returned v∧M.le M'∧(∀b o x,M' b o=some x→M b o=some x∨w.heap.size≤b∨da c0 us b)∧M'.bu w'∧res.h M' v∧
   ju M' w' β T c1 us'∧(∀g,da c1 us' g→da c0 us g∨w.heap.size≤g)∧w'.os=w.os∧w'.tape=w.tape∧w'.output=w.output∧w.heap.size≤w'.heap.size∧
   ∀k,k<w.heap.size→k≠β→¬da c0 us k→w'.heap[k]? =w.heap[k]?
def NO(w:World)(M:Mem)(β:Nat)(c:List Oc)(us:List Value):Ctx:={w0:=w,M0:=M,own:=fun k=>k=β∨da c us k,mO:=fun k=>k=β∨da c us k,dL:=fun i=>bif Nat.beq i 1000 then some β else none,bX:=fun _=>none,ro:=none,J:=fun _ _ _ _ _=>True,wE:=fun _ h=>h,CH:=fun _ _ h=>(by cases h),jf:=fun _ _ _ _ _ _ _ _ _ _ _ _ _ _ _ _=>trivial}
theorem qQ{M:Mem}{w:World}:∀{ids:List Nat} {c:List Oc} {us:List Value},mK M w c us→∀{i:Nat} {R:Row},(i,R)∈ids.zip (rowsOf c)→∃v,(i,R,v)∈ids.zip (aK c us)
 |ids,.s x::l,v::vs,h,i,R,hm=>by
  have hm':(i,R)∈ids.zip (rowsOf l):=hm
  exact qQ (c:=l) (us:=vs) h.2 hm'
 |k::ids,.r R'::l,v::vs,h,i,R,hm=>by
  have hm':(i,R)∈(k,R')::ids.zip (rowsOf l):=hm
  rw[aK,List.zip_cons_cons]
  rcases List.mem_cons.1 hm' with e|e
  ·cases e;exact⟨v,by simp⟩
  ·obtain⟨v',h'⟩:=qQ (ids:=ids) (c:=l) (us:=vs) h.2 e
   exact⟨v',List.mem_cons_of_mem _ h'⟩
 |[],.r _::_,_::_,_,_,_,hm=>by simp at hm
 |_,[],[],_,_,_,hm=>by simp[rowsOf]at hm
 |_,[],_::_,h,_,_,_=>h.elim
 |_,.s _::_,[],h,_,_,_=>h.elim
 |_,.r _::_,[],h,_,_,_=>h.elim
theorem yW{n:Nat}{args:List AV}{T:TypeId}{c:List Oc}{M:Mem}{w:World}{β:Nat}{vs us:List Value}(ids:List Nat)(hM:M.bu w)(ho:ju M w β T c us)(hv:bz (me M β) args vs)(wK:args.all AV.oy=true)(hn:args.length≤n)(rG:ids.Nodup)(E5:ids.length=(rowsOf c).length):
  ai (NO w M β c us) (AS.tJ n args [(1000,⟨T,aM ids c⟩)] (ids.zip (rowsOf c))) ⟨fun _=>β,gw (ids.zip (aK c us)) (fun _=>.nilIface),fun _=>False,M⟩ {tmps:=⟨vs⟩++Array.replicate (n-(⟨vs⟩:Array Value).size) undef,defers:=[]} w:=by
 have hl:=hv.length
 have KG:(aK c us).length=(rowsOf c).length:=by rw[←cZ ho.al,List.length_map]
 have hnd:((ids.zip (aK c us)).map (·.1)).Nodup:=by rw[qP (by omega)];exact rG
 have KH:∀s,(lK args s).oy=true:=fun s=>by
  rcases qk (l:=args) (k:=s)with e|e
  ·rw[e];rfl
  ·exact List.all_eq_true.1 wK _ e
 have oyB:∀x:AV,x.oy=true→(∀j,x.mb j→j=1000)∧∀j,¬x.mr j:=fun x hx=>by
  cases x with
  |sv s=>exact⟨fun j e=>e.elim,fun j e=>e⟩
  |ptr k o=>exact⟨fun j e=>by cases e;exact Nat.eq_of_beq_eq_true hx,fun j e=>e⟩
  |cmp t js=>
   refine⟨fun j e=>?_,fun j e=>?_⟩
   ·exact Nat.eq_of_beq_eq_true (List.all_eq_true.1 hx _ e)
   ·exact Bool.false_ne_true (List.all_eq_true.1 hx _ e)
  |_=>exact(Bool.false_ne_true hx).elim
 have hall:bz ⟨fun _=>β,gw (ids.zip (aK c us)) (fun _=>.nilIface),fun _=>False,M⟩ args vs:=by
  refine hv.imp (fun x hx v hh=>?_)
  exact AV.bn (E:=me M β) (E':=⟨fun _=>β,gw (ids.zip (aK c us)) (fun _=>.nilIface),fun _=>False,M⟩) (Mem.le_refl _) (fun _ _=>rfl) (fun j hj=>absurd hj ((oyB x (List.all_eq_true.1 wK x hx)).2 j)) hh
 have live:∀j R,(AS.tJ n args [(1000,⟨T,aM ids c⟩)] (ids.zip (rowsOf c))).r j=.live R→(j,R)∈ids.zip (rowsOf c):=fun j R hj=>by
  have hj:(match wF (ids.zip (rowsOf c)) j with|some R=>gG.live R|none=>.un)=.live R:=hj
  cases e:wF (ids.zip (rowsOf c)) j with
  |none=>rw[e]at hj;cases hj
  |some R'=>rw[e]at hj;cases hj;exact uj e
 have isLive:∀j∈ids,(AS.tJ n args [(1000,⟨T,aM ids c⟩)] (ids.zip (rowsOf c))).r j≠ .un:=fun j hj=>by
  have key:∀(ids:List Nat) (Rs:List Row),ids.length=Rs.length→j∈ids→∃R,wF (ids.zip Rs) j=some R:=by
   intro ids
   induction ids with
   |nil=>intro _ _ h;cases h
   |cons k ids ih=>
    intro Rs hl hm
    cases Rs with
    |nil=>simp at hl
    |cons R Rs=>
     rw[List.zip_cons_cons,wF]
     by_cases e:j=k
     ·subst e;exact⟨R,by simp⟩
     ·rw[bB e]
      rcases List.mem_cons.1 hm with q|q
      ·exact absurd q e
      ·exact ih Rs (by simpa using hl) q
  obtain⟨R,hR⟩:=key ids _ E5 hj
  show(match wF (ids.zip (rowsOf c)) j with|some R=>gG.live R|none=>.un)≠ .un
  rw[hR];simp
 have box:∀j B,(AS.tJ n args [(1000,⟨T,aM ids c⟩)] (ids.zip (rowsOf c))).b j=some B→j=1000∧B=⟨T,aM ids c⟩:=fun j B h=>by
  have:=gY h
  simpa using this
 have FE:(AS.tJ n args [(1000,⟨T,aM ids c⟩)] (ids.zip (rowsOf c))).b 1000=some ⟨T,aM ids c⟩:=rfl
 exact{
  wf:=by
   refine⟨fun s j hj=>?_,fun s j hj=>?_,fun i B hB x hx j hj=>?_,fun i B hB x hx j hj=>?_⟩
   ·have:=(oyB _ (KH s)).1 j hj
    subst this;exact⟨_,FE⟩
   ·exact absurd hj ((oyB _ (KH s)).2 j)
   ·obtain⟨rfl,rfl⟩:=box i B hB
    exact absurd hj ((ja x hx).1 j)
   ·obtain⟨rfl,rfl⟩:=box i B hB
    exact isLive j ((ja x hx).2 j hj)
  marks:=⟨[],rfl,List.nodup_nil,by simp⟩
  size:=by simp[AS.tJ];omega
  os:=rfl
  tape:=rfl
  output:=rfl
  grown:=Nat.le_refl _
  frame:=fun _ _ _=>rfl
  m0:=Mem.le_refl _
  cj:=fun _ _ _ e=>.inl e
  bu:=hM
  tm:=fun s=>BK hall s
  bx:=fun i B h=>by
   obtain⟨rfl,rfl⟩:=box i B h
   refine⟨.inr (.inl rfl),ho.nb,fun h=>h,us,ho.hp,?_⟩
   exact iL (w:=w) E5 ho.al (fun j p hm=>eI (R:=p.1) (v:=p.2) hnd hm)
  inj:=fun i j B1 B2 hi hj _=>by rw[(box i B1 hi).1,(box j B2 hj).1]
  rx:=fun j R hj=>by
   obtain⟨v,hm⟩:=qQ ho.al (live j R hj)
   have hν:gw (ids.zip (aK c us)) (fun _=>Value.nilIface) j=v:=eI hnd hm
   show(∃vs:List Value,w.ownsRow 0 R.E R.sz (gw (ids.zip (aK c us)) (fun _=>.nilIface) j) R.n vs∧SV.cG M R.cells vs)∧_
   rw[hν]
   refine⟨gM ho.al (R,v) (eA hm).2,fun g hg=>?_⟩
   have hg:v.ownBlock=some g:=by rw[←hν];exact hg
   have hb:da c us g:=⟨(R,v),(eA hm).2,hg⟩
   obtain⟨q1,q2⟩:=ho.nr g hb
   refine⟨.inr (.inr hb),q2,fun h=>h,fun k B _ e=>q1 e.symm⟩
  cI:=fun j j' R R' h1 h2 g e1 e2=>by
   obtain⟨v,hm⟩:=qQ ho.al (live j R h1)
   obtain⟨v',hm'⟩:=qQ ho.al (live j' R' h2)
   have hν:gw (ids.zip (aK c us)) (fun _=>Value.nilIface) j=v:=eI hnd hm
   have aab:gw (ids.zip (aK c us)) (fun _=>Value.nilIface) j'=v':=eI hnd hm'
   exact rZ rG ho.ap j R v j' R' v' g hm hm' (by rw[←hν];exact e1) (by rw[←aab];exact e2)
  dL:=fun i b e=>by
   simp only[NO]at e
   cases h:Nat.beq i 1000 with
   |false=>rw[h]at e;cases e
   |true=>rw[h]at e;cases e;rfl
  bX:=fun i v e=>by cases e
  fO:=fun b e=>e.elim
  jj:=trivial}
theorem Ct{P:Program}{f:FuncId}{fn:Func}{code:Code}{args:List AV}{T:TypeId}{c0 c1:List Oc}{res:SV}(ids:List Nat)(hf:P.funcs[f]? =some fn)(hb:fn.body=some code)(hn:args.length≤fn.ntmps)(wK:args.all AV.oy=true)(rG:ids.Nodup)(E5:ids.length=(rowsOf c0).length)
  (h:∀(w:World) (M:Mem) (β:Nat) (us:List Value),Ok P (NO w M β c0 us) code (AS.tJ fn.ntmps args [(1000,⟨T,aM ids c0⟩)] (ids.zip (rowsOf c0))) (fun e S=>(e=.normal∨e=.ret)∧EV P S fn.results.toList res∧∃ks:List Nat,S.b 1000=some ⟨T,aM ks c1⟩∧Lv S ks (rowsOf c1)∧ks.Nodup)):NN P f args T c0 res c1:=by
 intro M w β vs us hM ho hv
 refine dA rfl hf hb (yW ids hM ho hv wK hn rG E5) (h w M β us) ?_
 rintro S' E a w' ⟨hr,ks,hB,hL,hk⟩ hh
 obtain⟨v,hv,hx⟩:=(qj.sv hr).run hh
 have hβ:E.β 1000=β:=hh.dL 1000 β rfl
 obtain⟨us',ho',eF⟩:=gy hh hB hL hk
 rw[hβ]at ho'
 refine⟨v,hv,v,E.M,us',rfl,hh.m0,fun b o x e=>?_,hh.bu,hx,ho',fun g hg=>?_,hh.os,hh.tape,hh.output,hh.grown,fun k hk hne hno=>hh.frame k hk (fun e=>e.elim hne hno)⟩
 ·rcases hh.cj b o x e with q|q|q|q
  ·exact .inl q
  ·exact .inr (.inl q)
  ·rw[show b=β from q,ho'.nb o]at e;cases e
  ·exact .inr (.inr q)
 ·obtain⟨j,hj,oW⟩:=(eF g).1 hg
  obtain⟨R,hR⟩:=hL.mem j hj
  obtain⟨_,q⟩:=hh.rx j R hR
  rcases(q g oW).1 with q1|q1|q1
  ·exact .inr q1
  ·exact absurd q1 (ho'.nr g hg).1
  ·exact .inl q1
end Go.Fw
namespace Go.Fw
open Go.RowKit
def Un(S:AS):List Nat→Prop
 |[]=>True
 |k::ks=>(S.r k=.un∧k<1000)∧Un S ks
theorem Un.mem{S:AS}:∀{ks:List Nat},Un S ks→∀k∈ks,S.r k=.un∧k<1000
 |k::ks,h,j,hj=>by
  rcases List.mem_cons.1 hj with rfl|hj
  ·exact h.1
  ·exact Un.mem h.2 j hj
 |[],_,j,hj=>by cases hj
theorem Un.congr{S S':AS}:∀{ks:List Nat},(∀k∈ks,S'.r k=S.r k)→Un S ks→Un S' ks
 |[],_,_=>trivial
 |k::ks,h,hu=>⟨by rw[h k (by simp)];exact hu.1,Un.congr (fun j hj=>h j (List.mem_cons_of_mem _ hj)) hu.2⟩
theorem Lv.congr{S S':AS}:∀{js:List Nat} {Rs:List Row},(∀k∈js,S'.r k=S.r k)→Lv S js Rs→Lv S' js Rs
 |[],[],_,_=>trivial
 |j::js,R::Rs,h,hl=>⟨by rw[h j (by simp)];exact hl.1,Lv.congr (fun k hk=>h k (List.mem_cons_of_mem _ hk)) hl.2⟩
 |[],_::_,_,h=>h.elim
 |_::_,[],_,h=>h.elim
def kF(js ks:List Nat)(c:List Oc):List (Nat×gG):=js.map (fun j=>(j,gG.dead))++(ks.zip (rowsOf c)).map (fun p=>(p.1,.live p.2))
theorem AG:∀(ks:List Nat) (l:List (Row×Value)),(ks.zip l).map (fun n=>(n.1,gG.live n.2.1))=(ks.zip (l.map (·.1))).map (fun p=>(p.1,.live p.2))
 |[],_=>rfl
 |_::_,[]=>rfl
 |k::ks,p::l=>by rw[List.map_cons,List.zip_cons_cons,List.zip_cons_cons,List.map_cons,List.map_cons,AG ks l]
theorem vZ{M:Mem}{w:World}{c:List Oc}{us:List Value}(h:mK M w c us)(js ks:List Nat):qN js (ks.zip (aK c us))=kF js ks c:=by
 unfold qN kF
 rw[AG,cZ h]
section steps
variable {P:Program}{C:Ctx}{ops:Array Oper}{S:AS}{nd:Bool}{K:List Ac→AS→Prop}{rest:List Oper}{acc:List Ac}
variable {gd:Option (Nat×Bool)}{rg:List Nat}{d:Nat}{ty:TypeId}{pos:String}{aft:Array Edge}{x y z:Operand}{T U E0:TypeId}
theorem ai.Ja{E:Env}{a:Act}{w w':World}(h:ai C S E a w){i:Nat}{js ks:List Nat}{c0 c1:List Oc}{us us':List Value}{M':Mem}(hB:S.b i=some ⟨T,aM js c0⟩)(hL:Lv S js (rowsOf c0))(hks:ks.Nodup)(oC:ks.length=(rowsOf c1).length)(EC:Un S ks)
  (qR:∀g,da c0 us g↔∃j∈js,(E.ν j).ownBlock=some g) (hM:E.M.le M') (hn:∀b o x,M' b o=some x→E.M b o=some x∨w.heap.size≤b∨da c0 us b) (hin:M'.bu w') (ho:ju M' w' (E.β i) T c1 us') (hg:∀g,da c1 us' g→da c0 us g∨w.heap.size≤g)
  (hos:w'.os=w.os) (gx:w'.tape=w.tape) (hout:w'.output=w.output) (hsize:w.heap.size≤w'.heap.size) (eF:∀k,k<w.heap.size→k≠E.β i→¬da c0 us k→w'.heap[k]? =w.heap[k]?):
  ∃E':Env,E'.M=M'∧E'.β=E.β∧ai C (AS.aH (kF js ks c1) (AS.cP [(i,⟨T,aM ks c1⟩)] S)) E' a w':=by
 have KG:(aK c1 us').length=(rowsOf c1).length:=by rw[←cZ ho.al,List.length_map]
 have hnd:((ks.zip (aK c1 us')).map (·.1)).Nodup:=by rw[qP (by omega)];exact hks
 rw[←vZ ho.al js ks]
 refine⟨{E with M:=M',ν:=gw (ks.zip (aK c1 us')) E.ν},rfl,rfl,h.Q2 hB js (ks.zip (aK c1 us')) (fun j hj=>hL.mem j hj) (fun k R v hm=>EC.mem k (eA hm).1) hnd hM (fun b o x e=>?_) hin ho.hp ho.nb ?_ (fun x hx=>?_) (fun k R v hm=>?_) (rZ hks ho.ap) hos gx hout hsize (fun k hk hne hno=>eF k hk hne (fun q=>?_))⟩
 ·rcases hn b o x e with q|q|q
  ·exact .inl q
  ·exact .inr (.inl q)
  ·exact .inr (.inr ((qR b).1 q))
 ·exact iL (E:={E with M:=M',ν:=gw (ks.zip (aK c1 us')) E.ν}) (w:=w') oC ho.al (fun j p hm=>eI (R:=p.1) (v:=p.2) hnd hm)
 ·obtain⟨q1,q2⟩:=ja x hx
  refine⟨q1,fun j hj=>?_⟩
  have hj:=q2 j hj
  have key:∀(ks:List Nat) (l:List (Row×Value)),ks.length=l.length→j∈ks→∃R v,(j,R,v)∈ks.zip l:=by
   intro ks
   induction ks with
   |nil=>intro _ _ h;cases h
   |cons k ks ih=>
    intro l hl hm
    cases l with
    |nil=>simp at hl
    |cons p l=>
     rw[List.zip_cons_cons]
     rcases List.mem_cons.1 hm with q|q
     ·subst q;exact⟨p.1,p.2,by simp⟩
     ·obtain⟨R,v,h⟩:=ih l (by simpa using hl) q
      exact⟨R,v,List.mem_cons_of_mem _ h⟩
  exact key ks _ (by omega) hj
 ·refine⟨gM ho.al (R,v) (eA hm).2,fun g xh=>?_⟩
  have hb:da c1 us' g:=⟨(R,v),(eA hm).2,xh⟩
  obtain⟨q1,q2⟩:=ho.nr g hb
  refine⟨?_,q2,q1⟩
  rcases hg g hb with q|q
  ·exact .inl ((qR g).1 q)
  ·exact .inr q
 ·obtain⟨j,hj,e⟩:=(qR k).1 q
  exact hno j hj e
theorem RT.qS(hg:Gd ops S gd rg){f:FuncId}[bM P f]{g:Operand}{xs:Array Operand}{at_:Array TypeId}{args:List AV}{T:TypeId}{c0 c1:List Oc}{res:SV}(hp:NN P f args T c0 res c1)(i:Nat)(js ks:List Nat)(hB:S.b i=some ⟨T,aM js c0⟩)(hL:Lv S js (rowsOf c0))(C7:js.Nodup)(hks:ks.Nodup)(oC:ks.length=(rowsOf c1).length)(EC:Un S ks)
  (wK:args.all AV.oy=true) (hf:S.ev g=.sv (.v (.func (.func f) #[] #[]))) (hargs:lM S xs.toList (args.map (AV.H9 i))) (hd:d<S.n)
  (next:RunT P C ops nd K rest (⟨rg++(af g++xs.toList.flatMap af),[i],js++ks,⟨some (d,.sv res),[(i,⟨T,aM ks c1⟩)],kF js ks c1⟩⟩::acc) ((AS.aH (kF js ks c1) (AS.cP [(i,⟨T,aM ks c1⟩)] S)).set d (.sv res))):RunT P C ops nd K (⟨some d,.call ⟨.value g,xs,at_⟩,ty,pos,aft,gd⟩::rest) acc S:=by
 refine .inl ⟨_,[i],js++ks,_,?_,next⟩
 rintro S' hn ht hb hr k a w L Q ho ⟨E,h⟩ Jb
 refine aX (C:=C) ho (hg.wanted h (fun s hs=>ht s (List.mem_append_left _ hs)) rfl) ?_
 have mU:a.eval g=.func (.func f) #[] ⟨[]⟩:=by
  have h1:=h.ev g;rw[az (fun _ h=>List.mem_append_right _ (List.mem_append_left _ h)) ht,hf]at h1;exact h1
 have hall:=n9 wK (lM.vals h hargs (fun s hs=>ht s (List.mem_append_right _ (List.mem_append_right _ hs))))
 have cX:S'.b i=some ⟨T,aM js c0⟩:=by rw[hb i (by simp)];exact hB
 have C8:Lv S' js (rowsOf c0):=hL.congr (fun k hk=>hr k (List.mem_append_left _ hk))
 have aac:Un S' ks:=EC.congr (fun k hk=>hr k (List.mem_append_right _ hk))
 obtain⟨us,Cu,qR⟩:=gy h cX C8 C7
 refine aY (C:=C) (by intro c h;cases h) (gp mU) ?_
 rw[List.append_nil]
 refine⟨fun h=>by simp at h,dh ((hp E.M w (E.β i) _ us h.bu Cu hall).mono ?_)⟩
 rintro e w' ⟨v,M',us',rfl,hM,hnew,hin,hv,xy,Ia,hos,gx,hout,hsize,eF⟩
 obtain⟨E',e1,e2,h1⟩:=h.Ja cX C8 hks oC aac qR hM hnew hin xy Ia hos gx hout hsize eF
 refine Jb _ _ ⟨_,h1.put (x:=.sv res) (v:=v) (by show res.h E'.M v;rw[e1];exact hv) ?_ cS⟩
 rw[(cu _ _).1];show d<S'.n;omega
theorem ED{f:FuncId}[bM P f]{o:Option Nat}{g:Operand}{xs:Array Operand}{at_:Array TypeId}{a:Act}{w:World}{bs:List Value}(mU:a.eval g=.func (.func f) ⟨bs⟩ #[]):
  (execOp a.eval ⟨o,.call ⟨.value g,xs,at_⟩,ty,pos,aft,gd⟩).run P w=.ok (.enter f ⟨bs++xs.toList.map a.eval⟩) w:=by
 have e2:(⟨bs⟩:Array Value)++xs.map a.eval=⟨bs++xs.toList.map a.eval⟩:=by apply Array.ext';simp
 have e1:=bM.run (P:=P) (f:=f) (⟨bs⟩++xs.map a.eval) w
 rw[←e2]
 simp[execOp,resolve,mU,Deferred.ofValue,invoke,e1]
theorem RT.Jc(hg:Gd ops S gd rg){g:FuncId}{i:Nat}(hx:S.ev x=.ptr i 0)(hd:d<S.n)
  (next:RunT P C ops nd K rest (⟨rg++af x,[],[],⟨some (d,.cmp (.OU g) [.box i]),[],[]⟩⟩::acc) (S.set d (.cmp (.OU g) [.box i]))):RunT P C ops nd K (⟨some d,.makeFunc (.func g) #[x] #[],ty,pos,aft,gd⟩::rest) acc S:=
 RT.value hg (af x) [] [] (.cmp (.OU g) [.box i]) hd (by intro c h;cases h) (fun S' ht _ _ E a w h=>by
  have hx':S'.ev x=.ptr i 0:=by rw[az (fun _ h=>h) ht,hx]
  have h1:=h.ev x
  rw[hx']at h1
  obtain⟨l1,l2⟩:=fP h.wf hx'
  refine⟨.func (.func g) #[a.eval x] #[],by simp[execOp,Instr.makeFunc],⟨[a.eval x],rfl,h1,trivial⟩,fun j e=>?_,fun j e=>?_⟩
  ·have:j=i:=by simpa[AV.mb]using e
   exact l1 j this
  ·simp[AV.mr]at e) next
theorem RT.dK(hg:Gd ops S gd rg){i o:Nat}(hx:S.ev x=.ptr i o)(hd:d<S.n)
  (next:RunT P C ops nd K rest (⟨rg++af x,[],[],⟨some (d,.ptr i o),[],[]⟩⟩::acc) (S.set d (.ptr i o))):RunT P C ops nd K (⟨some d,.nilCheck x,ty,pos,aft,gd⟩::rest) acc S:=
 RT.value hg (af x) [] [] (.ptr i o) hd (by intro c h;cases h) (fun S' ht _ _ E a w h=>by
  have hx':S'.ev x=.ptr i o:=by rw[az (fun _ h=>h) ht,hx]
  have h1:=h.ev x
  rw[hx']at h1
  have h2:a.eval x=.pointer (some ⟨E.β i,o,none⟩):=h1
  exact⟨a.eval x,by simp[execOp,h2],h1,fP h.wf hx'⟩) next
class v5 (P:Program) (T:TypeId):Prop where
 u:P.underlying T=some (.pointer (P.pointee T))
theorem RT.GG(hg:Gd ops S gd rg)[tT:v5 P T]{i o:Nat}(hx:S.ev x=.ptr i o)(hy:S.ev y=.sv (.v (.pointer none)))(hd:d<S.n)
  (next:RunT P C ops nd K rest (⟨rg++(af x++af y),[],[],⟨some (d,.sv (.v (.bool false))),[],[]⟩⟩::acc) (S.set d (.sv (.v (.bool false))))):RunT P C ops nd K (⟨some d,.binOp .eql T x y U,ty,pos,aft,gd⟩::rest) acc S:=
 RT.value hg (af x++af y) [] [] (.sv (.v (.bool false))) hd (by intro c h;cases h) (fun S' ht _ _ E a w h=>by
  have h1:=h.ev x
  rw[az (fun _ h=>List.mem_append_left _ h) ht,hx]at h1
  have h2:=h.ev y
  rw[az (fun _ h=>List.mem_append_right _ h) ht,hy]at h2
  have h1:a.eval x=.pointer (some ⟨E.β i,o,none⟩):=h1
  have h2:a.eval y=.pointer none:=h2
  have e:=run_eql_pointer_nil (P:=P) w T (some ⟨E.β i,o,none⟩) tT.u
  refine⟨.bool false,?_,rfl,cS⟩
  simp[execOp,h1,h2,eqGuard,e]) next
def Fc.av:Fc→AV
 |.val s=>.sv s
 |.box i=>.ptr i 0
 |.row i=>.row i
theorem RT.qT(hg:Gd ops S gd rg){i:Nat}{js:List Fc}{s:Fc}(hx:S.ev x=.cmp .wL js)(hi:js[i]? =some s)(hd:d<S.n)
  (next:RunT P C ops nd K rest (⟨rg++af x,[],[],⟨some (d,s.av),[],[]⟩⟩::acc) (S.set d s.av)):RunT P C ops nd K (⟨some d,.extract x i,ty,pos,aft,gd⟩::rest) acc S:=
 RT.value hg (af x) [] [] s.av hd (by intro c h;cases h) (fun S' ht _ _ E a w h=>by
  have hx':S'.ev x=.cmp .wL js:=by rw[az (fun _ h=>h) ht,hx]
  have h1:=h.ev x
  rw[hx']at h1
  obtain⟨l1,l2⟩:=fP h.wf hx'
  obtain⟨vs,hv,hall⟩:=h1
  have hv:a.eval x=.tuple ⟨vs⟩:=hv
  obtain⟨u,hu,hs⟩:=hall.get hi
  have hm:=List.mem_of_getElem? hi
  refine⟨u,by simp[execOp,hv,Instr.extract,hu],?_,fun j e=>?_,fun j e=>?_⟩
  ·cases s<;>exact hs
  ·cases s with
   |val s=>exact e.elim
   |box k=>have e:j=k:=e;subst e;exact l1 j hm
   |row k=>exact e.elim
  ·cases s with
   |val s=>exact e.elim
   |box k=>exact e.elim
   |row k=>have e:j=k:=e;subst e;exact l2 j hm) next
def aad(tp:Bool)(p:Value)(rs:List Value):Value:=bif tp then .tuple ⟨p::rs⟩else p
def EE(P:Program)(f:FuncId)(args:List SV)(tp:Bool)(rest:List SV)(T:TypeId)(c:List Oc):Prop:=
 ∀(M:Mem) (w:World) (vs:List Value),M.bu w→SV.cG M args vs→
  Calls P f ⟨vs⟩ w fun e w'=>∃β rs M' us,e=.returned (aad tp (.pointer (some ⟨β,0,none⟩)) rs)∧M.le M'∧(∀b o x,M' b o=some x→M b o=some x∨w.heap.size≤b)∧M'.bu w'∧SV.cG M' rest rs∧
   ju M' w' β T c us∧w.heap.size≤β∧(∀g,da c us g→w.heap.size≤g)∧Below w.heap.size w w'
theorem AH{w:World}{M:Mem}{S':AS}{E:Env}{a:Act}{w':World}{k:Nat}{ks:List Nat}{c:List Oc}(hB:S'.b k=some ⟨T,aM ks c⟩)(hL:Lv S' ks (rowsOf c))(hk:ks.Nodup)(hh:ai (yj w M) S' E a w'):
  ∃us,M.le E.M∧(∀b o x,E.M b o=some x→M b o=some x∨w.heap.size≤b)∧E.M.bu w'∧ju E.M w' (E.β k) T c us∧w.heap.size≤E.β k∧(∀g,da c us g→w.heap.size≤g)∧Below w.heap.size w w':=by
 obtain⟨us,ho,eF⟩:=gy hh hB hL hk
 refine⟨us,hh.m0,fun b o x e=>?_,hh.bu,ho,(hh.bx k _ hB).1.elim id (fun h=>h.elim),fun g hg=>?_,hh.os,hh.tape,hh.output,hh.grown,fun k hk=>hh.frame k hk (fun h=>h)⟩
 ·rcases hh.cj b o x e with h|h|h
  ·exact .inl h
  ·exact .inr h
  ·exact h.elim
 ·obtain⟨j,hj,oW⟩:=(eF g).1 hg
  obtain⟨R,hR⟩:=hL.mem j hj
  exact((hh.rx j R hR).2 g oW).1.elim id (fun h=>h.elim)
theorem AI{f:FuncId}{fn:Func}{code:Code}{args:List SV}{c:List Oc}(hf:P.funcs[f]? =some fn)(hb:fn.body=some code)(hn:args.length≤fn.ntmps)
  (h:∀(w:World) (M:Mem) (vs:List Value),SV.cG M args vs→Ok P (yj w M) code (AS.init fn.ntmps args) (fun e S=>(e=.normal∨e=.ret)∧∃(k:Nat) (ks:List Nat),qj P S fn.results.toList (.ptr k 0)∧S.b k=some ⟨T,aM ks c⟩∧Lv S ks (rowsOf c)∧ks.Nodup)):EE P f args false [] T c:=by
 intro M w vs hM hvs
 refine dA rfl hf hb (eR hM hvs hn) (h w M vs hvs) ?_
 rintro S' E a w' ⟨k,ks,hr,hB,hL,hk⟩ hh
 obtain⟨v,hv,hx⟩:=hr.run hh
 obtain rfl:v=.pointer (some ⟨E.β k,0,none⟩):=hx
 obtain⟨us,q1,q2,q3,q4,q5,q6,q7⟩:=AH hB hL hk hh
 exact⟨_,hv,E.β k,[],E.M,us,rfl,q1,q2,q3,trivial,q4,q5,q6,q7⟩
theorem AJ{f:FuncId}{fn:Func}{code:Code}{args:List SV}{s:SV}{c:List Oc}{t1 t2:Nat}(hf:P.funcs[f]? =some fn)(hb:fn.body=some code)(hn:args.length≤fn.ntmps)(hres:fn.results=#[.tmp t1,.tmp t2])
  (h:∀(w:World) (M:Mem) (vs:List Value),SV.cG M args vs→Ok P (yj w M) code (AS.init fn.ntmps args) (fun e S=>(e=.normal∨e=.ret)∧∃(k:Nat) (ks:List Nat),S.t t1=.ptr k 0∧S.t t2=.sv s∧S.b k=some ⟨T,aM ks c⟩∧Lv S ks (rowsOf c)∧ks.Nodup)):EE P f args true [s] T c:=by
 intro M w vs hM hvs
 refine dA rfl hf hb (eR hM hvs hn) (h w M vs hvs) ?_
 rintro S' E a w' ⟨k,ks,GH,NP,hB,hL,hk⟩ hh
 have h1:=hh.tm t1
 rw[GH]at h1
 have h1:a.tmps.getD t1 undef=.pointer (some ⟨E.β k,0,none⟩):=h1
 have h2:=hh.tm t2
 rw[NP]at h2
 obtain⟨us,q1,q2,q3,q4,q5,q6,q7⟩:=AH hB hL hk hh
 refine⟨.tuple #[.pointer (some ⟨E.β k,0,none⟩),a.tmps.getD t2 undef],?_,E.β k,[a.tmps.getD t2 undef],E.M,us,rfl,q1,q2,q3,⟨h2,trivial⟩,q4,q5,q6,q7⟩
 rw[Array.getD_eq_getD_getElem?]at h1
 simp[results,hres,h1]
theorem ai.yX{a:Act}{w:World}:∀(ks:List Nat) (l:List (Row×Value)) {S:AS} {E:Env},ai C S E a w→ks.length=l.length→ks.Nodup→Un S ks→(∀p∈l,∃vs:List Value,w.ownsRow 0 p.1.E p.1.sz p.2 p.1.n vs∧SV.cG E.M p.1.cells vs)→AF l→(∀p∈l,∀g,p.2.ownBlock=some g→yl C S E g)→
  ∃E':Env,E'.M=E.M∧E'.β=E.β∧E'.O=E.O∧(∀i p,(i,p)∈ks.zip l→E'.ν i=p.2)∧(∀i,i∉ks→E'.ν i=E.ν i)∧ai C (AS.aH ((ks.zip l).map (fun n=>(n.1,.live n.2.1))) S) E' a w
 |[],[],S,E,h,_,_,_,_,_,_=>⟨E,rfl,rfl,rfl,fun i p hm=>(by simp at hm),fun _ _=>rfl,h⟩
 |k::ks,p::l,S,E,h,hl,hn,hu,ho,ha,hf=>by
  obtain⟨R,v⟩:=p
  rw[List.nodup_cons]at hn
  obtain⟨VT,Z9⟩:=List.pairwise_cons.1 ha
  obtain⟨vs,Cu,xy⟩:=ho (R,v) (by simp)
  have h1:=h.um hu.1.1 hu.1.2 [] none (.inl ⟨rfl,rfl⟩) (R':=R) Cu xy (fun g hg=>.inr (hf (R,v) (by simp) g hg)) (jJ w none)
  have hu':Un (AS.aH ([]++[(k,.live R)]) S) ks:=hu.2.congr (fun j hj=>by
   show(AS.kz S k _).r j=_
   exact AS.gK _ _ _ _ (fun e=>hn.1 (e▸hj)))
  obtain⟨E',q1,q2,q3,q4,q5,q6⟩:=ai.yX ks l h1 (by simpa using hl) hn.2 hu' (fun p hp=>ho p (List.mem_cons_of_mem _ hp)) Z9 (fun p hp g hg=>by
   obtain⟨f1,f2,f3,f4,f5⟩:=hf p (List.mem_cons_of_mem _ hp) g hg
   refine⟨f1,f2,f3,f4,fun j R' iQ e=>?_⟩
   have iQ:(AS.kz S k (.live R)).r j=.live R':=iQ
   by_cases ej:j=k
   ·subst ej
    have e:(if j=j then v else E.ν j).ownBlock=some g:=e
    rw[if_pos rfl]at e
    exact VT p hp g e hg
   ·rw[AS.gK _ _ _ _ ej]at iQ
    have e:(if j=k then v else E.ν j).ownBlock=some g:=e
    rw[if_neg ej]at e
    exact f5 j R' iQ e)
  refine⟨E',q1,q2,q3,fun i p hm=>?_,fun i hi=>?_,q6⟩
  ·rw[List.zip_cons_cons]at hm
   rcases List.mem_cons.1 hm with e|e
   ·cases e
    rw[q5 k hn.1]
    show(if k=k then v else E.ν k)=v
    rw[if_pos rfl]
   ·exact q4 i p e
  ·rw[q5 i (fun hm=>hi (List.mem_cons_of_mem _ hm))]
   show(if i=k then v else E.ν i)=E.ν i
   rw[if_neg (fun e=>hi (by rw[e];simp))]
 |[],_::_,_,_,_,hl,_,_,_,_,_=>by simp at hl
 |_::_,[],_,_,_,hl,_,_,_,_,_=>by simp at hl
theorem pM(i:Nat)(B:iP):∀(l:List (Nat×gG)) (S:AS),AS.aH l (S.fY i B)=(AS.aH l S).fY i B
 |[],_=>rfl
 |(j,R)::l,S=>pM i B l (S.kz j R)
theorem jb{α β:Type}:∀{l:List α} {k:List β} {a:α},l.length=k.length→a∈l→∃b,(a,b)∈l.zip k
 |a::l,c::k,b,h,hb=>by
  rcases List.mem_cons.1 hb with rfl|hb
  ·exact⟨c,by rw[List.zip_cons_cons];simp⟩
  ·obtain⟨a',h'⟩:=jb (l:=l) (k:=k) (by simpa using h) hb
   exact⟨a',by rw[List.zip_cons_cons];exact List.mem_cons_of_mem _ h'⟩
 |[],_,_,_,hb=>by cases hb
 |_::_,[],_,h,_=>by simp at h
theorem ai.newObj{E:Env}{a:Act}{w w':World}(h:ai C S E a w){i:Nat}(hi:S.b i=none)(hp:C.dL i=none){ks:List Nat}{c:List Oc}{us:List Value}{M':Mem}{β:Nat}(hks:ks.Nodup)(oC:ks.length=(rowsOf c).length)(EC:Un S ks)
  (hM:E.M.le M') (hn:∀b o x,M' b o=some x→E.M b o=some x∨w.heap.size≤b) (hin:M'.bu w') (ho:ju M' w' β T c us) (hβ:w.heap.size≤β) (hg:∀g,da c us g→w.heap.size≤g) (Mq:Below w.heap.size w w'):
  ∃E':Env,E'.M=M'∧E'.β i=β∧ai C (AS.aH (kF [] ks c) (AS.cP [(i,⟨T,aM ks c⟩)] S)) E' a w':=by
 have KG:(aK c us).length=(rowsOf c).length:=by rw[←cZ ho.al,List.length_map]
 have h0:=h.grow hM hn hin Mq
 obtain⟨E1,q1,q2,q3,q4,q5,h1⟩:=ai.yX ks (aK c us) h0 (by omega) hks EC (gM ho.al) ho.ap (fun p hp g xh=>h.lN (hg g ⟨p,hp,xh⟩) (ho.nr g ⟨p,hp,xh⟩).2)
 have hS1:AS.aH ((ks.zip (aK c us)).map (fun n=>(n.1,.live n.2.1))) S=AS.aH (kF [] ks c) S:=by rw[←vZ ho.al [] ks];rfl
 rw[hS1]at h1
 obtain⟨f1,f2,f3,f4,f5⟩:=h.lN (M':=M') hβ ho.nb
 have Q8:(AS.aH (kF [] ks c) S).b i=none:=by rw[(cu _ _).2.2.1];exact hi
 have hfree:yl C (AS.aH (kF [] ks c) S) E1 β:=by
  refine⟨f1,by rw[q1];exact f2,by rw[q3];exact f3,fun j B hB=>?_,fun j R hR e=>?_⟩
  ·rw[(cu _ _).2.2.1]at hB;rw[q2];exact f4 j B hB
  ·by_cases hj:j∈ks
   ·obtain⟨p,hm⟩:=jb (l:=ks) (k:=aK c us) (by omega) hj
    rw[q4 j p hm]at e
    exact(ho.nr β ⟨p,(eA hm).2,e⟩).1 rfl
   ·rw[fE,l9 (fun R hm=>by
     obtain⟨x,hx,e⟩:=List.mem_map.1 (show(j,R)∈(ks.zip (rowsOf c)).map (fun p=>(p.1,gG.live p.2))from hm)
     obtain⟨k,R2⟩:=x
     have e:k=j:=congrArg Prod.fst e
     exact hj (e▸(eA hx).1))]at hR
    rw[q5 j hj]at e
    exact f5 j R hR e
 have h2:=h1.yp Q8 hp hfree ho.hp (iL (w:=w') oC (by rw[q1];exact ho.al) q4) (fun x hx=>by
  obtain⟨p1,p2⟩:=ja x hx
  refine⟨fun j e=>absurd e (p1 j),fun j e=>?_⟩
  obtain⟨R,hm⟩:=jb (l:=ks) (k:=rowsOf c) oC (p2 j e)
  obtain⟨R',iQ⟩:=qO (l:=kF [] ks c) (j:=j) (R:=.live R) (List.mem_map.2 ⟨(j,R),hm,rfl⟩)
  rw[fE,iQ]
  obtain⟨x,hx,e⟩:=List.mem_map.1 (show(j,R')∈(ks.zip (rowsOf c)).map (fun p=>(p.1,gG.live p.2))from mc iQ)
  rw[←show gG.live x.2=R' from congrArg Prod.snd e]
  simp)
 refine⟨{E1 with β:=fun j=>if j=i then β else E1.β j},q1,?_,?_⟩
 rotate_left 1
 ·rw[show AS.cP [(i,(⟨T,aM ks c⟩:iP))] S=S.fY i ⟨T,aM ks c⟩from rfl,pM]
  exact h2
 ·show(if i=i then β else E1.β i)=β
  rw[if_pos rfl]
theorem RT.GI(hg:Gd ops S gd rg){f:FuncId}[bM P f]{g:Operand}{xs:Array Operand}{at_:Array TypeId}{args:List SV}{T:TypeId}{c:List Oc}(hp:EE P f args false [] T c)(ks:List Nat)(hks:ks.Nodup)(oC:ks.length=(rowsOf c).length)(EC:Un S ks)(hf:S.ev g=.sv (.v (.func (.func f) #[] #[])))(hargs:eM S xs.toList args)(hd:d<S.n)(hdb:S.b d=none)(vg:C.dL d=none)
  (next:RunT P C ops nd K rest (⟨rg++(af g++xs.toList.flatMap af),[d],ks,⟨some (d,.ptr d 0),[(d,⟨T,aM ks c⟩)],kF [] ks c⟩⟩::acc) ((AS.aH (kF [] ks c) (AS.cP [(d,⟨T,aM ks c⟩)] S)).set d (.ptr d 0))):RunT P C ops nd K (⟨some d,.call ⟨.value g,xs,at_⟩,ty,pos,aft,gd⟩::rest) acc S:=by
 refine .inl ⟨_,[d],ks,_,?_,next⟩
 rintro S' hn ht hb hr i a w L Q ho ⟨E,h⟩ hL
 refine aX (C:=C) ho (hg.wanted h (fun s hs=>ht s (List.mem_append_left _ hs)) rfl) ?_
 have mU:a.eval g=.func (.func f) #[] ⟨[]⟩:=by
  have h1:=h.ev g;rw[az (fun _ h=>List.mem_append_right _ (List.mem_append_left _ h)) ht,hf]at h1;exact h1
 have hall:=eM.vals h hargs (fun s hs=>ht s (List.mem_append_right _ (List.mem_append_right _ hs)))
 have hdn:S'.b d=none:=by rw[hb d (by simp)];exact hdb
 refine aY (C:=C) (by intro c h;cases h) (gp mU) ?_
 rw[List.append_nil]
 refine⟨fun h=>by simp at h,dh ((hp E.M w _ h.bu hall).mono ?_)⟩
 rintro e w' ⟨β,rs,M',us,rfl,hM,hnew,hin,KI,xy,hβ,Ia,Mq⟩
 obtain⟨E',e1,e2,h1⟩:=h.newObj hdn vg hks oC (EC.congr hr) hM hnew hin xy hβ Ia Mq
 refine hL _ _ ⟨_,h1.put (x:=.ptr d 0) (v:=.pointer (some ⟨β,0,none⟩)) (by show _=Value.pointer (some ⟨E'.β d,0,none⟩);rw[e2]) ?_ ⟨fun j e=>?_,fun j e=>e.elim⟩⟩
 ·rw[(cu _ _).1];show d<S'.n;omega
 ·have e:j=d:=e
  subst e
  rw[(cu _ _).2.2.1]
  exact⟨_,AS.bD _ _ _⟩
theorem RT.C9(hg:Gd ops S gd rg){f:FuncId}[bM P f]{g:Operand}{xs:Array Operand}{at_:Array TypeId}{args:List SV}{T:TypeId}{c:List Oc}{s:SV}(hp:EE P f args true [s] T c)(ks:List Nat)(hks:ks.Nodup)(oC:ks.length=(rowsOf c).length)(EC:Un S ks)(hf:S.ev g=.sv (.v (.func (.func f) #[] #[])))(hargs:eM S xs.toList args)(hd:d<S.n)(hdb:S.b d=none)(vg:C.dL d=none)
  (next:RunT P C ops nd K rest (⟨rg++(af g++xs.toList.flatMap af),[d],ks,⟨some (d,.cmp .wL [.box d,.val s]),[(d,⟨T,aM ks c⟩)],kF [] ks c⟩⟩::acc) ((AS.aH (kF [] ks c) (AS.cP [(d,⟨T,aM ks c⟩)] S)).set d (.cmp .wL [.box d,.val s]))):RunT P C ops nd K (⟨some d,.call ⟨.value g,xs,at_⟩,ty,pos,aft,gd⟩::rest) acc S:=by
 refine .inl ⟨_,[d],ks,_,?_,next⟩
 rintro S' hn ht hb hr i a w L Q ho ⟨E,h⟩ hL
 refine aX (C:=C) ho (hg.wanted h (fun s hs=>ht s (List.mem_append_left _ hs)) rfl) ?_
 have mU:a.eval g=.func (.func f) #[] ⟨[]⟩:=by
  have h1:=h.ev g;rw[az (fun _ h=>List.mem_append_right _ (List.mem_append_left _ h)) ht,hf]at h1;exact h1
 have hall:=eM.vals h hargs (fun s hs=>ht s (List.mem_append_right _ (List.mem_append_right _ hs)))
 have hdn:S'.b d=none:=by rw[hb d (by simp)];exact hdb
 refine aY (C:=C) (by intro c h;cases h) (gp mU) ?_
 rw[List.append_nil]
 refine⟨fun h=>by simp at h,dh ((hp E.M w _ h.bu hall).mono ?_)⟩
 rintro e w' ⟨β,rs,M',us,rfl,hM,hnew,hin,KI,xy,hβ,Ia,Mq⟩
 obtain⟨E',e1,e2,h1⟩:=h.newObj hdn vg hks oC (EC.congr hr) hM hnew hin xy hβ Ia Mq
 match rs,KI with
 |[r],KI=>
  refine hL _ _ ⟨_,h1.put (x:=.cmp .wL [.box d,.val s]) (v:=.tuple #[.pointer (some ⟨β,0,none⟩),r]) ⟨[.pointer (some ⟨β,0,none⟩),r],rfl,by show _=Value.pointer (some ⟨E'.β d,0,none⟩);rw[e2],by show s.h E'.M r;rw[e1];exact KI.1,trivial⟩ ?_ ⟨fun j e=>?_,fun j e=>?_⟩⟩
  ·rw[(cu _ _).1];show d<S'.n;omega
  ·have e:j=d:=by simpa[AV.mb]using e
   subst e
   rw[(cu _ _).2.2.1]
   exact⟨_,AS.bD _ _ _⟩
  ·simp[AV.mr]at e
end steps
end Go.Fw
namespace Go.Fw
open Go.RowKit
def yY(P:Program)(f:FuncId)(args:List AV)(T:TypeId)(c:List Oc)(res:SV):Prop:=
 ∀(M:Mem) (w:World) (β:Nat) (vs us:List Value),M.bu w→ju M w β T c us→bz (me M β) args vs→
  Calls P f ⟨vs⟩ w fun e w'=>∃v M',e=.returned v∧M.le M'∧(∀b o x,M' b o=some x→M b o=some x∨w.heap.size≤b)∧M'.bu w'∧res.h M' v∧
   ju M' w' β T c us∧w'.os=w.os∧w'.tape=w.tape∧w'.output=w.output∧w.heap.size≤w'.heap.size∧∀k,k<w.heap.size→k≠β→¬da c us k→w'.heap[k]? =w.heap[k]?
def Pk:List (Nat×Row×Value)→Nat→Option Value
 |[],_=>none
 |(k,_,v)::l,j=>if j=k then some v else Pk l j
theorem uC:∀{l:List (Nat×Row×Value)} {j:Nat} {v:Value},Pk l j=some v→∃R,(j,R,v)∈l
 |(k,R,u)::l,j,v,h=>by
  rw[Pk]at h
  by_cases e:j=k
  ·rw[if_pos e]at h;cases h;subst e;exact⟨R,by simp⟩
  ·rw[if_neg e]at h
   obtain⟨R',hm⟩:=uC h
   exact⟨R',List.mem_cons_of_mem _ hm⟩
 |[],_,_,h=>by cases h
theorem Cv:∀{l:List (Nat×Row×Value)} {j:Nat} {R:Row} {v:Value},(l.map (·.1)).Nodup→(j,R,v)∈l→Pk l j=some v
 |(k,R',v')::l,j,R,v,hn,h=>by
  rw[List.map_cons,List.nodup_cons]at hn
  rw[Pk]
  rcases List.mem_cons.1 h with e|e
  ·cases e;rw[if_pos rfl]
  ·have:j≠k:=fun q=>hn.1 (List.mem_map.2 ⟨(j,R,v),e,q⟩)
   rw[if_neg this];exact Cv hn.2 e
theorem NQ{ids:List Nat}(h:(ids.all fun i=>Nat.ble 1000 i)=true):∀i∈ids,1000≤i:=fun i hi=>Nat.le_of_ble_eq_true (List.all_eq_true.1 h i hi)
def AK(w:World)(M:Mem)(β:Nat)(c:List Oc)(us:List Value)(ids:List Nat)(rG:(ids.all fun i=>Nat.ble 1000 i)=true):Ctx:={w0:=w,M0:=M,own:=fun k=>k=β∨da c us k,mO:=fun k=>k=β∨da c us k,dL:=fun i=>bif Nat.beq i 1000 then some β else none,bX:=Pk (ids.zip (aK c us)),ro:=none,J:=fun _ _ _ _ _=>True,wE:=fun _ h=>h,CH:=fun _ _ h=>(by obtain⟨R,hm⟩:=uC h;exact NQ rG _ (eA hm).1),jf:=fun _ _ _ _ _ _ _ _ _ _ _ _ _ _ _ _=>trivial}
def Oc.cst:Oc→Prop
 |.s x=>∃v,x=.v v
 |.r _=>True
def r5:List Oc→Prop
 |[]=>True
 |c::l=>c.cst∧r5 l
theorem uD{M M':Mem}{w w':World}:∀{c:List Oc} {us us':List Value},r5 c→mK M w c us→mK M' w' c us'→aK c us=aK c us'→us=us'
 |[],[],[],_,_,_,_=>rfl
 |.s x::l,v::vs,v'::vs',hc,h,h',e=>by
  obtain⟨y,rfl⟩:=hc.1
  have e1:v=y:=h.1
  have e2:v'=y:=h'.1
  rw[e1,e2,uD hc.2 h.2 h'.2 e]
 |.r R::l,v::vs,v'::vs',hc,h,h',e=>by
  rw[aK,aK]at e
  have e1:=(List.cons.inj e).1
  have e2:=(List.cons.inj e).2
  rw[uD hc.2 h.2 h'.2 e2]
  rw[(Prod.mk.inj e1).2]
 |[],[],_::_,_,_,h,_=>h.elim
 |[],_::_,_,_,h,_,_=>h.elim
 |.s _::_,[],_,_,h,_,_=>h.elim
 |.r _::_,[],_,_,h,_,_=>h.elim
 |.s _::_,_::_,[],_,_,h,_=>h.elim
 |.r _::_,_::_,[],_,_,h,_=>h.elim
theorem iM{P:Program}{f:FuncId}{fn:Func}{code:Code}{args:List AV}{T:TypeId}{c:List Oc}{res:SV}(ids:List Nat)(hf:P.funcs[f]? =some fn)(hb:fn.body=some code)(hn:args.length≤fn.ntmps)(wK:args.all AV.oy=true)(rG:ids.Nodup)(E5:ids.length=(rowsOf c).length)(hge:(ids.all fun i=>Nat.ble 1000 i)=true)(Cw:r5 c)
  (h:∀(w:World) (M:Mem) (β:Nat) (us:List Value),Ok P (AK w M β c us ids hge) code (AS.tJ fn.ntmps args [(1000,⟨T,aM ids c⟩)] (ids.zip (rowsOf c))) (fun e S=>(e=.normal∨e=.ret)∧EV P S fn.results.toList res∧S.b 1000=some ⟨T,aM ids c⟩∧Lv S ids (rowsOf c))):yY P f args T c res:=by
 intro M w β vs us hM ho hv
 have KG:(aK c us).length=(rowsOf c).length:=by rw[←cZ ho.al,List.length_map]
 have hnd:((ids.zip (aK c us)).map (·.1)).Nodup:=by rw[qP (by omega)];exact rG
 have BQ:ai (AK w M β c us ids hge) (AS.tJ fn.ntmps args [(1000,⟨T,aM ids c⟩)] (ids.zip (rowsOf c))) ⟨fun _=>β,gw (ids.zip (aK c us)) (fun _=>.nilIface),fun _=>False,M⟩ {tmps:=⟨vs⟩++Array.replicate (fn.ntmps-(⟨vs⟩:Array Value).size) undef,defers:=[]} w:=by
  have h0:=yW (n:=fn.ntmps) ids hM ho hv wK hn rG E5
  exact{wf:=h0.wf,marks:=h0.marks,size:=h0.size,os:=h0.os,tape:=h0.tape,output:=h0.output,grown:=h0.grown,frame:=h0.frame,m0:=h0.m0,cj:=h0.cj,bu:=h0.bu,tm:=h0.tm,bx:=h0.bx,inj:=h0.inj,rx:=h0.rx,cI:=h0.cI,dL:=h0.dL,bX:=fun i v e=>(by
   obtain⟨R,hm⟩:=uC e
   exact eI hnd hm),fO:=h0.fO,jj:=trivial}
 refine dA rfl hf hb BQ (h w M β us) ?_
 rintro S' E a w' ⟨hr,hB,hL⟩ hh
 obtain⟨v,hv,hx⟩:=(qj.sv hr).run hh
 have hβ:E.β 1000=β:=hh.dL 1000 β rfl
 obtain⟨us',ho',eF⟩:=gy hh hB hL rG
 rw[hβ]at ho'
 obtain⟨_,_,_,D2,q2,q3⟩:=hh.bx 1000 _ hB
 rw[hβ,ho'.hp]at q2
 obtain rfl:us'=D2:=by
  have:=Option.some.inj q2
  injection this with e
  injection e
 obtain⟨_,NR⟩:=kU hh hL q3
 have gZ:aK c us=aK c us':=by
  rw[NR]
  have key:∀(ids:List Nat) (l:List (Row×Value)) (Rs:List Row),ids.length=l.length→l.map (·.1)=Rs→(∀i R v,(i,R,v)∈ids.zip l→E.ν i=v)→l=Rs.zip (ids.map E.ν):=by
   intro ids
   induction ids with
   |nil=>intro l Rs hl hm _;cases l with|nil=>cases hm;rfl|cons _ _=>simp at hl
   |cons i ids ih=>
    intro l Rs hl hm hν
    cases l with
    |nil=>simp at hl
    |cons p l=>
     cases hm
     obtain⟨R,v⟩:=p
     rw[List.map_cons,List.map_cons,List.zip_cons_cons,hν i R v (by rw[List.zip_cons_cons];simp),←ih l _ (by simpa using hl) rfl (fun i R v hm=>hν i R v (by rw[List.zip_cons_cons];exact List.mem_cons_of_mem _ hm))]
  exact key ids _ _ (by omega) (cZ ho.al) (fun i R v hm=>hh.bX i v (Cv hnd hm))
 obtain rfl:us=us':=uD Cw ho.al ho'.al gZ
 refine⟨v,hv,v,E.M,rfl,hh.m0,fun b o x e=>?_,hh.bu,hx,ho',hh.os,hh.tape,hh.output,hh.grown,fun k hk hne hno=>hh.frame k hk (fun e=>e.elim hne hno)⟩
 rcases hh.cj b o x e with q|q|q|q
 ·exact .inl q
 ·exact .inr q
 ·rw[show b=β from q,ho'.nb o]at e;cases e
 ·rw[(ho'.nr b q).2 o]at e;cases e
section steps
variable {P:Program}{C:Ctx}{ops:Array Oper}{S:AS}{nd:Bool}{K:List Ac→AS→Prop}{rest:List Oper}{acc:List Ac}
variable {gd:Option (Nat×Bool)}{rg:List Nat}{d:Nat}{ty:TypeId}{pos:String}{aft:Array Edge}{x y z:Operand}{T U E0:TypeId}
theorem ai.uE{E:Env}{a:Act}{w w':World}(h:ai C S E a w){i:Nat}{js:List Nat}{c:List Oc}{us:List Value}{M':Mem}(hB:S.b i=some ⟨T,aM js c⟩)(hL:Lv S js (rowsOf c))(C7:js.Nodup)(yf:ju E.M w (E.β i) T c us)
  (hM:E.M.le M') (hn:∀b o x,M' b o=some x→E.M b o=some x∨w.heap.size≤b) (hin:M'.bu w') (ho:ju M' w' (E.β i) T c us)
  (hos:w'.os=w.os) (gx:w'.tape=w.tape) (hout:w'.output=w.output) (hsize:w.heap.size≤w'.heap.size) (eF:∀k,k<w.heap.size→k≠E.β i→¬da c us k→w'.heap[k]? =w.heap[k]?):
  ai C S {E with M:=M'} a w':=by
 obtain⟨Ez,Z7,I9,Ib,EA,Q9⟩:=h.bx i _ hB
 obtain rfl:Ib=us:=by
  rw[yf.hp]at EA
  have:=Option.some.inj EA
  injection this with e
  injection e with e
  exact e.symm
 obtain⟨_,KG⟩:=kU h hL Q9
 have hlen:=hL.len
 have ym:∀g,da c Ib g↔∃j∈js,(E.ν j).ownBlock=some g:=fun g=>by
  unfold da
  rw[KG]
  constructor
  ·rintro⟨⟨R,v⟩,hm,hg⟩
   obtain⟨j,hj,rfl⟩:=List.mem_map.1 (eA hm).2
   exact⟨j,hj,hg⟩
  ·rintro⟨j,hj,hg⟩
   obtain⟨R,hR⟩:=nF (l:=rowsOf c) (k:=js.map E.ν) (by simp[hlen]) (List.mem_map.2 ⟨j,hj,rfl⟩)
   exact⟨(R,E.ν j),hR,hg⟩
 have rY:∀g,da c Ib g→(C.w0.heap.size≤g∨C.mO g)∧¬E.O g∧(∀n B,S.b n=some B→E.β n≠g)∧∃c e,w.heap[g]? =some (Obj.cells c e (0,0)):=fun g hg=>by
  obtain⟨j,hj,oW⟩:=(ym g).1 hg
  obtain⟨R,hR⟩:=hL.mem j hj
  obtain⟨⟨us,q1,_⟩,q2⟩:=h.rx j R hR
  obtain⟨q3,q4,q5,q6⟩:=q2 g oW
  refine⟨q3,q5,q6,?_⟩
  rcases q1.2 with⟨q7,_⟩|⟨g',cap,cur,q7,_,q8,_⟩
  ·rw[q7]at oW;cases oW
  ·rw[q7]at oW;cases oW;exact⟨_,_,q8⟩
 have keep:∀x:AV,∀v,x.holds E v→x.holds {E with M:=M'} v:=fun x v hv=>AV.bn (E:=E) (E':={E with M:=M'}) hM (fun _ _=>rfl) (fun _ _=>rfl) hv
 have NM:∀b,b<w.heap.size→(∀o,E.M b o=none)→∀o,M' b o=none:=fun b h1 h2 o=>by
  cases e:M' b o with
  |none=>rfl
  |some v=>
   rcases hn b o v e with q|q
   ·rw[h2 o]at q;cases q
   ·omega
 exact{
  wf:=h.wf
  marks:=by
   obtain⟨ds,d1,d2,d3⟩:=h.marks
   refine⟨ds,d1,d2,fun r hr=>?_⟩
   obtain⟨p1,p2,p3⟩:=d3 r hr
   refine⟨p1,p2,?_⟩
   rw[eF r (Array.getElem?_eq_some_iff.1 p3).1 (fun e=>by rw[e,EA]at p3;cases p3) (fun e=>by
    obtain⟨_,_,_,c,e2,q⟩:=rY r e
    rw[q]at p3;cases p3)]
   exact p3
  size:=h.size
  os:=hos.trans h.os
  tape:=gx.trans h.tape
  output:=hout.trans h.output
  grown:=Nat.le_trans h.grown hsize
  frame:=fun k hk hown=>by
   rw[eF k (Nat.lt_of_lt_of_le hk h.grown) (fun e=>by
    rcases Ez with q|q
    ·omega
    ·exact hown (C.wE _ (by rw[e];exact q))) (fun e=>by
    rcases(rY k e).1 with q|q
    ·omega
    ·exact hown (C.wE _ q))]
   exact h.frame k hk hown
  m0:=Mem.le_trans h.m0 hM
  cj:=fun b o v e=>by
   rcases hn b o v e with q|q
   ·exact h.cj b o v q
   ·exact .inr (.inl (Nat.le_trans h.grown q))
  bu:=hin
  tm:=fun s=>keep _ _ (h.tm s)
  bx:=fun j B cX=>by
   obtain⟨p1,p2,p3,vs,p4,p5⟩:=h.bx j B cX
   have hlt:=(Array.getElem?_eq_some_iff.1 p4).1
   by_cases e:j=i
   ·subst e
    rw[hB]at cX;cases cX
    refine⟨p1,ho.nb,p3,Ib,ho.hp,?_⟩
    exact Q9.imp (fun x _ v hv=>keep x v hv)
   ·refine⟨p1,NM _ hlt p2,p3,vs,?_,p5.imp (fun x _ v hv=>keep x v hv)⟩
    show w'.heap[E.β j]? =_
    rw[eF _ hlt (fun q=>e (h.inj j i B _ cX hB q)) (fun q=>(rY _ q).2.2.1 j B cX rfl)];exact p4
  inj:=h.inj
  rx:=fun j R hR=>by
   obtain⟨⟨vs,p1,p2⟩,p3⟩:=h.rx j R hR
   by_cases hj:j∈js
   ·have hz:(R,E.ν j)∈aK c Ib:=by
     rw[KG]
     have key:∀(js:List Nat) (Rs:List Row),Lv S js Rs→j∈js→(R,E.ν j)∈Rs.zip (js.map E.ν):=by
      intro js
      induction js with
      |nil=>intro _ _ h;cases h
      |cons k js ih=>
       intro Rs hl hm
       cases Rs with
       |nil=>exact hl.elim
       |cons R' Rs=>
        rw[List.map_cons,List.zip_cons_cons]
        rcases List.mem_cons.1 hm with q|q
        ·subst q
         have:=hl.1
         rw[hR]at this;cases this
         simp
        ·exact List.mem_cons_of_mem _ (ih Rs hl.2 q)
     exact key js _ hL hj
    refine⟨gM ho.al _ hz,fun g hg=>?_⟩
    obtain⟨p4,p5,p6,p7⟩:=p3 g hg
    exact⟨p4,(ho.nr g ⟨_,hz,hg⟩).2,p6,p7⟩
   ·have Q7:∀g,(E.ν j).ownBlock=some g→¬da c Ib g:=fun g hg q=>by
     obtain⟨j',hj',e⟩:=(ym g).1 q
     obtain⟨R',iQ⟩:=hL.mem j' hj'
     have:=h.cI j j' R R' hR iQ g hg e
     subst this;exact hj hj'
    refine⟨⟨vs,bN p1 fun g hg=>eF g (fG h hR hg) (fun e=>(p3 g hg).2.2.2 i _ hB e.symm) (Q7 g hg),p2.mono hM⟩,fun g hg=>?_⟩
    obtain⟨p4,p5,p6,p7⟩:=p3 g hg
    exact⟨p4,NM g (fG h hR hg) p5,p6,p7⟩
  cI:=h.cI
  dL:=h.dL
  bX:=h.bX
  fO:=fun b hb=>by
   obtain⟨p1,p2,p3⟩:=h.fO b hb
   exact⟨Nat.lt_of_lt_of_le p1 hsize,NM b p1 p2,p3⟩
  jj:=C.jf S.g S.go E.O E.M M' w w' h.jj hM hin (fun b o v e=>by
    rcases hn b o v e with q|q
    ·exact .inl q
    ·exact .inr ⟨.inl (Nat.le_trans h.grown q),fun q2=>by have:=(h.fO b q2).1;omega⟩) (fun b hb=>by
    have hb':b<w.heap.size:=by
     rcases hb with⟨q,_⟩|q
     ·exact Nat.lt_of_lt_of_le q h.grown
     ·exact(h.fO b q).1
    refine eF b hb' (fun e=>?_) (fun e=>?_)
    ·subst e
     rcases hb with⟨q1,q2⟩|q
     ·rcases Ez with p|p
      ·omega
      ·exact q2 p
     ·exact I9 q
    ·obtain⟨o1,o3,_⟩:=rY b e
     rcases hb with⟨q1,q2⟩|q
     ·rcases o1 with p|p
      ·omega
      ·exact q2 p
     ·exact o3 q) hos gx hout hsize}
theorem RT.jl(hg:Gd ops S gd rg){f:FuncId}[bM P f]{g:Operand}{xs:Array Operand}{at_:Array TypeId}{args:List AV}{T:TypeId}{c:List Oc}{res:SV}(hp:yY P f args T c res)(i:Nat)(js:List Nat)(hB:S.b i=some ⟨T,aM js c⟩)(hL:Lv S js (rowsOf c))(C7:js.Nodup)
  (wK:args.all AV.oy=true) (hf:S.ev g=.sv (.v (.func (.func f) #[] #[]))) (hargs:lM S xs.toList (args.map (AV.H9 i))) (hd:d<S.n)
  (next:RunT P C ops nd K rest (⟨rg++(af g++xs.toList.flatMap af),[i],js,⟨some (d,.sv res),[],[]⟩⟩::acc) (S.set d (.sv res))):RunT P C ops nd K (⟨some d,.call ⟨.value g,xs,at_⟩,ty,pos,aft,gd⟩::rest) acc S:=by
 refine .inl ⟨_,[i],js,_,?_,next⟩
 rintro S' hn ht hb hr k a w L Q ho ⟨E,h⟩ Jb
 refine aX (C:=C) ho (hg.wanted h (fun s hs=>ht s (List.mem_append_left _ hs)) rfl) ?_
 have mU:a.eval g=.func (.func f) #[] ⟨[]⟩:=by
  have h1:=h.ev g;rw[az (fun _ h=>List.mem_append_right _ (List.mem_append_left _ h)) ht,hf]at h1;exact h1
 have hall:=n9 wK (lM.vals h hargs (fun s hs=>ht s (List.mem_append_right _ (List.mem_append_right _ hs))))
 have cX:S'.b i=some ⟨T,aM js c⟩:=by rw[hb i (by simp)];exact hB
 have C8:Lv S' js (rowsOf c):=hL.congr (fun k hk=>hr k hk)
 obtain⟨us,Cu,qR⟩:=gy h cX C8 C7
 refine aY (C:=C) (by intro c h;cases h) (gp mU) ?_
 rw[List.append_nil]
 refine⟨fun h=>by simp at h,dh ((hp E.M w (E.β i) _ us h.bu Cu hall).mono ?_)⟩
 rintro e w' ⟨v,M',rfl,hM,hnew,hin,hv,xy,hos,gx,hout,hsize,eF⟩
 have h1:=h.uE cX C8 C7 Cu hM hnew hin xy hos gx hout hsize eF
 exact Jb _ _ ⟨_,h1.put (x:=.sv res) (v:=v) hv (by show d<S'.n;omega) cS⟩
theorem RT.Jd(hg:Gd ops S gd rg){f:FuncId}[bM P f]{g:Operand}{xs:Array Operand}{at_:Array TypeId}{args:List AV}{T:TypeId}{c:List Oc}{res:SV}(hp:yY P f (.ptr 1000 0::args) T c res)(i:Nat)(js:List Nat)(hB:S.b i=some ⟨T,aM js c⟩)(hL:Lv S js (rowsOf c))(C7:js.Nodup)
  (wK:args.all AV.oy=true) (hf:S.ev g=.cmp (.OU f) [.box i]) (hargs:lM S xs.toList (args.map (AV.H9 i))) (hd:d<S.n)
  (next:RunT P C ops nd K rest (⟨rg++(af g++xs.toList.flatMap af),[i],js,⟨some (d,.sv res),[],[]⟩⟩::acc) (S.set d (.sv res))):RunT P C ops nd K (⟨some d,.call ⟨.value g,xs,at_⟩,ty,pos,aft,gd⟩::rest) acc S:=by
 refine .inl ⟨_,[i],js,_,?_,next⟩
 rintro S' hn ht hb hr k a w L Q ho ⟨E,h⟩ Jb
 refine aX (C:=C) ho (hg.wanted h (fun s hs=>ht s (List.mem_append_left _ hs)) rfl) ?_
 have mU:a.eval g=.func (.func f) ⟨[.pointer (some ⟨E.β i,0,none⟩)]⟩ #[]:=by
  have h1:=h.ev g;rw[az (fun _ h=>List.mem_append_right _ (List.mem_append_left _ h)) ht,hf]at h1
  obtain⟨vs,h2,h3⟩:=h1
  cases vs with
  |nil=>exact h3.elim
  |cons v vs=>
   cases vs with
   |cons _ _=>exact h3.2.elim
   |nil=>rw[h2,show v=_ from h3.1];rfl
 have hall:bz (me E.M (E.β i)) (.ptr 1000 0::args) (.pointer (some ⟨E.β i,0,none⟩)::xs.toList.map a.eval):=⟨rfl,n9 wK (lM.vals h hargs (fun s hs=>ht s (List.mem_append_right _ (List.mem_append_right _ hs))))⟩
 have cX:S'.b i=some ⟨T,aM js c⟩:=by rw[hb i (by simp)];exact hB
 have C8:Lv S' js (rowsOf c):=hL.congr (fun k hk=>hr k hk)
 obtain⟨us,Cu,qR⟩:=gy h cX C8 C7
 refine aY (C:=C) (by intro c h;cases h) (ED mU) ?_
 refine⟨fun h=>by simp at h,dh ((hp E.M w (E.β i) _ us h.bu Cu hall).mono ?_)⟩
 rintro e w' ⟨v,M',rfl,hM,hnew,hin,hv,xy,hos,gx,hout,hsize,eF⟩
 have h1:=h.uE cX C8 C7 Cu hM hnew hin xy hos gx hout hsize eF
 exact Jb _ _ ⟨_,h1.put (x:=.sv res) (v:=v) hv (by show d<S'.n;omega) cS⟩
end steps
end Go.Fw
namespace Go.Proofs.Ytmiflmkdaeianaa
open Go.Fw
noncomputable def dr(x0:Qr):Option (Zr):=match x0 with|⟨⟨aW,aU⟩,⟨fL,gb⟩⟩=>(iI 1 2).bind fun⟨⟨⟨vW,vX⟩,⟨GJ,GK⟩⟩,aaf⟩=>(ig ⟨⟨aW,aU⟩,⟨fL,gb⟩⟩).bind fun⟨kR,kS⟩=>(aC 1).bind fun⟨mG,mH⟩=>(cg ⟨kR,kS⟩ ⟨mG,mH⟩).bind fun⟨GL,GM⟩=>(cU ⟨kR,kS⟩).bind fun⟨⟨xD,Da⟩,⟨Db,xE⟩⟩=>(iK ⟨⟨aW,aU⟩,⟨fL,gb⟩⟩ ⟨⟨xD,Da⟩,⟨Db,xE⟩⟩).bind fun⟨⟨sW,sX⟩,⟨sY,xF⟩⟩=>(jT ⟨⟨sW,sX⟩,⟨sY,xF⟩⟩ ⟨⟨vW,vX⟩,⟨GJ,GK⟩⟩).bind fun eo=>(some (decide ((eo:Int)=(-1)))).bind fun iH=>(bif iH then some ⟨kR,kS⟩else(some (decide ((eo:Int)=1))).bind fun fR=>(bif fR then some ⟨GL,GM⟩else(aC 2).bind fun⟨gz,oL⟩=>(bU ⟨kR,kS⟩ ⟨gz,oL⟩).bind fun⟨⟨NS,NT⟩,⟨GN,GO⟩,aag⟩=>(b7 ⟨GN,GO⟩).bind fun mE=>(some (decide ((mE:Int)=0))).bind fun nW=>(bif nW then some ⟨kR,kS⟩else some ⟨GL,GM⟩)))
noncomputable def iN(x0:Int):Option (Int×(List En)):=cz (fun(NU:Bool)=>(bif NU then none else some (x0,[]))) fun K3=>(some (decide ((x0:Int)<1))).bind fun x5=>(bif x5 then some true else(some (decide ((64:Int)<x0))).bind fun x8=>some x8).bind fun Ra=>K3 Ra
noncomputable def bA(o0:Int)(o1:List En):Option (Bool):=cz (fun(GP:Bool)=>some GP) fun K3=>(bif false then none else(some (decide ((o0:Int)=0))).bind fun eN=>some eN).bind fun AL=>K3 AL
noncomputable def eJ(o0:Int)(o1:List En)(x1:Int):Option (Bool):=cz (fun(Rb:Bool)=>some Rb) fun K3=>(some (decide ((0:Int)<x1))).bind fun x6=>(bif x6 then(some (decide ((x1:Int)<o0))).bind fun fW=>some fW else some false).bind fun KJ=>K3 KJ
noncomputable def ij(x0:En)(o0:Int)(o1:List En):Option (Int):=match x0 with|⟨aW,aU,fL,⟨gb,Rc⟩⟩=>(eJ o0 o1 aW).bind fun x8=>(some (!x8)).bind fun x9=>(bif x9 then some 1 else cz (fun(GQ:Bool)=>(bif GQ then some 12 else cz (fun(GR:Bool)=>(bif GR then some 1 else some 0)) fun K6=>(some (decide ((fL:Int)<(-1)))).bind fun fX=>(bif fX then some true else(some (decide ((8:Int)≤fL))).bind fun eo=>some eo).bind fun KK=>K6 KK)) fun K3=>(some (decide ((aU:Nat)<1))).bind fun fF=>(bif fF then some true else(some (decide ((4:Nat)<aU))).bind fun ji=>some ji).bind fun KL=>K3 KL)
noncomputable def aT(o0:Int)(o1:List En)(x1:Int)(x2:Nat)(x3:Int)(x4:Qr):Option (Int×(List En)):=match x4 with|⟨⟨Ex,Ey⟩,⟨Rd,Re⟩⟩=>(bA o0 o1).bind fun jh=>(bif jh then some (2,o1)else(ij ⟨x1,x2,x3,⟨false,[]⟩⟩ o0 o1).bind fun iV=>(some (decide ((iV:Int)≠0))).bind fun eo=>(bif eo then some (iV,o1)else(some (o1.length:Int)).bind fun nY=>(some (decide ((1024:Int)≤nY))).bind fun mD=>(bif mD then some (5,o1)else(dr ⟨⟨Ex,Ey⟩,⟨Rd,Re⟩⟩).bind fun⟨gz,oL⟩=>(wH 56 o1 [⟨x1,x2,x3,⟨gz,oL⟩⟩]).bind fun rC=>some (0,rC))))
noncomputable def bL(o0:Int)(o1:List En):Option (List En):=(bA o0 o1).bind fun x7=>(bif x7 then some []else(some (o1.length:Int)).bind fun fF=>(EY 56 fF (⟨0,0,0,⟨false,[]⟩⟩:En)).bind fun fW=>(some (o1.length:Int)).bind fun eT=>(bR (fun(s8:Int×(List En))=>match s8 with|⟨iD,ik⟩=>(show Option ((Int×(List En))⊕((List En)))from(some (decide ((iD:Int)<eT))).bind fun fX=>(bif fX then(pY o1 iD).bind fun iV=>(o1[iV]?).bind fun⟨oM,oN,oO,⟨sZ,AM⟩⟩=>(cg ⟨sZ,AM⟩ ⟨false,[]⟩).bind fun⟨iB,iC⟩=>(pY ik iD).bind fun iA=>(stM ik iA ⟨oM,oN,oO,⟨iB,iC⟩⟩).bind fun uy=>(some (IntKind.i64.wrap (iD+1))).bind fun kO=>some (.inl (kO,uy))else some (.inr ik)))) (0,fW)).bind fun ey=>some ey)
noncomputable def fu(o0:Int)(o1:List En):Option (List Zr):=(bA o0 o1).bind fun x7=>(bif x7 then some []else(EY 32 o0 (⟨false,[]⟩:Zr)).bind fun fF=>(some (o1.length:Int)).bind fun gi=>(bR (fun(Ai:Int×(List Zr))=>match Ai with|⟨Dc,v7⟩=>(show Option ((Int×(List Zr))⊕((List Zr)))from(some (decide ((Dc:Int)<gi))).bind fun mB=>(bif mB then(pY o1 Dc).bind fun fX=>(o1[fX]?).bind fun⟨xD,Da,Db,⟨xE,GS⟩⟩=>(pY v7 xD).bind fun lC=>(v7[lC]?).bind fun⟨tc,td⟩=>(cg ⟨tc,td⟩ ⟨xE,GS⟩).bind fun⟨jL,iW⟩=>(pY v7 xD).bind fun kO=>(stM v7 kO ⟨jL,iW⟩).bind fun GU=>(pY GU 0).bind fun tQ=>(GU[tQ]?).bind fun⟨mI,mJ⟩=>(gQ ⟨mI,mJ⟩ ⟨xE,GS⟩).bind fun⟨kg,kj⟩=>(pY GU 0).bind fun wI=>(stM GU wI ⟨kg,kj⟩).bind fun l14=>(some (IntKind.i64.wrap (Dc+1))).bind fun rC=>some (.inl (rC,l14))else some (.inr v7)))) (0,fF)).bind fun v8=>some v8)
noncomputable def fN(o0:Int)(o1:List En)(x1:Nat):Option (Zr):=(bA o0 o1).bind fun eN=>(bif eN then some ⟨false,[]⟩else(some (o1.length:Int)).bind fun ji=>(bR (fun(s8:Int×Bool×(List Nat))=>match s8 with|⟨AN,r6,r7⟩=>(show Option ((Int×Bool×(List Nat))⊕(Bool×(List Nat)))from(some (decide ((AN:Int)<ji))).bind fun eT=>(bif eT then(pY o1 AN).bind fun mB=>(o1[mB]?).bind fun⟨xA,sS,xB,⟨vQ,KM⟩⟩=>(some (decide ((sS:Nat)=x1))).bind fun eo=>cz (fun(Pm:Bool×(List Nat))=>match Pm with|⟨Cx,Cy⟩=>(some (IntKind.i64.wrap (AN+1))).bind fun fR=>some (.inl (fR,Cx,Cy))) fun K10=>(bif eo then(cg ⟨r6,r7⟩ ⟨vQ,KM⟩).bind fun⟨GV,GW⟩=>K10 (GV,GW)else K10 (r6,r7))else some (.inr (r6,r7))))) (0,false,[])).bind fun e8=>match e8 with|⟨GX,GY⟩=>some ⟨GX,GY⟩)
end Go.Proofs.Ytmiflmkdaeianaa
namespace Go.Proofs.Ytmiflmkdaeianaa
open Go.Fw Go.Fw.Z Go.RowKit
instance:v5 Try.prog 15:=⟨by kernel_rfl⟩
instance:v5 Try.prog 16:=⟨by kernel_rfl⟩
instance:v5 Try.prog 17:=⟨by kernel_rfl⟩
instance:v5 Try.prog 35:=⟨by kernel_rfl⟩
instance:v5 Try.prog 146:=⟨by kernel_rfl⟩
theorem gA{x0:Qr}{r:Zr}(h:dr x0=some r):Pure Try.prog 12 [.agg (eQ x0)] (.agg (eZ r)):=by
 obtain⟨⟨aW,aU⟩,⟨fL,gb⟩⟩:=x0
 refine aA Try.func12 rfl (Nat.le_of_ble_eq_true rfl) (fun eV M vs hvs=>?_)
 unfold dr at h
 refine sr<|bx rfl<|al (cs:=[.v (.bool false),slc 1 (List.map aj [])]) (by exact⟨SV.aa _,imp_nil,trivial⟩) rfl<|dn<|sr ?_
 obtain⟨⟨⟨⟨vW,vX⟩,⟨GJ,GK⟩⟩,aaf⟩,lU,h⟩:=bS h
 refine cl (sV lU) ⟨rfl,rfl,trivial⟩<|mv rfl<|ex rfl rfl<|ex rfl rfl<|al (cs:=[.v (.bool false),slc 1 (List.map aj []),.v (.bool false),slc 1 (List.map aj [])]) (by exact⟨SV.aa _,imp_nil,SV.aa _,imp_nil,trivial⟩) rfl<|so rfl rfl rfl<|ag rfl<|dn<|sr<|ld rfl rfl (.cons rfl (.cons rfl (.cons rfl (.cons rfl (.nil))))) ?_
 obtain⟨⟨kR,kS⟩,pA,h⟩:=bS h
 refine cl (w7 pA) ⟨rfl,trivial⟩<|al (cs:=[.v (.bool false),slc 1 (List.map aj [])]) (by exact⟨SV.aa _,imp_nil,trivial⟩) rfl<|so rfl rfl rfl<|dn<|qq<|ak mixed<|ld rfl rfl (.cons rfl (.cons rfl (.nil))) ?_
 obtain⟨⟨mG,mH⟩,kQ,h⟩:=bS h
 refine cl (bj kQ) ⟨rfl,trivial⟩ ?_
 obtain⟨⟨GL,GM⟩,jx,h⟩:=bS h
 refine cl (eX jx) ⟨rfl,rfl,trivial⟩<|al (cs:=[.v (.bool false),slc 1 (List.map aj [])]) (by exact⟨SV.aa _,imp_nil,trivial⟩) rfl<|so rfl rfl rfl ?_
 refine RT.done ⟨by kernel_rfl,?_⟩
 refine ae.n<|qq<|qq<|ak mixed<|ld rfl rfl (.cons rfl (.cons rfl (.cons rfl (.cons rfl (.nil)))))<|ld rfl rfl (.cons rfl (.cons rfl (.nil))) ?_
 obtain⟨⟨⟨xD,Da⟩,⟨Db,xE⟩⟩,pB,h⟩:=bS h
 refine cl (ow pB) ⟨rfl,trivial⟩ ?_
 obtain⟨⟨⟨sW,sX⟩,⟨sY,xF⟩⟩,nj,h⟩:=bS h
 refine cl (AD nj) ⟨rfl,rfl,trivial⟩<|ld rfl rfl (.cons rfl (.cons rfl (.cons rfl (.cons rfl (.nil)))))<|bE h fun eo lF h=>cl (AE lF) ⟨rfl,rfl,trivial⟩ ?_
 refine RT.done ⟨by kernel_rfl,?_⟩
 refine ae.n<|ax<|sr<|lE h fun iH mN h=>eq _ rfl rfl (o6 (p:=eo) (q:=(-1)) mN)<|ag rfl<|dn ?_
 cases iH
 refine cF<|sr<|lE (F h) fun fR jZ h=>eq _ rfl rfl (o6 (p:=eo) (q:=1) jZ)<|ag rfl<|dn ?_
 cases fR
 refine cF<|aG<|aF.n<|ae.n<|qq<|qq<|ak mixed<|ld rfl rfl (.cons rfl (.cons rfl (.nil))) ?_
 obtain⟨⟨gz,oL⟩,oI,h⟩:=bS (F h)
 refine cl (bj oI) ⟨rfl,trivial⟩ ?_
 obtain⟨⟨⟨NS,NT⟩,⟨GN,GO⟩,aag⟩,nm,h⟩:=bS h
 refine cl (gH nm) ⟨rfl,rfl,trivial⟩<|mv rfl<|ex rfl rfl<|ex rfl rfl<|ex rfl rfl<|al (cs:=[.v (.bool false),slc 1 (List.map aj [])]) (by exact⟨SV.aa _,imp_nil,trivial⟩) rfl<|al (cs:=[.v (.bool false),slc 1 (List.map aj [])]) (by exact⟨SV.aa _,imp_nil,trivial⟩) rfl<|so rfl rfl rfl<|so rfl rfl rfl<|ag rfl ?_
 refine RT.done ⟨by kernel_rfl,?_⟩
 refine ae.n<|sr<|ld rfl rfl (.cons rfl (.cons rfl (.nil)))<|bE h fun mE Ce h=>cl (ep Ce) ⟨rfl,trivial⟩<|lE h fun nW sN h=>eq _ rfl rfl (o6 (p:=mE) (q:=0) sN)<|dn ?_
 cases nW
 refine fs<|sr<|ld rfl rfl (.cons rfl (.cons rfl (.nil)))<|so rfl rfl rfl<|dn<|aq ?_
 obtain rfl:=O (F h)
 exact RZ (.agg rfl rfl (.cons rfl (.cons rfl (.nil))) rfl (.nil))
 refine cT<|sr<|ld rfl rfl (.cons rfl (.cons rfl (.nil)))<|so rfl rfl rfl<|dn<|aq<|ae.r ?_
 obtain rfl:=O (V h)
 exact RZ (.agg rfl rfl (.cons rfl (.cons rfl (.nil))) rfl (.nil))
 refine cT<|sr<|ld rfl rfl (.cons rfl (.cons rfl (.nil)))<|so rfl rfl rfl<|dn<|aq<|aF.r<|ae.r ?_
 obtain rfl:=O (V h)
 exact RZ (.agg rfl rfl (.cons rfl (.cons rfl (.nil))) rfl (.nil))
 refine cT<|sr<|ld rfl rfl (.cons rfl (.cons rfl (.nil)))<|so rfl rfl rfl<|dn<|aq<|aF.r<|ae.r ?_
 obtain rfl:=O (V h)
 exact RZ (.agg rfl rfl (.cons rfl (.cons rfl (.nil))) rfl (.nil))
theorem tf{x0:Int}{r:Int×(List En)}(h:iN x0=some r):EE Try.prog 28 [.v (.int .i64 x0)] true [.v (.int .i64 0)] 66 [.s (.v (.int .i64 r.1)),.r (TR 43 5 dj r.2)]:=by
 refine AJ (t1:=2) (t2:=3) Try.func28 rfl (Nat.le_of_ble_eq_true rfl) rfl (fun eV M vs hvs=>?_)
 unfold iN at h
 refine sr<|ag rfl<|ag rfl<|dn<|qq<|qq ?_
 refine aN h (fun j3=>AS.cm 13 [(0,.sv (.v (.int .i64 x0))),(9,.sv (.v (.bool j3)))] [] []) (fun h=>?_) (fun NU h=>?_)
 refine ah<|mv rfl<|lE h fun x5 h5 h=>ls _ rfl rfl h5<|mv rfl<|bE h fun Ra oJ h=>?_
 cases x5
 refine gm rfl<|lE (F oJ) fun x8 h8 oJ=>gg _ rfl rfl h8 ?_
 obtain rfl:=O oJ
 exact pF rfl<|dn<|⟨x8,h,wR []⟩
 obtain rfl:=O (V oJ)
 exact ww<|ww<|pT rfl<|dn<|⟨true,h,wR []⟩
 try dsimp only
 refine ae.n ?_
 cases NU
 refine fs<|sr<|mv rfl<|bI (cs:=[_,_]) (cs':=[.v (.int .i64 x0),.v (.slice none 0 0)]) (.one rfl (.nil)) ⟨SV.aa _,SV.aa _,trivial⟩<|bx rfl<|an (s:=.ptr _ _) rfl<|ag rfl<|dn<|bH (Ea 12 1 302 43 5 rfl rfl rfl T)<|aq ?_
 obtain rfl:=O (F h)
 exact⟨.inr rfl,12,[302],rfl,rfl,rfl,⟨rfl,trivial⟩,by decide⟩
 refine cT<|sr<|ag rfl<|ag rfl<|dn<|aq<|ae.r ?_
 replace h:=V h
 cases h
theorem dP{o0:Int}{o1:List En}{r:Bool}(h:bA o0 o1=some r):yY Try.prog 50 [.ptr 1000 0] 66 [.s (.v (.int .i64 o0)),.r (TR 43 5 dj o1)] (.v (.bool r)):=by
 refine iM [1001] Try.func50 rfl (Nat.le_of_ble_eq_true rfl) rfl (by decide) rfl rfl ⟨⟨_,rfl⟩,trivial,trivial⟩ (fun eV M β us=>?_)
 unfold bA at h
 refine sr<|ag rfl<|dn<|qq ?_
 refine aN h (fun j3=>AS.cm 12 [(2,.sv (.v (.bool j3)))] [(1000,⟨66,[.sv (.v (.int .i64 o0)),.row 1001]⟩)] [(1001,TR 43 5 dj o1)]) (fun h=>?_) (fun GP h=>?_)
 refine ah<|mo (s:=.ptr _ _) rfl<|RT.GG .none rfl rfl T<|mv rfl<|bE h fun AL oJ h=>RT.move (.some rfl rfl) (s:=.ptr _ _) rfl T<|RT.dK (.some rfl rfl) rfl T<|RT.fieldAddr (.some rfl rfl) rfl T rfl<|RT.Mk (.some rfl rfl) rfl rfl rfl T<|lE (F oJ) fun eN gL oJ=>BU _ rfl rfl (o6 (p:=o0) (q:=0) gL) ?_
 obtain rfl:=O oJ
 exact pF rfl<|ag rfl<|dn<|⟨eN,h,wR []⟩
 try dsimp only
 refine ae.n<|aq ?_
 obtain rfl:=O h
 exact⟨.inr rfl,cE (.tmp rfl (.nil)) (SV.aa _),rfl,⟨rfl,trivial⟩⟩
theorem qV{o0:Int}{o1:List En}{x1:Int}{r:Bool}(h:eJ o0 o1 x1=some r):yY Try.prog 58 [.ptr 1000 0,.sv (.v (.int .i64 x1))] 66 [.s (.v (.int .i64 o0)),.r (TR 43 5 dj o1)] (.v (.bool r)):=by
 refine iM [1001] Try.func58 rfl (Nat.le_of_ble_eq_true rfl) rfl (by decide) rfl rfl ⟨⟨_,rfl⟩,trivial,trivial⟩ (fun eV M β us=>?_)
 unfold eJ at h
 refine sr<|ag rfl<|dn<|qq ?_
 refine aN h (fun j3=>AS.cm 15 [(4,.sv (.v (.bool j3)))] [(1000,⟨66,[.sv (.v (.int .i64 o0)),.row 1001]⟩)] [(1001,TR 43 5 dj o1)]) (fun h=>?_) (fun Rb h=>?_)
 refine ah<|mv rfl<|lE h fun x6 h6 h=>gt _ rfl rfl h6<|mv rfl<|bE h fun KJ oJ h=>?_
 cases x6
 obtain rfl:=O (F oJ)
 exact ww<|ww<|ww<|ww<|ww<|ww<|pF rfl<|ag rfl<|dn<|⟨false,h,wR []⟩
 refine gm rfl<|RT.move (.some rfl rfl) (s:=.ptr _ _) rfl T<|RT.dK (.some rfl rfl) rfl T<|RT.fieldAddr (.some rfl rfl) rfl T rfl<|RT.Mk (.some rfl rfl) rfl rfl rfl T<|lE (V oJ) fun fW jw oJ=>RT.lss (.some rfl rfl) _ rfl rfl T jw ?_
 obtain rfl:=O oJ
 exact pT rfl<|ag rfl<|dn<|⟨fW,h,wR []⟩
 try dsimp only
 refine ae.n<|aq ?_
 obtain rfl:=O h
 exact⟨.inr rfl,cE (.tmp rfl (.nil)) (SV.aa _),rfl,⟨rfl,trivial⟩⟩
theorem w8{x0:En}{o0:Int}{o1:List En}{r:Int}(h:ij x0 o0 o1=some r):yY Try.prog 57 [.sv (.agg (dj x0)),.cmp (.OU 58) [.box 1000]] 66 [.s (.v (.int .i64 o0)),.r (TR 43 5 dj o1)] (.v (.int .i64 r)):=by
 obtain⟨aW,aU,fL,⟨gb,Rc⟩⟩:=x0
 refine iM [1001] Try.func57 rfl (Nat.le_of_ble_eq_true rfl) rfl (by decide) rfl rfl ⟨⟨_,rfl⟩,trivial,trivial⟩ (fun eV M β us=>?_)
 unfold ij at h
 refine sr<|bx rfl<|ag rfl<|dn<|qq<|sr<|mo (s:=.cmp _ _) rfl<|fa rfl rfl<|lV rfl rfl rfl<|bE h fun x8 h8 h=>RT.Jd .none (qV h8) 1000 [1001] rfl ⟨rfl,trivial⟩ (by decide) rfl rfl (.cons rfl (.nil)) T<|lE h fun x9 h9 h=>nt rfl _ h9<|dn ?_
 cases x9
 refine fs<|qq<|qq ?_
 refine aN (F h) (fun j3=>AS.cm 26 [(2,.ptr 2 0),(17,.sv (.v (.bool j3)))] [(1000,⟨66,[.sv (.v (.int .i64 o0)),.row 1001]⟩),(2,⟨43,[.sv (.v (.int .i64 aW)),.sv (.v (.int .u8 ((aU:Nat):Int))),.sv (.v (.int .i64 fL)),.sv (.v (.bool gb)),.sv (slc 1 (List.map aj Rc))]⟩)] [(1001,TR 43 5 dj o1)]) (fun h=>?_) (fun GQ h=>?_)
 refine ah<|fa rfl rfl<|lV rfl rfl rfl<|lE h fun fF iY h=>ls _ rfl rfl (O8 (p:=aU) (q:=1) iY)<|mv rfl<|bE h fun KL I5 h=>?_
 cases fF
 refine RT.fieldAddr (.some rfl rfl) rfl T rfl<|RT.Mk (.some rfl rfl) rfl rfl rfl T<|lE (F I5) fun ji nk I5=>gg _ rfl rfl (O8 (p:=4) (q:=aU) nk) ?_
 obtain rfl:=O I5
 exact pF rfl<|dn<|⟨ji,h,wR []⟩
 obtain rfl:=O (V I5)
 exact ww<|ww<|ww<|pT rfl<|dn<|⟨true,h,wR []⟩
 try dsimp only
 refine ae.n ?_
 cases GQ
 refine fs<|qq<|qq ?_
 refine aN (F h) (fun j6=>AS.cm 26 [(25,.sv (.v (.bool j6)))] [(1000,⟨66,[.sv (.v (.int .i64 o0)),.row 1001]⟩)] [(1001,TR 43 5 dj o1)]) (fun h=>?_) (fun GR h=>?_)
 refine ah<|fa rfl rfl<|lV rfl rfl rfl<|lE h fun fX kE h=>ls _ rfl rfl kE<|mv rfl<|bE h fun KK VU h=>?_
 cases fX
 refine RT.fieldAddr (.some rfl rfl) rfl T rfl<|RT.Mk (.some rfl rfl) rfl rfl rfl T<|lE (F VU) fun eo lF VU=>RT.geq (.some rfl rfl) _ rfl rfl T lF ?_
 obtain rfl:=O VU
 exact pF rfl<|dn<|⟨eo,h,wR []⟩
 obtain rfl:=O (V VU)
 exact ww<|ww<|ww<|pT rfl<|dn<|⟨true,h,wR []⟩
 try dsimp only
 refine ae.n ?_
 cases GR
 refine fs<|sr<|ag rfl<|dn<|aq ?_
 obtain rfl:=O (F h)
 exact⟨.inr rfl,cE (.tmp rfl (.nil)) (SV.aa _),rfl,⟨rfl,trivial⟩⟩
 refine cT<|sr<|ag rfl<|dn<|aq<|ae.r ?_
 obtain rfl:=O (V h)
 exact⟨.inr rfl,cE (.tmp rfl (.nil)) (SV.aa _),rfl,⟨rfl,trivial⟩⟩
 refine cT<|sr<|ag rfl<|dn<|aq<|ae.r ?_
 obtain rfl:=O (V h)
 exact⟨.inr rfl,cE (.tmp rfl (.nil)) (SV.aa _),rfl,⟨rfl,trivial⟩⟩
 refine cT<|sr<|ag rfl<|dn<|aq<|ae.r ?_
 obtain rfl:=O (V h)
 exact⟨.inr rfl,cE (.tmp rfl (.nil)) (SV.aa _),rfl,⟨rfl,trivial⟩⟩
theorem bP{o0:Int}{o1:List En}{x1:Int}{x2:Nat}{x3:Int}{x4:Qr}{r:Int×(List En)}(h:aT o0 o1 x1 x2 x3 x4=some r):NN Try.prog 25 [.ptr 1000 0,.sv (.v (.int .i64 x1)),.sv (.v (.int .u8 ((x2:Nat):Int))),.sv (.v (.int .i64 x3)),.sv (.agg (eQ x4))] 66 [.s (.v (.int .i64 o0)),.r (TR 43 5 dj o1)] (.v (.int .i64 r.1)) [.s (.v (.int .i64 o0)),.r (TR 43 5 dj r.2)]:=by
 obtain⟨⟨Ex,Ey⟩,⟨Rd,Re⟩⟩:=x4
 refine Ct [1001] Try.func25 rfl (Nat.le_of_ble_eq_true rfl) rfl (by decide) rfl (fun eV M β us=>?_)
 unfold aT at h
 refine sr<|bx rfl<|ag rfl<|dn<|qq<|sr<|mo (s:=.ptr _ _) rfl<|bE h fun jh n7 h=>RT.jl .none (dP n7) 1000 [1001] rfl ⟨rfl,trivial⟩ (by decide) rfl rfl (.cons rfl (.nil)) T<|dn ?_
 cases jh
 refine fs<|sr<|mv rfl<|mv rfl<|mv rfl<|bI (cs:=[_,_,_,_,_]) (cs':=[.v (.int .i64 x1),.v (.int .u8 ((x2:Nat):Int)),.v (.int .i64 x3),.v (.bool false),slc 1 (List.map aj [])]) (.one rfl (.one rfl (.one rfl (.nil)))) ⟨SV.aa _,SV.aa _,SV.aa _,SV.aa _,imp_nil,trivial⟩<|al (cs:=[.v (.int .i64 0),.v (.int .u8 ((0:Nat):Int)),.v (.int .i64 0),.v (.bool false),slc 1 (List.map aj [])]) (by exact⟨SV.aa _,SV.aa _,SV.aa _,SV.aa _,imp_nil,trivial⟩) rfl ?_
 refine so rfl rfl rfl<|dn<|qq<|sr<|ld rfl rfl (.cons rfl (.cons rfl (.cons rfl (.cons rfl (.cons rfl (.nil))))))<|mo (s:=.ptr _ _) rfl<|RT.Jc .none rfl T<|bE (F h) fun iV nj h=>RT.jl .none (w8 nj) 1000 [1001] rfl ⟨rfl,trivial⟩ (by decide) rfl rfl (.cons rfl (.cons rfl (.nil))) T<|ag rfl<|dn<|sr<|mv rfl<|lE h fun eo lF h=>ne _ rfl rfl (IE (p:=iV) (q:=0) lF)<|dn ?_
 cases eo
 refine fs<|qq<|sr<|mo (s:=.ptr _ _) rfl<|RT.dK .none rfl T<|fa rfl rfl<|RT.fH .none (s:=.row _) rfl rfl rfl T<|lE (F h) fun nY vJ h=>lL rfl rfl vJ<|lE h fun mD wJ h=>ge _ rfl rfl wJ<|dn ?_
 cases mD
 refine fs<|sr<|ld rfl rfl (.cons rfl (.cons rfl (.cons rfl (.cons rfl (.nil))))) ?_
 obtain⟨⟨gz,oL⟩,oI,h⟩:=bS (F h)
 refine cl (gA oI) ⟨rfl,trivial⟩<|fa rfl rfl<|RT.uS (cells:=[_,_,_,_,_]) .none rfl rfl rfl rfl T rfl<|dn<|qq<|ak mixed<|mo (s:=.ptr _ _) rfl<|mo (s:=.ptr _ _) rfl<|RT.dK .none rfl T<|fa rfl rfl<|RT.fH .none (s:=.row _) rfl rfl rfl T<|ld rfl rfl (.cons rfl (.cons rfl (.cons rfl (.cons rfl (.cons rfl (.nil))))))<|bl (l:=[⟨x1,x2,x3,⟨gz,oL⟩⟩]) (e:=dj) (.agg rfl (.nil)) rfl rfl rfl rfl rfl rfl ?_
 refine bE h fun rC Ar h=>aR (k:=[⟨x1,x2,x3,⟨gz,oL⟩⟩]) (e:=dj) rfl rfl rfl Ar<|RT.dK .none rfl T<|fa rfl rfl<|RT.lJ (cells:=[_,_]) .none rfl rfl rfl rfl T rfl ?_
 refine RT.done ⟨by kernel_rfl,?_⟩
 refine ae.n<|sr<|ag rfl<|dn<|aq ?_
 obtain rfl:=O h
 exact⟨.inr rfl,cE (.tmp rfl (.nil)) (SV.aa _),[42],rfl,⟨rfl,trivial⟩,by decide⟩
 refine cT<|sr<|ag rfl<|dn<|aq<|ae.r ?_
 obtain rfl:=O (V h)
 exact⟨.inr rfl,cE (.tmp rfl (.nil)) (SV.aa _),[1001],rfl,⟨rfl,trivial⟩,by decide⟩
 refine cT<|sr<|mv rfl<|ag rfl<|dn<|aq<|ae.r ?_
 obtain rfl:=O (V h)
 exact⟨.inr rfl,cE (.tmp rfl (.nil)) (SV.aa _),[1001],rfl,⟨rfl,trivial⟩,by decide⟩
 refine cT<|sr<|ag rfl<|dn<|aq<|ae.r ?_
 obtain rfl:=O (V h)
 exact⟨.inr rfl,cE (.tmp rfl (.nil)) (SV.aa _),[1001],rfl,⟨rfl,trivial⟩,by decide⟩
theorem ee{o0:Int}{o1:List En}{r:List En}(h:bL o0 o1=some r):yY Try.prog 17 [.ptr 1000 0] 66 [.s (.v (.int .i64 o0)),.r (TR 43 5 dj o1)] (slc 5 (List.map dj r)):=by
 refine iM [1001] Try.func17 rfl (Nat.le_of_ble_eq_true rfl) rfl (by decide) rfl rfl ⟨⟨_,rfl⟩,trivial,trivial⟩ (fun eV M β us=>?_)
 unfold bL at h
 refine sr<|aI rfl (imp_nil (n:=5) (e:=dj))<|dn<|qq<|sr<|mo (s:=.ptr _ _) rfl<|bE h fun x7 h7 h=>RT.jl .none (dP h7) 1000 [1001] rfl ⟨rfl,trivial⟩ (by decide) rfl rfl (.cons rfl (.nil)) T<|dn ?_
 cases x7
 refine fs<|sr<|mo (s:=.ptr _ _) rfl<|RT.dK .none rfl T<|fa rfl rfl<|RT.fH .none (s:=.row _) rfl rfl rfl T<|lE (F h) fun fF iY h=>lL rfl rfl iY<|bE h fun fW jw h=>RT.sK (n:=5) (e:=dj) .none rfl rfl T rfl T (by rfl) (by decide) (by exact⟨SV.aa _,SV.aa _,SV.aa _,SV.aa _,imp_nil,trivial⟩) jw<|an (s:=.row _) rfl<|dn<|qq<|sr<|mo (s:=.ptr _ _) rfl<|RT.dK .none rfl T ?_
 refine fa rfl rfl<|RT.fH .none (s:=.row _) rfl rfl rfl T<|lE h fun eT jx h=>lL rfl rfl jx<|mv rfl<|dn<|bE h fun e8 As rU=>?_
 refine bg (fun(ey:(List En))=>AS.cm 35 [(3,.row 13)] [(1000,⟨66,[.sv (.v (.int .i64 o0)),.row 1001]⟩)] [(13,TR 43 5 dj ey),(1001,TR 43 5 dj o1)]) (fun ey=>ey=e8) ?_ (fun ey At=>?_)
 refine ax ?_
 refine bh As (fun s8=>AS.cm 35 [(3,.row 13),(17,.row 1001),(18,.sv (.v (.int .i64 eT))),(19,.sv (.v (.int .i64 s8.1)))] [(1000,⟨66,[.sv (.v (.int .i64 o0)),.row 1001]⟩)] [(13,TR 43 5 dj s8.2),(1001,TR 43 5 dj o1)]) (wR []) (fun s8 y8 G8 h Au Av=>?_)
 obtain⟨iD,ik⟩:=s8
 try dsimp only
 refine sr<|lE h fun fX kE h=>ls _ rfl rfl kE<|dn<|qq ?_
 cases fX
 refine cF<|bq<|ae.x<|ae.x<|aF.x<|ae.n ?_
 obtain rfl:=O (F h)
 exact⟨ik,Av _ rfl,wR []⟩
 refine cT<|aG<|ae.n<|qq<|ax<|sr<|mv rfl<|bE (V h) fun iV nj h=>iR rfl rfl rfl nj ?_
 obtain⟨⟨oM,oN,oO,⟨sZ,AM⟩⟩,mM,h⟩:=bS h
 refine lA rfl rfl mM<|al (cs:=[.v (.int .i64 0),.v (.int .u8 ((0:Nat):Int)),.v (.int .i64 0),.v (.bool false),slc 1 (List.map aj [])]) (by exact⟨SV.aa _,SV.aa _,SV.aa _,SV.aa _,imp_nil,trivial⟩) rfl<|ag rfl<|so rfl rfl rfl<|dn<|sr<|fa rfl rfl<|ld rfl rfl (.cons rfl (.cons rfl (.nil)))<|bI (cs:=[_,_]) (cs':=[.v (.bool false),slc 1 (List.map aj [])]) (.nil) ⟨SV.aa _,imp_nil,trivial⟩ ?_
 obtain⟨⟨iB,iC⟩,n8,h⟩:=bS h
 refine cl (eX n8) ⟨rfl,rfl,trivial⟩<|fa rfl rfl<|RT.uS (cells:=[_,_,_,_,_]) .none rfl rfl rfl rfl T rfl<|dn<|ah<|mo (s:=.row _) rfl<|mv rfl<|ld rfl rfl (.cons rfl (.cons rfl (.cons rfl (.cons rfl (.cons rfl (.nil))))))<|bE h fun iA lD h=>iR rfl rfl rfl lD<|bE h fun uy qG h=>sA ⟨oM,oN,oO,⟨iB,iC⟩⟩ rfl rfl rfl qG<|RT.done<|aF.n<|ae.n<|ah<|lE h fun kO oI h=>ad _ rfl rfl oI<|mv rfl ?_
 refine RT.done ?_
 obtain rfl:=O h
 exact ae.n ⟨(kO,uy),Au _ rfl,wR []⟩
 subst At
 try dsimp only
 refine ae.n<|sr<|mo (s:=.row _) rfl<|an (s:=.row _) rfl<|dn<|bH (dH (i:=13) (E1:=43) (n:=5) (e:=dj) (l:=ey) rfl)<|aq ?_
 obtain rfl:=O rU
 exact⟨.inr rfl,cE (.tmp rfl (.nil)) (SV.aa _),rfl,⟨rfl,trivial⟩⟩
 refine cT<|sr<|aI rfl (imp_nil (n:=5) (e:=dj))<|dn<|aq<|ae.r ?_
 obtain rfl:=O (V h)
 exact⟨.inr rfl,cE (.tmp rfl (.nil)) (SV.aa _),rfl,⟨rfl,trivial⟩⟩
theorem r8{o0:Int}{o1:List En}{r:List Zr}(h:fu o0 o1=some r):yY Try.prog 16 [.ptr 1000 0] 66 [.s (.v (.int .i64 o0)),.r (TR 43 5 dj o1)] (slc 2 (List.map eZ r)):=by
 refine iM [1001] Try.func16 rfl (Nat.le_of_ble_eq_true rfl) rfl (by decide) rfl rfl ⟨⟨_,rfl⟩,trivial,trivial⟩ (fun eV M β us=>?_)
 unfold fu at h
 refine sr<|aI rfl (imp_nil (n:=2) (e:=eZ))<|dn<|qq<|sr<|mo (s:=.ptr _ _) rfl<|bE h fun x7 h7 h=>RT.jl .none (dP h7) 1000 [1001] rfl ⟨rfl,trivial⟩ (by decide) rfl rfl (.cons rfl (.nil)) T<|dn ?_
 cases x7
 refine fs<|sr<|mo (s:=.ptr _ _) rfl<|RT.dK .none rfl T<|fa rfl rfl<|lV rfl rfl rfl<|bE (F h) fun fF iY h=>RT.sK (n:=2) (e:=eZ) .none rfl rfl T rfl T (by rfl) (by decide) (by exact⟨SV.aa _,imp_nil,trivial⟩) iY<|an (s:=.row _) rfl<|dn<|qq<|sr<|mo (s:=.ptr _ _) rfl<|RT.dK .none rfl T<|fa rfl rfl<|RT.fH .none (s:=.row _) rfl rfl rfl T<|lE h fun gi kQ h=>lL rfl rfl kQ ?_
 refine mv rfl<|dn<|bE h fun M8 B7 yG=>?_
 refine bg (fun(v8:(List Zr))=>AS.cm 44 [(3,.row 12)] [(1000,⟨66,[.sv (.v (.int .i64 o0)),.row 1001]⟩)] [(12,TR 24 2 eZ v8),(1001,TR 43 5 dj o1)]) (fun v8=>v8=M8) ?_ (fun v8 B8=>?_)
 refine ax ?_
 refine bh B7 (fun Ai=>AS.cm 44 [(3,.row 12),(16,.row 1001),(17,.sv (.v (.int .i64 gi))),(18,.sv (.v (.int .i64 Ai.1)))] [(1000,⟨66,[.sv (.v (.int .i64 o0)),.row 1001]⟩)] [(12,TR 24 2 eZ Ai.2),(1001,TR 43 5 dj o1)]) (wR []) (fun Ai YG YH h B9 Ap=>?_)
 obtain⟨Dc,v7⟩:=Ai
 try dsimp only
 refine sr<|lE h fun mB pz h=>ls _ rfl rfl pz<|dn<|qq ?_
 cases mB
 refine cF<|bq<|ae.x<|ae.x<|aF.x<|ae.n ?_
 obtain rfl:=O (F h)
 exact⟨v7,Ap _ rfl,wR []⟩
 refine cT<|aG<|ae.n<|qq<|ax<|sr<|bE (V h) fun fX kE h=>iR rfl rfl rfl kE ?_
 obtain⟨⟨xD,Da,Db,⟨xE,GS⟩⟩,pB,h⟩:=bS h
 refine lA rfl rfl pB<|al (cs:=[.v (.int .i64 0),.v (.int .u8 ((0:Nat):Int)),.v (.int .i64 0),.v (.bool false),slc 1 (List.map aj [])]) (by exact⟨SV.aa _,SV.aa _,SV.aa _,SV.aa _,imp_nil,trivial⟩) rfl<|so rfl rfl rfl<|dn<|qq<|ak mixed<|mo (s:=.row _) rfl<|fa rfl rfl<|lV rfl rfl rfl<|mo (s:=.row _) rfl<|fa rfl rfl<|lV rfl rfl rfl<|bE h fun lC vI h=>iR rfl rfl rfl vI ?_
 obtain⟨⟨tc,td⟩,jZ,h⟩:=bS h
 refine lA rfl rfl jZ<|fa rfl rfl<|ld rfl rfl (.cons rfl (.cons rfl (.nil))) ?_
 obtain⟨⟨jL,iW⟩,lD,h⟩:=bS h
 refine cl (eX lD) ⟨rfl,rfl,trivial⟩<|bE h fun kO oI h=>iR rfl rfl rfl oI<|bE h fun GU Rf h=>sA ⟨jL,iW⟩ rfl rfl rfl Rf ?_
 refine RT.done ⟨by kernel_rfl,?_⟩
 refine ae.n<|ak mixed<|mo (s:=.row _) rfl<|mo (s:=.row _) rfl<|bE h fun tQ vK h=>iR rfl rfl rfl vK ?_
 obtain⟨⟨mI,mJ⟩,yH,h⟩:=bS h
 refine lA rfl rfl yH<|fa rfl rfl<|ld rfl rfl (.cons rfl (.cons rfl (.nil))) ?_
 obtain⟨⟨kg,kj⟩,sN,h⟩:=bS h
 refine cl (qI sN) ⟨rfl,rfl,trivial⟩<|bE h fun wI Cd h=>iR rfl rfl rfl Cd<|bE h fun l14 Rg h=>sA ⟨kg,kj⟩ rfl rfl rfl Rg ?_
 refine RT.done ⟨by kernel_rfl,?_⟩
 refine aF.n<|ae.n<|ah<|lE h fun rC Ar h=>ad _ rfl rfl Ar<|mv rfl<|RT.done ?_
 obtain rfl:=O h
 exact ae.n ⟨(rC,l14),B9 _ rfl,wR []⟩
 subst B8
 try dsimp only
 refine ae.n<|sr<|mo (s:=.row _) rfl<|an (s:=.row _) rfl<|dn<|bH (dH (i:=12) (E1:=24) (n:=2) (e:=eZ) (l:=v8) rfl)<|aq ?_
 obtain rfl:=O yG
 exact⟨.inr rfl,cE (.tmp rfl (.nil)) (SV.aa _),rfl,⟨rfl,trivial⟩⟩
 refine cT<|sr<|aI rfl (imp_nil (n:=2) (e:=eZ))<|dn<|aq<|ae.r ?_
 obtain rfl:=O (V h)
 exact⟨.inr rfl,cE (.tmp rfl (.nil)) (SV.aa _),rfl,⟨rfl,trivial⟩⟩
theorem tZ{o0:Int}{o1:List En}{x1:Nat}{r:Zr}(h:fN o0 o1 x1=some r):yY Try.prog 19 [.ptr 1000 0,.sv (.v (.int .u8 ((x1:Nat):Int)))] 66 [.s (.v (.int .i64 o0)),.r (TR 43 5 dj o1)] (.agg (eZ r)):=by
 refine iM [1001] Try.func19 rfl (Nat.le_of_ble_eq_true rfl) rfl (by decide) rfl rfl ⟨⟨_,rfl⟩,trivial,trivial⟩ (fun eV M β us=>?_)
 unfold fN at h
 refine sr<|al (cs:=[.v (.bool false),slc 1 (List.map aj [])]) (by exact⟨SV.aa _,imp_nil,trivial⟩) rfl<|dn<|sr<|bI (cs:=[_,_]) (cs':=[.v (.bool false),slc 1 (List.map aj [])]) (.nil) ⟨SV.aa _,imp_nil,trivial⟩<|al (cs:=[.v (.bool false),slc 1 (List.map aj [])]) (by exact⟨SV.aa _,imp_nil,trivial⟩) rfl<|so rfl rfl rfl<|dn<|qq<|sr<|mo (s:=.ptr _ _) rfl<|bE h fun eN gL h=>RT.jl .none (dP gL) 1000 [1001] rfl ⟨rfl,trivial⟩ (by decide) rfl rfl (.cons rfl (.nil)) T ?_
 refine dn ?_
 cases eN
 refine fs<|qq<|sr<|mo (s:=.ptr _ _) rfl<|RT.dK .none rfl T<|fa rfl rfl<|RT.fH .none (s:=.row _) rfl rfl rfl T<|lE (F h) fun ji nk h=>lL rfl rfl nk<|mv rfl<|dn<|bE h fun e8 As rU=>?_
 refine bg (fun(rV:Bool×(List Nat))=>AS.cm 31 [(4,.ptr 4 0),(5,.ptr 5 0)] [(1000,⟨66,[.sv (.v (.int .i64 o0)),.row 1001]⟩),(5,⟨24,[.sv (.v (.bool rV.1)),.sv (slc 1 (List.map aj rV.2))]⟩),(4,⟨24,[.sv (.v (.bool false)),.sv (slc 1 (List.map aj []))]⟩)] [(1001,TR 43 5 dj o1)]) (fun rV=>rV=e8) ?_ (fun rV At=>?_)
 refine ax ?_
 refine bh As (fun s8=>AS.cm 31 [(1,.sv (.v (.int .u8 ((x1:Nat):Int)))),(4,.ptr 4 0),(5,.ptr 5 0),(15,.row 1001),(16,.sv (.v (.int .i64 ji))),(17,.sv (.v (.int .i64 s8.1)))] [(1000,⟨66,[.sv (.v (.int .i64 o0)),.row 1001]⟩),(5,⟨24,[.sv (.v (.bool s8.2.1)),.sv (slc 1 (List.map aj s8.2.2))]⟩),(4,⟨24,[.sv (.v (.bool false)),.sv (slc 1 (List.map aj []))]⟩)] [(1001,TR 43 5 dj o1)]) (wR []) (fun s8 y8 G8 h Au Av=>?_)
 obtain⟨AN,r6,r7⟩:=s8
 try dsimp only
 refine sr<|lE h fun eT jx h=>ls _ rfl rfl jx<|dn<|qq ?_
 cases eT
 refine cF<|bq<|ae.x<|ae.x<|aF.x<|ae.n ?_
 obtain rfl:=O (F h)
 exact⟨(r6,r7),Av _ rfl,wR []⟩
 refine cT<|aG<|ae.n<|qq<|ax<|sr<|bE (V h) fun mB pz h=>iR rfl rfl rfl pz ?_
 obtain⟨⟨xA,sS,xB,⟨vQ,KM⟩⟩,kE,h⟩:=bS h
 refine lA rfl rfl kE<|al (cs:=[.v (.int .i64 0),.v (.int .u8 ((0:Nat):Int)),.v (.int .i64 0),.v (.bool false),slc 1 (List.map aj [])]) (by exact⟨SV.aa _,SV.aa _,SV.aa _,SV.aa _,imp_nil,trivial⟩) rfl<|so rfl rfl rfl<|dn<|sr<|fa rfl rfl<|lV rfl rfl rfl<|mv rfl<|lE h fun eo lF h=>eq _ rfl rfl (MB (p:=sS) (q:=x1) lF)<|dn ?_
 refine aN h (fun Pm=>AS.cm 31 [(1,.sv (.v (.int .u8 ((x1:Nat):Int)))),(4,.ptr 4 0),(5,.ptr 5 0),(15,.row 1001),(16,.sv (.v (.int .i64 ji))),(17,.sv (.v (.int .i64 AN)))] [(1000,⟨66,[.sv (.v (.int .i64 o0)),.row 1001]⟩),(5,⟨24,[.sv (.v (.bool Pm.1)),.sv (slc 1 (List.map aj Pm.2))]⟩),(4,⟨24,[.sv (.v (.bool false)),.sv (slc 1 (List.map aj []))]⟩)] [(1001,TR 43 5 dj o1)]) (fun h=>?_) (fun Pm h=>?_)
 cases eo
 exact fs<|⟨(r6,r7),(F h),wR []⟩
 refine cT<|ah<|ld rfl rfl (.cons rfl (.cons rfl (.nil)))<|fa rfl rfl<|ld rfl rfl (.cons rfl (.cons rfl (.nil))) ?_
 obtain⟨⟨GV,GW⟩,vI,h⟩:=bS (V h)
 exact cl (eX vI) ⟨rfl,rfl,trivial⟩<|so rfl rfl rfl<|dn<|⟨(GV,GW),h,wR []⟩
 obtain⟨Cx,Cy⟩:=Pm
 try dsimp only
 refine aF.n<|ae.n<|ah<|lE h fun fR jZ h=>ad _ rfl rfl jZ<|mv rfl<|RT.done ?_
 obtain rfl:=O h
 exact ae.n ⟨(fR,Cx,Cy),Au _ rfl,wR []⟩
 subst At
 obtain⟨GX,GY⟩:=rV
 try dsimp only
 refine ae.n<|sr<|ld rfl rfl (.cons rfl (.cons rfl (.nil)))<|so rfl rfl rfl<|dn<|aq ?_
 obtain rfl:=O rU
 exact⟨.inr rfl,cE (.agg rfl rfl (.cons rfl (.cons rfl (.nil))) rfl (.nil)) (SV.aa _),rfl,⟨rfl,trivial⟩⟩
 refine cT<|sr<|ld rfl rfl (.cons rfl (.cons rfl (.nil)))<|so rfl rfl rfl<|dn<|aq<|ae.r ?_
 obtain rfl:=O (V h)
 exact⟨.inr rfl,cE (.agg rfl rfl (.cons rfl (.cons rfl (.nil))) rfl (.nil)) (SV.aa _),rfl,⟨rfl,trivial⟩⟩
end Go.Proofs.Ytmiflmkdaeianaa
namespace Go.Proofs.Ytmiflmkdaeianaa
open Go.Fw
noncomputable def fe(x0:Zr)(x1:Zr):Option (Bool):=match x0 with|⟨aW,aU⟩=>match x1 with|⟨cA,cn⟩=>cz (fun(GZ:Bool)=>(bif GZ then some false else(bR (fun(tW:Int)=>(show Option ((Int)⊕((Unit)⊕(Bool)))from(some (aU.length:Int)).bind fun iy=>(some (decide ((tW:Int)<iy))).bind fun eo=>(bif eo then(bJ aU tW).bind fun nY=>(bJ cn tW).bind fun qw=>(some (decide ((nY:Nat)≠qw))).bind fun sM=>(bif sM then some (.inr (.inr false))else(some (IntKind.i64.wrap (tW+1))).bind fun iH=>some (.inl iH))else some (.inr (.inl ()))))) 0).bind fun e9=>match e9 with|.inr v9=>some v9|.inl _=>some true)) fun K3=>(some (!(aW==cA))).bind fun eN=>(bif eN then some true else(some (aU.length:Int)).bind fun jh=>(some (cn.length:Int)).bind fun gi=>(some (decide ((jh:Int)≠gi))).bind fun eT=>some eT).bind fun G0=>K3 G0
end Go.Proofs.Ytmiflmkdaeianaa
namespace Go.Proofs.Ytmiflmkdaeianaa
open Go.Fw Go.Fw.Z Go.RowKit
theorem oP{x0:Zr}{x1:Zr}{r:Bool}(h:fe x0 x1=some r):Pure Try.prog 11 [.agg (eZ x0),.agg (eZ x1)] (.v (.bool r)):=by
 obtain⟨aW,aU⟩:=x0
 obtain⟨cA,cn⟩:=x1
 refine aA Try.func11 rfl (Nat.le_of_ble_eq_true rfl) (fun eV M vs hvs=>?_)
 unfold fe at h
 refine sr<|bx rfl<|bx rfl<|ag rfl<|dn<|qq<|qq ?_
 refine aN h (fun j3=>AS.cm 38 [(2,.ptr 2 0),(3,.ptr 3 0),(19,.sv (.v (.bool j3)))] [(3,⟨24,[.sv (.v (.bool cA)),.sv (slc 1 (List.map aj cn))]⟩),(2,⟨24,[.sv (.v (.bool aW)),.sv (slc 1 (List.map aj aU))]⟩)] []) (fun h=>?_) (fun GZ h=>?_)
 refine ah<|fa rfl rfl<|lV rfl rfl rfl<|fa rfl rfl<|lV rfl rfl rfl<|lE h fun eN gL h=>RT.Im .none _ rfl rfl T gL<|mv rfl<|bE h fun G0 AO h=>?_
 cases eN
 refine RT.fieldAddr (.some rfl rfl) rfl T rfl<|RT.Mk (.some rfl rfl) rfl rfl rfl T<|lE (F AO) fun jh n7 AO=>gn rfl n7<|RT.fieldAddr (.some rfl rfl) rfl T rfl<|RT.Mk (.some rfl rfl) rfl rfl rfl T<|lE AO fun gi kQ AO=>gn rfl kQ<|lE AO fun eT jx AO=>gq _ rfl rfl (IE (p:=jh) (q:=gi) jx) ?_
 obtain rfl:=O AO
 exact pF rfl<|dn<|⟨eT,h,wR []⟩
 obtain rfl:=O (V AO)
 exact ww<|ww<|ww<|ww<|ww<|ww<|ww<|pT rfl<|dn<|⟨true,h,wR []⟩
 try dsimp only
 refine ae.n ?_
 cases GZ
 refine fs<|qq<|sr<|ag rfl<|dn<|bE (F h) fun e9 hl9 ho9=>?_
 refine bg (fun(xe9:Unit)=>AS.cm 38 [] [] []) (fun xe9=>.inl xe9=e9) ?_ (fun xe9 hx9=>?_)
 refine ax ?_
 refine bh hl9 (fun s9=>AS.cm 38 [(2,.ptr 2 0),(3,.ptr 3 0),(5,.sv (.v (.int .i64 s9)))] [(3,⟨24,[.sv (.v (.bool cA)),.sv (slc 1 (List.map aj cn))]⟩),(2,⟨24,[.sv (.v (.bool aW)),.sv (slc 1 (List.map aj aU))]⟩)] []) (wR []) (fun tW y9 G9 h hG9 hE9=>?_)
 try dsimp only
 refine qq<|sr<|mv rfl<|fa rfl rfl<|lV rfl rfl rfl<|lE h fun iy mM h=>ln rfl mM<|lE h fun eo lF h=>ls _ rfl rfl lF<|dn ?_
 cases eo
 refine cF<|bq<|ae.x<|ae.x<|aF.x<|ae.n ?_
 obtain rfl:=O (F h)
 exact⟨(),hE9 _ rfl,wR []⟩
 refine cT<|aG<|ae.n<|qq<|ax<|qq<|ak mixed<|fa rfl rfl<|lV rfl rfl rfl<|mv rfl<|bE (V h) fun nY vJ h=>ix rfl rfl vJ<|lr rfl rfl<|fa rfl rfl<|lV rfl rfl rfl<|mv rfl<|bE h fun qw Cc h=>ix rfl rfl Cc<|lr rfl rfl<|lE h fun sM yH h=>ne _ rfl rfl (O7 (p:=nY) (q:=qw) yH) ?_
 refine RT.done ⟨by kernel_rfl,?_⟩
 refine ae.n ?_
 cases sM
 refine cF<|aG<|aF.n<|ae.n<|ah<|mv rfl<|lE (F h) fun iH mN h=>ad _ rfl rfl mN<|ag rfl<|RT.done ?_
 obtain rfl:=O h
 exact ae.n ⟨iH,hG9 _ rfl,wR []⟩
 refine cT<|sr<|ag rfl<|dn<|aq<|aF.r<|ae.r ?_
 obtain rfl:=O (V h)
 have he9:=hE9 _ rfl
 subst he9
 refine ae.r<|aF.r<|ae.r<|ae.r ?_
 obtain rfl:=O ho9
 exact R1 rfl
 subst hx9
 try dsimp only
 refine ae.n<|sr<|ag rfl<|dn<|aq ?_
 obtain rfl:=O ho9
 exact R1 rfl
 refine cT<|sr<|ag rfl<|dn<|aq<|ae.r ?_
 obtain rfl:=O (V h)
 exact R1 rfl
end Go.Proofs.Ytmiflmkdaeianaa
namespace Go.Proofs.Ytmiflmkdaeianaa
open Go.Fw
noncomputable def ff(x0:List En)(x1:List En):Option (Bool):=(some (x0.length:Int)).bind fun x7=>(some (x1.length:Int)).bind fun x9=>(some (decide ((x7:Int)≠x9))).bind fun eN=>(bif eN then some false else(bR (fun(mL:Int)=>(show Option ((Int)⊕((Unit)⊕(Bool)))from(some (x0.length:Int)).bind fun fW=>(some (decide ((mL:Int)<fW))).bind fun jh=>(bif jh then cz (fun(Cz:Bool)=>(bif Cz then some (.inr (.inr false))else(some (IntKind.i64.wrap (mL+1))).bind fun ji=>some (.inl ji))) fun K34=>(bJ x0 mL).bind fun⟨nx,qK,Rh,⟨Ri,Rj⟩⟩=>(bJ x1 mL).bind fun⟨G1,Rk,Rl,⟨Rm,Rn⟩⟩=>(some (decide ((nx:Int)≠G1))).bind fun lB=>(bif lB then some true else(bJ x0 mL).bind fun⟨CW,xw,Ro,⟨Rp,Rr⟩⟩=>(bJ x1 mL).bind fun⟨ni,kP,Dd,⟨De,Rt⟩⟩=>(some (decide ((xw:Nat)≠kP))).bind fun mE=>some mE).bind fun G2=>(bif G2 then some true else(bJ x0 mL).bind fun⟨CZ,C0,G3,⟨Ru,Rv⟩⟩=>(bJ x1 mL).bind fun⟨CX,CY,G4,⟨Rw,Rx⟩⟩=>(some (decide ((G3:Int)≠G4))).bind fun tO=>some tO).bind fun NV=>(bif NV then some true else(bJ x0 mL).bind fun⟨Ry,Rz,RA,⟨KN,KO⟩⟩=>(bJ x1 mL).bind fun⟨RB,RC,RE,⟨KP,KQ⟩⟩=>(fe ⟨KN,KO⟩ ⟨KP,KQ⟩).bind fun Pb=>(some (!Pb)).bind fun EZ=>some EZ).bind fun NW=>K34 NW else some (.inr (.inl ()))))) 0).bind fun Nq=>match Nq with|.inr v24=>some v24|.inl _=>some true)
end Go.Proofs.Ytmiflmkdaeianaa
namespace Go.Proofs.Ytmiflmkdaeianaa
open Go.Fw Go.Fw.Z Go.RowKit
theorem kG{x0:List En}{x1:List En}{r:Bool}(h:ff x0 x1=some r):Pure Try.prog 22 [slc 5 (List.map dj x0),slc 5 (List.map dj x1)] (.v (.bool r)):=by
 refine aA Try.func22 rfl (Nat.le_of_ble_eq_true rfl) (fun eV M vs hvs=>?_)
 unfold ff at h
 refine sr<|ag rfl<|dn<|qq<|sr<|mv rfl<|lE h fun x7 h7 h=>ln rfl h7<|mv rfl<|lE h fun x9 h9 h=>ln rfl h9<|lE h fun eN gL h=>ne _ rfl rfl (IE (p:=x7) (q:=x9) gL)<|dn ?_
 cases eN
 refine fs<|qq<|sr<|ag rfl<|dn<|bE (F h) fun Nq Gq jO=>?_
 refine bg (fun(NX:Unit)=>AS.cm 68 [] [] []) (fun NX=>.inl NX=Nq) ?_ (fun NX Gr=>?_)
 refine ax ?_
 refine bh Gq (fun B6=>AS.cm 68 [(0,.sv (slc 5 (List.map dj x0))),(1,.sv (slc 5 (List.map dj x1))),(5,.sv (.v (.int .i64 B6)))] [] []) (wR []) (fun mL y24 G24 h Gs Es=>?_)
 try dsimp only
 refine qq<|sr<|mv rfl<|mv rfl<|lE h fun fW jw h=>ln rfl jw<|lE h fun jh n7 h=>ls _ rfl rfl n7<|dn ?_
 cases jh
 refine cF<|bq<|ae.x<|ae.x<|aF.x<|ae.n ?_
 obtain rfl:=O (F h)
 exact⟨(),Es _ rfl,wR []⟩
 refine cT<|aG<|ae.n<|qq<|ax<|qq ?_
 refine aN (V h) (fun j34=>AS.cm 68 [(0,.sv (slc 5 (List.map dj x0))),(1,.sv (slc 5 (List.map dj x1))),(5,.sv (.v (.int .i64 mL))),(67,.sv (.v (.bool j34)))] [] []) (fun h=>?_) (fun Cz h=>?_)
 refine ak mixed<|mv rfl<|mv rfl ?_
 obtain⟨⟨nx,qK,Rh,⟨Ri,Rj⟩⟩,pz,h⟩:=bS h
 refine ix rfl rfl pz<|RT.aS .none rfl T rfl<|lr rfl rfl<|mv rfl<|mv rfl ?_
 obtain⟨⟨G1,Rk,Rl,⟨Rm,Rn⟩⟩,lF,h⟩:=bS h
 refine ix rfl rfl lF<|RT.aS .none rfl T rfl<|lr rfl rfl<|lE h fun lB n8 h=>ne _ rfl rfl (IE (p:=nx) (q:=G1) n8)<|mv rfl<|bE h fun G2 wZ h=>?_
 cases lB
 refine gm rfl<|gm rfl ?_
 obtain⟨⟨CW,xw,Ro,⟨Rp,Rr⟩⟩,wJ,wZ⟩:=bS (F wZ)
 refine RT.FM (.some rfl rfl) rfl rfl T wJ<|RT.aS (.some rfl rfl) rfl T rfl<|gr rfl rfl<|gm rfl<|gm rfl ?_
 obtain⟨⟨ni,kP,Dd,⟨De,Rt⟩⟩,vK,wZ⟩:=bS wZ
 refine RT.FM (.some rfl rfl) rfl rfl T vK<|RT.aS (.some rfl rfl) rfl T rfl<|gr rfl rfl<|lE wZ fun mE Ce wZ=>gq _ rfl rfl (O7 (p:=xw) (q:=kP) Ce) ?_
 obtain rfl:=O wZ
 refine pF rfl<|mv rfl<|bE h fun aaj w5 h=>?_
 cases mE
 refine gm rfl<|gm rfl ?_
 obtain⟨⟨CZ,C0,G3,⟨Ru,Rv⟩⟩,Gn,w5⟩:=bS (F w5)
 refine RT.FM (.some rfl rfl) rfl rfl T Gn<|RT.aS (.some rfl rfl) rfl T rfl<|gr rfl rfl<|gm rfl<|gm rfl ?_
 obtain⟨⟨CX,CY,G4,⟨Rw,Rx⟩⟩,QI,w5⟩:=bS w5
 refine RT.FM (.some rfl rfl) rfl rfl T QI<|RT.aS (.some rfl rfl) rfl T rfl<|gr rfl rfl<|lE w5 fun tO Em w5=>gq _ rfl rfl (IE (p:=G3) (q:=G4) Em) ?_
 obtain rfl:=O w5
 refine pF rfl<|mv rfl<|bE h fun aak tX h=>?_
 cases tO
 refine gm rfl<|gm rfl ?_
 obtain⟨⟨Ry,Rz,RA,⟨KN,KO⟩⟩,QK,tX⟩:=bS (F tX)
 refine RT.FM (.some rfl rfl) rfl rfl T QK<|RT.aS (.some rfl rfl) rfl T rfl<|RT.mz (cs:=[_,_]) (.some rfl rfl) rfl T rfl rfl<|gm rfl<|gm rfl ?_
 obtain⟨⟨RB,RC,RE,⟨KP,KQ⟩⟩,Y4,tX⟩:=bS tX
 refine RT.FM (.some rfl rfl) rfl rfl T Y4<|RT.aS (.some rfl rfl) rfl T rfl<|RT.mz (cs:=[_,_]) (.some rfl rfl) rfl T rfl rfl<|bE tX fun Pb Y5 tX=>gc (oP Y5) ⟨rfl,rfl,trivial⟩<|lE tX fun EZ QN tX=>Yl rfl _ QN ?_
 obtain rfl:=O tX
 refine pF rfl ?_
 refine RT.done ⟨by kernel_rfl,?_⟩
 exact ae.n<|⟨EZ,h,wR []⟩
 obtain rfl:=O (V tX)
 refine ww<|ww<|ww<|ww<|ww<|ww<|ww<|ww<|ww<|ww<|ww<|ww<|pT rfl ?_
 refine RT.done ⟨by kernel_rfl,?_⟩
 exact ae.n<|⟨true,h,wR []⟩
 obtain rfl:=O (V w5)
 refine ww<|ww<|ww<|ww<|ww<|ww<|ww<|ww<|ww<|ww<|ww<|pT rfl<|mv rfl<|bE h fun aal NJ h=>?_
 obtain rfl:=O (V NJ)
 refine ww<|ww<|ww<|ww<|ww<|ww<|ww<|ww<|ww<|ww<|ww<|ww<|pT rfl ?_
 refine RT.done ⟨by kernel_rfl,?_⟩
 exact ae.n<|⟨true,h,wR []⟩
 obtain rfl:=O (V wZ)
 refine ww<|ww<|ww<|ww<|ww<|ww<|ww<|ww<|ww<|ww<|ww<|pT rfl<|mv rfl<|bE h fun aam NK h=>?_
 obtain rfl:=O (V NK)
 refine ww<|ww<|ww<|ww<|ww<|ww<|ww<|ww<|ww<|ww<|ww<|pT rfl<|mv rfl<|bE h fun aan NL h=>?_
 obtain rfl:=O (V NL)
 refine ww<|ww<|ww<|ww<|ww<|ww<|ww<|ww<|ww<|ww<|ww<|ww<|pT rfl ?_
 refine RT.done ⟨by kernel_rfl,?_⟩
 exact ae.n<|⟨true,h,wR []⟩
 try dsimp only
 refine ae.n ?_
 cases Cz
 refine cF<|aG<|aF.n<|ae.n<|ah<|mv rfl<|lE (F h) fun ji nk h=>ad _ rfl rfl nk<|ag rfl<|RT.done ?_
 obtain rfl:=O h
 exact ae.n ⟨ji,Gs _ rfl,wR []⟩
 refine cT<|sr<|ag rfl<|dn<|aq<|aF.r<|ae.r ?_
 obtain rfl:=O (V h)
 have aao:=Es _ rfl
 subst aao
 refine ae.r<|aF.r<|ae.r<|ae.r ?_
 obtain rfl:=O jO
 exact R1 rfl
 subst Gr
 try dsimp only
 refine ae.n<|sr<|ag rfl<|dn<|aq ?_
 obtain rfl:=O jO
 exact R1 rfl
 refine cT<|sr<|ag rfl<|dn<|aq<|ae.r ?_
 obtain rfl:=O (V h)
 exact R1 rfl
end Go.Proofs.Ytmiflmkdaeianaa
namespace Go.Proofs.Ytmiflmkdaeianaa
open Go.Fw
noncomputable def ef(x0:List (List Qr)):Option (Bool):=(bR (fun(Pn:Int×Int)=>match Pn with|⟨RF,yZ⟩=>(show Option ((Int×Int)⊕((Unit)⊕(Bool)))from(some (x0.length:Int)).bind fun x8=>(some (decide ((yZ:Int)<x8))).bind fun x9=>(bif x9 then(bJ x0 yZ).bind fun jh=>(some (jh.length:Int)).bind fun ji=>(some (decide ((40:Int)<ji))).bind fun gi=>(bif gi then some (.inr (.inr true))else(bR (fun(Po:Int×Int)=>match Po with|⟨Df,AP⟩=>(show Option ((Int×Int)⊕(Int))from(bJ x0 yZ).bind fun iz=>(some (iz.length:Int)).bind fun iy=>(some (decide ((AP:Int)<iy))).bind fun eo=>(bif eo then(some (IntKind.i64.wrap (Df+1))).bind fun lC=>(bJ x0 yZ).bind fun mD=>(bJ mD AP).bind fun⟨⟨xz,sQ⟩,⟨KR,KS⟩⟩=>(some (sQ.length:Int)).bind fun uw=>(some (min (100:Int) uw)).bind fun mE=>(some (IntKind.i64.wrap (lC+mE))).bind fun nW=>(bJ x0 yZ).bind fun zI=>(bJ zI AP).bind fun⟨⟨AQ,AR⟩,⟨KT,Dg⟩⟩=>(some (Dg.length:Int)).bind fun ux=>(some (min (100:Int) ux)).bind fun H7=>(some (IntKind.i64.wrap (nW+H7))).bind fun tO=>(some (IntKind.i64.wrap (AP+1))).bind fun iH=>some (.inl (tO,iH))else some (.inr Df)))) (RF,0)).bind fun tg=>(some (decide ((400:Int)<tg))).bind fun M6=>(bif M6 then some (.inr (.inr true))else(some (IntKind.i64.wrap (yZ+1))).bind fun jE=>some (.inl (tg,jE))))else some (.inr (.inl ()))))) (0,0)).bind fun e16=>match e16 with|.inr v16=>some v16|.inl _=>some false
end Go.Proofs.Ytmiflmkdaeianaa
namespace Go.Proofs.Ytmiflmkdaeianaa
open Go.Fw Go.Fw.Z Go.RowKit
theorem w9{x0:List (List Qr)}{r:Bool}(h:ef x0=some r):Pure Try.prog 9 [slc 1 (List.map (eS 4 eQ) x0)] (.v (.bool r)):=by
 refine aA Try.func9 rfl (Nat.le_of_ble_eq_true rfl) (fun eV M vs hvs=>?_)
 unfold ef at h
 refine sr<|ag rfl<|dn<|sr<|ag rfl<|dn<|qq<|sr<|ag rfl<|dn<|bE h fun e16 aaq NY=>?_
 refine bg (fun(NZ:Unit)=>AS.cm 55 [] [] []) (fun NZ=>.inl NZ=e16) ?_ (fun NZ aar=>?_)
 refine ax ?_
 refine bh aaq (fun Pn=>AS.cm 55 [(0,.sv (slc 1 (List.map (eS 4 eQ) x0))),(3,.sv (.v (.int .i64 Pn.1))),(4,.sv (.v (.int .i64 Pn.2)))] [] []) (wR []) (fun Pn y16 G16 h aas N0=>?_)
 obtain⟨RF,yZ⟩:=Pn
 try dsimp only
 refine qq<|sr<|mv rfl<|mv rfl<|lE h fun x8 h8 h=>ln rfl h8<|lE h fun x9 h9 h=>ls _ rfl rfl h9<|dn ?_
 cases x9
 refine cF<|bq<|ae.x<|ae.x<|aF.x<|ae.n ?_
 obtain rfl:=O (F h)
 exact⟨(),N0 _ rfl,wR []⟩
 refine cT<|aG<|ae.n<|qq<|ax<|qq<|sr<|mv rfl<|mv rfl<|bE (V h) fun jh n7 h=>ix rfl rfl n7<|lr rfl rfl<|lE h fun ji nk h=>ln rfl nk<|lE h fun gi kQ h=>gt _ rfl rfl kQ<|dn ?_
 cases gi
 refine fs<|qq<|sr<|ag rfl<|dn<|bE (F h) fun e22 aat EF=>?_
 refine bg (fun(tg:Int)=>AS.cm 55 [(0,.sv (slc 1 (List.map (eS 4 eQ) x0))),(3,.sv (.v (.int .i64 tg))),(4,.sv (.v (.int .i64 yZ)))] [] []) (fun tg=>tg=e22) ?_ (fun tg aau=>?_)
 refine ax ?_
 refine bh aat (fun Po=>AS.cm 55 [(0,.sv (slc 1 (List.map (eS 4 eQ) x0))),(3,.sv (.v (.int .i64 Po.1))),(4,.sv (.v (.int .i64 yZ))),(5,.sv (.v (.int .i64 Po.2)))] [] []) (wR []) (fun Po y22 G22 h aav aaw=>?_)
 obtain⟨Df,AP⟩:=Po
 try dsimp only
 refine qq<|sr<|mv rfl<|mv rfl<|mv rfl<|bE h fun iz pB h=>ix rfl rfl pB<|lr rfl rfl<|lE h fun iy mM h=>ln rfl mM<|lE h fun eo lF h=>ls _ rfl rfl lF<|dn ?_
 cases eo
 refine cF<|bq<|ae.x<|ae.x<|aF.x<|ae.n ?_
 obtain rfl:=O (F h)
 exact⟨Df,aaw _ rfl,wR []⟩
 refine cT<|aG<|ae.n<|qq<|ax<|ak mixed<|mv rfl<|lE (V h) fun lC vI h=>ad _ rfl rfl vI<|mv rfl<|mv rfl<|bE h fun mD wJ h=>ix rfl rfl wJ<|lr rfl rfl<|mv rfl ?_
 obtain⟨⟨⟨xz,sQ⟩,⟨KR,KS⟩⟩,nm,h⟩:=bS h
 refine ix rfl rfl nm<|RT.aS .none rfl T rfl<|RT.aS .none rfl T rfl<|lr rfl rfl<|lE h fun uw Ei h=>ln rfl Ei<|lE h fun mE Ce h=>RT.min .none _ rfl rfl T (P3 (p:=100) (q:=uw) Ce)<|lE h fun nW sN h=>ad _ rfl rfl sN<|mv rfl<|mv rfl<|bE h fun zI E4 h=>ix rfl rfl E4<|lr rfl rfl<|mv rfl ?_
 obtain⟨⟨⟨AQ,AR⟩,⟨KT,Dg⟩⟩,h46,h⟩:=bS h
 refine ix rfl rfl h46<|RT.aS .none rfl T rfl<|RT.aS .none rfl T rfl<|lr rfl rfl<|lE h fun ux El h=>ln rfl El<|lE h fun H7 IW h=>RT.min .none _ rfl rfl T (P3 (p:=100) (q:=ux) IW)<|lE h fun tO Em h=>ad _ rfl rfl Em<|ag rfl ?_
 refine RT.done ⟨by kernel_rfl,?_⟩
 refine aF.n<|ae.n<|ah<|mv rfl<|lE h fun iH mN h=>ad _ rfl rfl mN<|ag rfl<|RT.done ?_
 obtain rfl:=O h
 exact ae.n ⟨(tO,iH),aav _ rfl,wR []⟩
 subst aau
 try dsimp only
 refine ae.n<|sr<|mv rfl<|lE EF fun M6 VS EF=>gt _ rfl rfl VS<|dn ?_
 cases M6
 refine cF<|aG<|aF.n<|ae.n<|ah<|mv rfl<|lE (F EF) fun jE lU EF=>ad _ rfl rfl lU<|ag rfl<|RT.done ?_
 obtain rfl:=O EF
 exact ae.n ⟨(tg,jE),aas _ rfl,wR []⟩
 refine cT<|sr<|ag rfl<|dn<|aq<|aF.r<|ae.r ?_
 obtain rfl:=O (V EF)
 have N3:=N0 _ rfl
 subst N3
 refine ae.r<|aF.r<|ae.r<|ae.r ?_
 obtain rfl:=O NY
 exact R1 rfl
 refine cT<|sr<|ag rfl<|dn<|aq<|ae.r<|aF.r<|ae.r ?_
 obtain rfl:=O (V h)
 have N3:=N0 _ rfl
 subst N3
 refine ae.r<|aF.r<|ae.r<|ae.r ?_
 obtain rfl:=O NY
 exact R1 rfl
 subst aar
 try dsimp only
 refine ae.n<|sr<|ag rfl<|dn<|aq ?_
 obtain rfl:=O NY
 exact R1 rfl
end Go.Proofs.Ytmiflmkdaeianaa
namespace Go.Proofs.Ytmiflmkdaeianaa
open Go.Fw
noncomputable def fS(x0:List Mv):Option (Bool):=(some (x0.length:Int)).bind fun x6=>(some (decide ((60:Int)<x6))).bind fun x7=>(bif x7 then some true else(bR (fun(uB:Int×(List Qr))=>match uB with|⟨pN,y7⟩=>(show Option ((Int×(List Qr))⊕((Unit)⊕(Bool)))from(some (x0.length:Int)).bind fun eN=>(some (decide ((pN:Int)<eN))).bind fun jE=>(bif jE then(bJ x0 pN).bind fun⟨mG,mH,AT,⟨⟨qW,xG⟩,⟨xH,xI⟩⟩⟩=>(wH 64 y7 [⟨⟨qW,xG⟩,⟨xH,xI⟩⟩]).bind fun iz=>cz (fun(wc:Bool)=>cz (fun(qX:(List Qr))=>(some (IntKind.i64.wrap (pN+1))).bind fun fW=>some (.inl (fW,qX))) fun RG=>(bif wc then(ef [iz]).bind fun jF=>(bif jF then some (.inr (.inr true))else RG [])else RG iz)) fun K15=>(some (Int.tmod pN 40)).bind fun iy=>(some (decide ((iy:Int)=39))).bind fun eo=>(bif eo then some true else(some (x0.length:Int)).bind fun lC=>(some (IntKind.i64.wrap (lC-1))).bind fun fR=>(some (decide ((pN:Int)=fR))).bind fun nY=>some nY).bind fun za=>K15 za else some (.inr (.inl ()))))) (0,[])).bind fun Ef=>match Ef with|.inr v12=>some v12|.inl _=>some false)
noncomputable def cV(x0:Zr)(x1:Int):Option (Bool):=match x0 with|⟨aW,aU⟩=>(aC x1).bind fun⟨RH,RI⟩=>(fe ⟨aW,aU⟩ ⟨RH,RI⟩).bind fun x8=>some x8
noncomputable def bQ(x0:Int)(x1:Int):Option (Qr):=(iI x0 x1).bind fun⟨⟨⟨G5,G7⟩,⟨He,Hf⟩⟩,I0⟩=>some ⟨⟨G5,G7⟩,⟨He,Hf⟩⟩
noncomputable def dw(x0:List En):Option (List En):=(bR (fun(s6:Int×(List En))=>match s6 with|⟨Je,zb⟩=>(show Option ((Int×(List En))⊕((List En)))from(some (x0.length:Int)).bind fun x7=>(some (decide ((Je:Int)<x7))).bind fun x8=>(bif x8 then(bJ x0 Je).bind fun⟨sO,sP,Dh,⟨Di,Dj⟩⟩=>(wH 56 zb [⟨sO,sP,Dh,⟨Di,Dj⟩⟩]).bind fun gi=>(some (IntKind.i64.wrap (Je+1))).bind fun eN=>some (.inl (eN,gi))else some (.inr zb)))) (0,[])).bind fun pO=>some pO
noncomputable def fB:Option (Bool):=(iN 3).bind fun⟨kT,Ax⟩=>(bQ 5 2).bind fun⟨⟨mG,mH⟩,⟨AT,qW⟩⟩=>(aT kT Ax 1 1 0 ⟨⟨mG,mH⟩,⟨AT,qW⟩⟩).bind fun⟨eT,l2⟩=>(bQ (-7) 1).bind fun⟨⟨xA,sS⟩,⟨xB,vQ⟩⟩=>(aT kT l2 2 1 0 ⟨⟨xA,sS⟩,⟨xB,vQ⟩⟩).bind fun⟨iz,l4⟩=>(bQ 1 1).bind fun⟨⟨oM,oN⟩,⟨oO,sZ⟩⟩=>(aT kT l4 3 1 0 ⟨⟨oM,oN⟩,⟨oO,sZ⟩⟩).bind fun⟨eo,l6⟩=>(bQ 1 1).bind fun⟨⟨gS,qY⟩,⟨KU,KV⟩⟩=>(aT kT l6 0 1 0 ⟨⟨gS,qY⟩,⟨KU,KV⟩⟩).bind fun⟨lB,l8⟩=>(bQ 1 1).bind fun⟨⟨tc,td⟩,⟨KW,KX⟩⟩=>(aT kT l8 1 5 0 ⟨⟨tc,td⟩,⟨KW,KX⟩⟩).bind fun⟨nY,uy⟩=>(bQ 1 1).bind fun⟨⟨jL,iW⟩,⟨qL,qM⟩⟩=>(aT kT uy 1 4 8 ⟨⟨jL,iW⟩,⟨qL,qM⟩⟩).bind fun⟨kO,GU⟩=>(fu kT GU).bind fun qw=>cz (fun(Hg:Bool)=>some Hg) fun aaz=>(bQ 5 2).bind fun⟨⟨ni,kP⟩,⟨Dd,De⟩⟩=>(dr ⟨⟨ni,kP⟩,⟨Dd,De⟩⟩).bind fun⟨mI,mJ⟩=>(cV ⟨mI,mJ⟩ 2).bind fun uw=>(bif uw then(bQ 7 2).bind fun⟨⟨kg,kj⟩,⟨vT,vU⟩⟩=>(dr ⟨⟨kg,kj⟩,⟨vT,vU⟩⟩).bind fun⟨Az,AA⟩=>(cV ⟨Az,AA⟩ 4).bind fun rC=>some rC else some false).bind fun Dk=>(bif Dk then(bQ (-5) 2).bind fun⟨⟨KY,KZ⟩,⟨K0,K1⟩⟩=>(dr ⟨⟨KY,KZ⟩,⟨K0,K1⟩⟩).bind fun⟨AQ,AR⟩=>(cV ⟨AQ,AR⟩ (-2)).bind fun Ag=>some Ag else some false).bind fun Jf=>(bif Jf then(bQ 8 3).bind fun⟨⟨K9,La⟩,⟨Lb,Lc⟩⟩=>(dr ⟨⟨K9,La⟩,⟨Lb,Lc⟩⟩).bind fun⟨An,Ao⟩=>(cV ⟨An,Ao⟩ 3).bind fun tO=>some tO else some false).bind fun Jg=>(bif Jg then(some (decide ((eT:Int)=0))).bind fun IS=>some IS else some false).bind fun Jh=>(bif Jh then(some (decide ((iz:Int)=0))).bind fun Eb=>some Eb else some false).bind fun Ji=>(bif Ji then(some (decide ((eo:Int)=1))).bind fun Pp=>some Pp else some false).bind fun Jj=>(bif Jj then(some (decide ((lB:Int)=1))).bind fun MO=>some MO else some false).bind fun Jk=>(bif Jk then(some (decide ((nY:Int)=12))).bind fun MS=>some MS else some false).bind fun Jl=>(bif Jl then(some (decide ((kO:Int)=1))).bind fun x76=>some x76 else some false).bind fun Jm=>(bif Jm then(some (qw.length:Int)).bind fun x80=>(some (decide ((x80:Int)=3))).bind fun x81=>some x81 else some false).bind fun Jn=>(bif Jn then(bJ qw 0).bind fun⟨Ld,Le⟩=>(cV ⟨Ld,Le⟩ 5).bind fun MT=>some MT else some false).bind fun Jo=>(bif Jo then(bJ qw 1).bind fun⟨Dl,Dm⟩=>(cV ⟨Dl,Dm⟩ 2).bind fun MU=>some MU else some false).bind fun Jp=>(bif Jp then(bJ qw 2).bind fun⟨Lf,Lg⟩=>(cV ⟨Lf,Lg⟩ (-7)).bind fun RJ=>some RJ else some false).bind fun Hh=>(bif Hh then(fN kT GU 1).bind fun⟨Hi,Hj⟩=>(cV ⟨Hi,Hj⟩ (-5)).bind fun yC=>some yC else some false).bind fun Hl=>(bif Hl then(bL kT GU).bind fun RK=>(some (RK.length:Int)).bind fun N4=>(some (decide ((N4:Int)=2))).bind fun EG=>some EG else some false).bind fun Ho=>aaz Ho
noncomputable def fT(x0:Nat)(x1:List Mv):Option (Int×(List En)):=(some (IntKind.i64.wrap (x0:Int))).bind fun eN=>(some (Int.tmod eN 64)).bind fun jE=>(some (IntKind.i64.wrap (1+jE))).bind fun fF=>(iN fF).bind fun⟨mF,qC⟩=>(bR (fun(s8:Int×(List En))=>match s8 with|⟨CA,ze⟩=>(show Option ((Int×(List En))⊕((List En)))from(some (x1.length:Int)).bind fun fX=>(some (decide ((CA:Int)<fX))).bind fun iz=>(bif iz then(bJ x1 CA).bind fun⟨iB,iC,RL,⟨⟨RM,RN⟩,⟨RO,RQ⟩⟩⟩=>(bJ x1 CA).bind fun⟨jL,iW,qL,⟨⟨qM,RR⟩,⟨RU,RV⟩⟩⟩=>(bJ x1 CA).bind fun⟨mI,mJ,vS,⟨⟨xC,RW⟩,⟨RX,RY⟩⟩⟩=>(bJ x1 CA).bind fun⟨R3,R4,R5,⟨⟨Lh,Li⟩,⟨Lj,Lk⟩⟩⟩=>(aT mF ze iB iW vS ⟨⟨Lh,Li⟩,⟨Lj,Lk⟩⟩).bind fun⟨BW,uy⟩=>(some (IntKind.i64.wrap (CA+1))).bind fun iy=>some (.inl (iy,uy))else some (.inr ze)))) (0,qC)).bind fun r9=>some (mF,r9)
end Go.Proofs.Ytmiflmkdaeianaa
namespace Go.Proofs.Ytmiflmkdaeianaa
open Go.Fw Go.Fw.Z Go.RowKit
theorem oQ{x0:List Mv}{r:Bool}(h:fS x0=some r):Pure Try.prog 14 [slc 7 (List.map z9 x0)] (.v (.bool r)):=by
 refine aA Try.func14 rfl (Nat.le_of_ble_eq_true rfl) (fun eV M vs hvs=>?_)
 unfold fS at h
 refine sr<|ag rfl<|dn<|qq<|sr<|mv rfl<|lE h fun x6 h6 h=>ln rfl h6<|lE h fun x7 h7 h=>gt _ rfl rfl h7<|dn ?_
 cases x7
 refine fs<|sr<|ag rfl<|dn<|bH (fI 3 304 26 4 rfl rfl T)<|qq<|sr<|ag rfl<|dn<|bE (F h) fun Ef Gk jM=>?_
 refine bg (fun(nn:Unit)=>AS.cm 35 [] [] []) (fun nn=>.inl nn=Ef) ?_ (fun nn Gl=>?_)
 refine ax ?_
 refine bh Gk (fun uB=>AS.cm 35 [(0,.sv (slc 7 (List.map z9 x0))),(3,.row 309),(4,.sv (.v (.int .i64 uB.1)))] [] [(309,TR 26 4 eQ uB.2)]) (dz (fun i=>bif Nat.beq i 309 then 304 else i) rfl rfl rfl rfl rfl ⟨.sv (SV.aa _),.row rfl,.sv (SV.aa _),trivial⟩ trivial ⟨⟨_,rfl,cc.refl _⟩,trivial⟩ (fun i hi=>by rw[bB (show i≠309 by omega)];rfl)) (fun uB y12 G12 h Gm Eo=>?_)
 obtain⟨pN,y7⟩:=uB
 try dsimp only
 refine qq<|sr<|mv rfl<|mv rfl<|lE h fun eN gL h=>ln rfl gL<|lE h fun jE lU h=>ls _ rfl rfl lU<|dn ?_
 cases jE
 refine cF<|bq<|ae.x<|ae.x<|aF.x<|ae.n ?_
 obtain rfl:=O (F h)
 exact⟨(),Eo _ rfl,wR []⟩
 refine cT<|aG<|ae.n<|qq<|ax<|sr<|mo (s:=.row _) rfl<|mv rfl<|mv rfl ?_
 obtain⟨⟨mG,mH,AT,⟨⟨qW,xG⟩,⟨xH,xI⟩⟩⟩,kQ,h⟩:=bS (V h)
 refine ix rfl rfl kQ<|RT.aS .none rfl T rfl<|RT.mz (cs:=[_,_,_,_]) .none rfl T rfl rfl<|bl (l:=[⟨⟨qW,xG⟩,⟨xH,xI⟩⟩]) (e:=eQ) (.agg rfl (.nil)) rfl rfl rfl rfl rfl rfl<|bE h fun iz pB h=>aR (k:=[⟨⟨qW,xG⟩,⟨xH,xI⟩⟩]) (e:=eQ) rfl rfl rfl pB<|an (s:=.row _) rfl<|dn<|qq ?_
 refine aN h (fun j15=>AS.cm 35 [(0,.sv (slc 7 (List.map z9 x0))),(3,.row 21),(4,.sv (.v (.int .i64 pN))),(31,.sv (.v (.bool j15)))] [] [(21,TR 26 4 eQ iz)]) (fun h=>?_) (fun wc h=>?_)
 refine ah<|mv rfl<|lE h fun iy mM h=>RT.rem .none _ rfl rfl T (by decide) mM<|lE h fun eo lF h=>eq _ rfl rfl (o6 (p:=iy) (q:=39) lF)<|mv rfl<|bE h fun za pG h=>?_
 cases eo
 refine gm rfl<|gm rfl<|lE (F pG) fun lC vI pG=>gn rfl vI<|lE pG fun fR jZ pG=>RT.sub (.some rfl rfl) _ rfl rfl T jZ<|lE pG fun nY vJ pG=>BU _ rfl rfl (o6 (p:=pN) (q:=fR) vJ) ?_
 obtain rfl:=O pG
 exact pF rfl<|dn<|⟨nY,h,wR []⟩
 obtain rfl:=O (V pG)
 exact ww<|ww<|ww<|ww<|ww<|pT rfl<|dn<|⟨true,h,wR []⟩
 try dsimp only
 refine ae.n ?_
 refine aN h (fun j17=>AS.cm 35 [(0,.sv (slc 7 (List.map z9 x0))),(3,.row 316),(4,.sv (.v (.int .i64 pN)))] [] [(316,TR 26 4 eQ j17)]) (fun h=>?_) (fun qX h=>?_)
 cases wc
 exact fs<|⟨iz,(F h),dz (fun i=>bif Nat.beq i 316 then 21 else i) rfl rfl rfl rfl rfl ⟨.sv (SV.aa _),.row rfl,.sv (SV.aa _),trivial⟩ trivial ⟨⟨_,rfl,cc.refl _⟩,trivial⟩ (fun i hi=>by rw[bB (show i≠316 by omega)];rfl)⟩
 refine cT<|qq<|qq<|bH (dH (i:=21) (E1:=26) (n:=4) (e:=eQ) (l:=iz) rfl)<|ah<|mv rfl<|bl (l:=[iz]) (e:=(eS 4 eQ)) (.one rfl (.nil)) rfl rfl rfl rfl rfl rfl<|bE (V h) fun jF nm h=>cl (w9 nm) ⟨rfl,trivial⟩<|dn ?_
 cases jF
 refine fs<|ah<|ag rfl<|dn ?_
 refine⟨[],(F h),?_⟩
 try dsimp only
 exact BT (fI 3 320 26 4 rfl rfl T)<|dz (fun i=>bif Nat.beq i 316 then 320 else i) rfl rfl rfl rfl rfl ⟨.sv (SV.aa _),.row rfl,.sv (SV.aa _),trivial⟩ trivial ⟨⟨_,rfl,cc.refl _⟩,trivial⟩ (fun i hi=>by rw[bB (show i≠316 by omega)];rfl)
 refine cT<|sr<|ag rfl<|dn<|aq<|ae.r<|ae.r<|aF.r<|ae.r ?_
 obtain rfl:=O (V h)
 have aaD:=Eo _ rfl
 subst aaD
 refine ae.r<|aF.r<|ae.r<|ae.r ?_
 obtain rfl:=O jM
 exact R1 rfl
 try dsimp only
 refine aF.n<|ae.n<|ah<|mv rfl<|lE h fun fW jw h=>ad _ rfl rfl jw<|ag rfl<|RT.done ?_
 obtain rfl:=O h
 exact ae.n ⟨(fW,qX),Gm _ rfl,dz (fun i=>bif Nat.beq i 309 then 316 else i) rfl rfl rfl rfl rfl ⟨.sv (SV.aa _),.row rfl,.sv (SV.aa _),trivial⟩ trivial ⟨⟨_,rfl,cc.refl _⟩,trivial⟩ (fun i hi=>by rw[bB (show i≠309 by omega)];rfl)⟩
 subst Gl
 try dsimp only
 refine ae.n<|sr<|ag rfl<|dn<|aq ?_
 obtain rfl:=O jM
 exact R1 rfl
 refine cT<|sr<|ag rfl<|dn<|aq<|ae.r ?_
 obtain rfl:=O (V h)
 exact R1 rfl
theorem eO{x0:Zr}{x1:Int}{r:Bool}(h:cV x0 x1=some r):Pure Try.prog 20 [.agg (eZ x0),.v (.int .i64 x1)] (.v (.bool r)):=by
 obtain⟨aW,aU⟩:=x0
 refine aA Try.func20 rfl (Nat.le_of_ble_eq_true rfl) (fun eV M vs hvs=>?_)
 unfold cV at h
 refine sr<|bx rfl<|ag rfl<|dn<|qq<|ak mixed<|ld rfl rfl (.cons rfl (.cons rfl (.nil)))<|mv rfl ?_
 obtain⟨⟨RH,RI⟩,h7,h⟩:=bS h
 refine cl (bj h7) ⟨rfl,trivial⟩<|bE h fun x8 h8 h=>cl (oP h8) ⟨rfl,rfl,trivial⟩<|ag rfl ?_
 refine RT.done ⟨by kernel_rfl,?_⟩
 refine ae.n<|aq ?_
 obtain rfl:=O h
 exact R1 rfl
theorem cH{x0:Int}{x1:Int}{r:Qr}(h:bQ x0 x1=some r):Pure Try.prog 27 [.v (.int .i64 x0),.v (.int .i64 x1)] (.agg (eQ r)):=by
 refine aA Try.func27 rfl (Nat.le_of_ble_eq_true rfl) (fun eV M vs hvs=>?_)
 unfold bQ at h
 refine sr<|al (cs:=[.v (.bool false),slc 1 (List.map aj []),.v (.bool false),slc 1 (List.map aj [])]) (by exact⟨SV.aa _,imp_nil,SV.aa _,imp_nil,trivial⟩) rfl<|dn<|sr<|mv rfl<|mv rfl ?_
 obtain⟨⟨⟨⟨G5,G7⟩,⟨He,Hf⟩⟩,I0⟩,gL,h⟩:=bS h
 refine cl (sV gL) ⟨rfl,rfl,trivial⟩<|mv rfl<|ex rfl rfl<|ex rfl rfl<|al (cs:=[.v (.bool false),slc 1 (List.map aj []),.v (.bool false),slc 1 (List.map aj [])]) (by exact⟨SV.aa _,imp_nil,SV.aa _,imp_nil,trivial⟩) rfl<|so rfl rfl rfl<|ag rfl<|dn<|sr<|ld rfl rfl (.cons rfl (.cons rfl (.cons rfl (.cons rfl (.nil)))))<|so rfl rfl rfl<|dn<|aq ?_
 obtain rfl:=O h
 exact RZ (.agg rfl rfl (.cons rfl (.cons rfl (.cons rfl (.cons rfl (.nil))))) rfl (.nil))
theorem gB{x0:List En}{r:List En}(h:dw x0=some r):Pure Try.prog 23 [slc 5 (List.map dj x0)] (slc 5 (List.map dj r)):=by
 refine aA Try.func23 rfl (Nat.le_of_ble_eq_true rfl) (fun eV M vs hvs=>?_)
 unfold dw at h
 refine sr<|aI rfl (imp_nil (n:=5) (e:=dj))<|dn<|sr<|ag rfl<|dn<|bH (fI 3 304 88 5 rfl rfl T)<|qq<|sr<|ag rfl<|dn<|bE h fun e6 QF pC=>?_
 refine bg (fun(pO:(List En))=>AS.cm 19 [(3,.row 306)] [] [(306,TR 88 5 dj pO)]) (fun pO=>pO=e6) ?_ (fun pO QG=>?_)
 refine ax ?_
 refine bh QF (fun s6=>AS.cm 19 [(0,.sv (slc 5 (List.map dj x0))),(3,.row 306),(4,.sv (.v (.int .i64 s6.1)))] [] [(306,TR 88 5 dj s6.2)]) (dz (fun i=>bif Nat.beq i 306 then 304 else i) rfl rfl rfl rfl rfl ⟨.sv (SV.aa _),.row rfl,.sv (SV.aa _),trivial⟩ trivial ⟨⟨_,rfl,cc.refl _⟩,trivial⟩ (fun i hi=>by rw[bB (show i≠306 by omega)];rfl)) (fun s6 y6 G6 h QH M9=>?_)
 obtain⟨Je,zb⟩:=s6
 try dsimp only
 refine qq<|sr<|mv rfl<|mv rfl<|lE h fun x7 h7 h=>ln rfl h7<|lE h fun x8 h8 h=>ls _ rfl rfl h8<|dn ?_
 cases x8
 refine cF<|bq<|ae.x<|ae.x<|aF.x<|ae.n ?_
 obtain rfl:=O (F h)
 exact⟨zb,M9 _ rfl,wR []⟩
 refine cT<|aG<|ae.n<|qq<|ax<|ah<|mo (s:=.row _) rfl<|mv rfl<|mv rfl ?_
 obtain⟨⟨sO,sP,Dh,⟨Di,Dj⟩⟩,n7,h⟩:=bS (V h)
 refine ix rfl rfl n7<|RT.mz (cs:=[_,_,_,_,_]) .none rfl T rfl rfl<|bl (l:=[⟨sO,sP,Dh,⟨Di,Dj⟩⟩]) (e:=dj) (.agg rfl (.nil)) rfl rfl rfl rfl rfl rfl<|bE h fun gi kQ h=>aR (k:=[⟨sO,sP,Dh,⟨Di,Dj⟩⟩]) (e:=dj) rfl rfl rfl kQ<|an (s:=.row _) rfl<|RT.done<|aF.n<|ae.n<|ah<|mv rfl<|lE h fun eN gL h=>ad _ rfl rfl gL<|ag rfl<|RT.done ?_
 obtain rfl:=O h
 exact ae.n ⟨(eN,gi),QH _ rfl,dz (fun i=>bif Nat.beq i 306 then 17 else i) rfl rfl rfl rfl rfl ⟨.sv (SV.aa _),.row rfl,.sv (SV.aa _),trivial⟩ trivial ⟨⟨_,rfl,cc.refl _⟩,trivial⟩ (fun i hi=>by rw[bB (show i≠306 by omega)];rfl)⟩
 subst QG
 try dsimp only
 refine ae.n<|sr<|mo (s:=.row _) rfl<|an (s:=.row _) rfl<|dn<|bH (dH (i:=306) (E1:=88) (n:=5) (e:=dj) (l:=pO) rfl)<|aq ?_
 obtain rfl:=O pC
 exact R1 rfl
set_option maxHeartbeats 4000000 in
theorem nG{r:Bool}(h:fB=some r):Pure Try.prog 10 [] (.v (.bool r)):=by
 refine aA Try.func10 rfl (Nat.le_of_ble_eq_true rfl) (fun eV M vs hvs=>?_)
 unfold fB at h
 refine sr<|ag rfl<|dn<|sr ?_
 obtain⟨⟨kT,Ax⟩,lU,h⟩:=bS h
 refine RT.C9 .none (tf lU) [302] (by decide) rfl ⟨⟨rfl,T⟩,trivial⟩ rfl ⟨rfl,trivial⟩ T rfl rfl<|mo (s:=.cmp _ _) rfl<|RT.qT .none rfl rfl T<|RT.qT .none rfl rfl T<|an (s:=.ptr _ _) rfl<|ag rfl<|dn<|qq<|sr<|mv rfl<|ne false rfl rfl (by decide)<|dn<|fs<|sr<|mo (s:=.ptr _ _) rfl ?_
 obtain⟨⟨⟨mG,mH⟩,⟨AT,qW⟩⟩,kQ,h⟩:=bS h
 refine cl (cH kQ) ⟨rfl,rfl,trivial⟩ ?_
 obtain⟨⟨eT,l2⟩,jx,h⟩:=bS h
 refine RT.qS .none (bP jx) 11 [302] [304] rfl ⟨rfl,trivial⟩ (by decide) (by decide) rfl ⟨⟨rfl,T⟩,trivial⟩ rfl rfl (.cons rfl (.cons rfl (.cons rfl (.cons rfl (.cons rfl (.nil)))))) T<|ag rfl<|dn<|sr<|mo (s:=.ptr _ _) rfl ?_
 obtain⟨⟨⟨xA,sS⟩,⟨xB,vQ⟩⟩,kE,h⟩:=bS h
 refine cl (cH kE) ⟨rfl,rfl,trivial⟩ ?_
 obtain⟨⟨iz,l4⟩,pB,h⟩:=bS h
 refine RT.qS .none (bP pB) 11 [304] [306] rfl ⟨rfl,trivial⟩ (by decide) (by decide) rfl ⟨⟨rfl,T⟩,trivial⟩ rfl rfl (.cons rfl (.cons rfl (.cons rfl (.cons rfl (.cons rfl (.nil)))))) T<|ag rfl<|dn<|sr<|mo (s:=.ptr _ _) rfl ?_
 obtain⟨⟨⟨oM,oN⟩,⟨oO,sZ⟩⟩,mM,h⟩:=bS h
 refine cl (cH mM) ⟨rfl,rfl,trivial⟩ ?_
 obtain⟨⟨eo,l6⟩,lF,h⟩:=bS h
 refine RT.qS .none (bP lF) 11 [306] [308] rfl ⟨rfl,trivial⟩ (by decide) (by decide) rfl ⟨⟨rfl,T⟩,trivial⟩ rfl rfl (.cons rfl (.cons rfl (.cons rfl (.cons rfl (.cons rfl (.nil)))))) T<|ag rfl<|dn<|sr<|mo (s:=.ptr _ _) rfl ?_
 obtain⟨⟨⟨gS,qY⟩,⟨KU,KV⟩⟩,mN,h⟩:=bS h
 refine cl (cH mN) ⟨rfl,rfl,trivial⟩ ?_
 obtain⟨⟨lB,l8⟩,n8,h⟩:=bS h
 refine RT.qS .none (bP n8) 11 [308] [310] rfl ⟨rfl,trivial⟩ (by decide) (by decide) rfl ⟨⟨rfl,T⟩,trivial⟩ rfl rfl (.cons rfl (.cons rfl (.cons rfl (.cons rfl (.cons rfl (.nil)))))) T<|ag rfl<|dn<|sr<|mo (s:=.ptr _ _) rfl ?_
 obtain⟨⟨⟨tc,td⟩,⟨KW,KX⟩⟩,jZ,h⟩:=bS h
 refine cl (cH jZ) ⟨rfl,rfl,trivial⟩ ?_
 obtain⟨⟨nY,uy⟩,vJ,h⟩:=bS h
 refine RT.qS .none (bP vJ) 11 [310] [312] rfl ⟨rfl,trivial⟩ (by decide) (by decide) rfl ⟨⟨rfl,T⟩,trivial⟩ rfl rfl (.cons rfl (.cons rfl (.cons rfl (.cons rfl (.cons rfl (.nil)))))) T<|ag rfl<|dn<|sr<|mo (s:=.ptr _ _) rfl ?_
 obtain⟨⟨⟨jL,iW⟩,⟨qL,qM⟩⟩,lD,h⟩:=bS h
 refine cl (cH lD) ⟨rfl,rfl,trivial⟩ ?_
 obtain⟨⟨kO,GU⟩,oI,h⟩:=bS h
 refine RT.qS .none (bP oI) 11 [312] [314] rfl ⟨rfl,trivial⟩ (by decide) (by decide) rfl ⟨⟨rfl,T⟩,trivial⟩ rfl rfl (.cons rfl (.cons rfl (.cons rfl (.cons rfl (.cons rfl (.nil)))))) T<|ag rfl<|dn<|sr<|mo (s:=.ptr _ _) rfl<|bE h fun qw Cc h=>RT.jl .none (r8 Cc) 11 [314] rfl ⟨rfl,trivial⟩ (by decide) rfl rfl (.cons rfl (.nil)) T<|ag rfl<|dn<|qq ?_
 refine aN h (fun aaE=>AS.cm 112 [(0,.sv (.v (.bool aaE)))] [] []) (fun h=>?_) (fun Hg h=>?_)
 refine ah ?_
 obtain⟨⟨⟨ni,kP⟩,⟨Dd,De⟩⟩,vK,h⟩:=bS h
 refine cl (cH vK) ⟨rfl,rfl,trivial⟩ ?_
 obtain⟨⟨mI,mJ⟩,yH,h⟩:=bS h
 refine cl (gA yH) ⟨rfl,trivial⟩<|bE h fun uw Ei h=>cl (eO Ei) ⟨rfl,rfl,trivial⟩<|mv rfl<|bE h fun Dk th h=>?_
 cases uw
 obtain rfl:=O (F th)
 refine ww<|ww<|ww<|pF rfl<|mv rfl<|bE h fun VV R6 h=>?_
 obtain rfl:=O (F R6)
 refine ww<|ww<|ww<|pF rfl<|mv rfl<|bE h fun VW R7 h=>?_
 obtain rfl:=O (F R7)
 refine ww<|ww<|ww<|pF rfl<|mv rfl<|bE h fun VX R8 h=>?_
 obtain rfl:=O (F R8)
 refine ww<|ww<|pF rfl<|mv rfl<|bE h fun VY R9 h=>?_
 obtain rfl:=O (F R9)
 refine ww<|ww<|pF rfl<|mv rfl<|bE h fun VZ Sa h=>?_
 obtain rfl:=O (F Sa)
 refine ww<|ww<|pF rfl<|mv rfl<|bE h fun V0 Sb h=>?_
 obtain rfl:=O (F Sb)
 refine ww<|ww<|pF rfl<|mv rfl<|bE h fun V1 Sc h=>?_
 obtain rfl:=O (F Sc)
 refine ww<|ww<|pF rfl<|mv rfl<|bE h fun V3 Se h=>?_
 obtain rfl:=O (F Se)
 refine ww<|ww<|pF rfl<|mv rfl<|bE h fun V4 Sf h=>?_
 obtain rfl:=O (F Sf)
 refine ww<|ww<|ww<|pF rfl<|mv rfl<|bE h fun V5 Sg h=>?_
 obtain rfl:=O (F Sg)
 refine ww<|ww<|ww<|ww<|pF rfl<|mv rfl<|bE h fun V6 Sh h=>?_
 obtain rfl:=O (F Sh)
 refine ww<|ww<|ww<|ww<|pF rfl<|mv rfl<|bE h fun Si Sj h=>?_
 obtain rfl:=O (F Sj)
 refine ww<|ww<|ww<|ww<|pF rfl<|mv rfl<|bE h fun Sk Sl h=>?_
 obtain rfl:=O (F Sl)
 refine ww<|ww<|ww<|pF rfl<|mv rfl<|bE h fun Sn So h=>?_
 obtain rfl:=O (F So)
 exact ww<|ww<|ww<|ww<|pF rfl<|ag rfl<|dn<|⟨false,h,wR []⟩
 obtain⟨⟨⟨kg,kj⟩,⟨vT,vU⟩⟩,sN,th⟩:=bS (V th)
 refine gc (cH sN) ⟨rfl,rfl,trivial⟩ ?_
 obtain⟨⟨Az,AA⟩,Cd,th⟩:=bS th
 refine gc (gA Cd) ⟨rfl,trivial⟩<|bE th fun rC Ar th=>gc (eO Ar) ⟨rfl,rfl,trivial⟩ ?_
 obtain rfl:=O th
 refine pT rfl<|mv rfl<|bE h fun V7 tj h=>?_
 cases rC
 obtain rfl:=O (F tj)
 refine ww<|ww<|ww<|pF rfl<|mv rfl<|bE h fun V8 Sq h=>?_
 obtain rfl:=O (F Sq)
 refine ww<|ww<|ww<|pF rfl<|mv rfl<|bE h fun V9 Sr h=>?_
 obtain rfl:=O (F Sr)
 refine ww<|ww<|pF rfl<|mv rfl<|bE h fun Wa Ss h=>?_
 obtain rfl:=O (F Ss)
 refine ww<|ww<|pF rfl<|mv rfl<|bE h fun Wb St h=>?_
 obtain rfl:=O (F St)
 refine ww<|ww<|pF rfl<|mv rfl<|bE h fun Wc Su h=>?_
 obtain rfl:=O (F Su)
 refine ww<|ww<|pF rfl<|mv rfl<|bE h fun Wd Sv h=>?_
 obtain rfl:=O (F Sv)
 refine ww<|ww<|pF rfl<|mv rfl<|bE h fun We Sw h=>?_
 obtain rfl:=O (F Sw)
 refine ww<|ww<|pF rfl<|mv rfl<|bE h fun Wf Sx h=>?_
 obtain rfl:=O (F Sx)
 refine ww<|ww<|ww<|pF rfl<|mv rfl<|bE h fun Wg Sy h=>?_
 obtain rfl:=O (F Sy)
 refine ww<|ww<|ww<|ww<|pF rfl<|mv rfl<|bE h fun Wh SA h=>?_
 obtain rfl:=O (F SA)
 refine ww<|ww<|ww<|ww<|pF rfl<|mv rfl<|bE h fun SB SC h=>?_
 obtain rfl:=O (F SC)
 refine ww<|ww<|ww<|ww<|pF rfl<|mv rfl<|bE h fun SD SE h=>?_
 obtain rfl:=O (F SE)
 refine ww<|ww<|ww<|pF rfl<|mv rfl<|bE h fun SF SG h=>?_
 obtain rfl:=O (F SG)
 exact ww<|ww<|ww<|ww<|pF rfl<|ag rfl<|dn<|⟨false,h,wR []⟩
 obtain⟨⟨⟨KY,KZ⟩,⟨K0,K1⟩⟩,Gj,tj⟩:=bS (V tj)
 refine gc (cH Gj) ⟨rfl,rfl,trivial⟩ ?_
 obtain⟨⟨AQ,AR⟩,h46,tj⟩:=bS tj
 refine gc (gA h46) ⟨rfl,trivial⟩<|bE tj fun Ag Ek tj=>gc (eO Ek) ⟨rfl,rfl,trivial⟩ ?_
 obtain rfl:=O tj
 refine pT rfl<|mv rfl<|bE h fun Wi tq h=>?_
 cases Ag
 obtain rfl:=O (F tq)
 refine ww<|ww<|ww<|pF rfl<|mv rfl<|bE h fun Wj SH h=>?_
 obtain rfl:=O (F SH)
 refine ww<|ww<|pF rfl<|mv rfl<|bE h fun Wk SI h=>?_
 obtain rfl:=O (F SI)
 refine ww<|ww<|pF rfl<|mv rfl<|bE h fun Wm SJ h=>?_
 obtain rfl:=O (F SJ)
 refine ww<|ww<|pF rfl<|mv rfl<|bE h fun Wn SK h=>?_
 obtain rfl:=O (F SK)
 refine ww<|ww<|pF rfl<|mv rfl<|bE h fun Wo SL h=>?_
 obtain rfl:=O (F SL)
 refine ww<|ww<|pF rfl<|mv rfl<|bE h fun Wp SM h=>?_
 obtain rfl:=O (F SM)
 refine ww<|ww<|pF rfl<|mv rfl<|bE h fun Wq SN h=>?_
 obtain rfl:=O (F SN)
 refine ww<|ww<|ww<|pF rfl<|mv rfl<|bE h fun Wr SO h=>?_
 obtain rfl:=O (F SO)
 refine ww<|ww<|ww<|ww<|pF rfl<|mv rfl<|bE h fun Ws SP h=>?_
 obtain rfl:=O (F SP)
 refine ww<|ww<|ww<|ww<|pF rfl<|mv rfl<|bE h fun SQ SR h=>?_
 obtain rfl:=O (F SR)
 refine ww<|ww<|ww<|ww<|pF rfl<|mv rfl<|bE h fun SS SU h=>?_
 obtain rfl:=O (F SU)
 refine ww<|ww<|ww<|pF rfl<|mv rfl<|bE h fun SW SX h=>?_
 obtain rfl:=O (F SX)
 exact ww<|ww<|ww<|ww<|pF rfl<|ag rfl<|dn<|⟨false,h,wR []⟩
 obtain⟨⟨⟨K9,La⟩,⟨Lb,Lc⟩⟩,El,tq⟩:=bS (V tq)
 refine gc (cH El) ⟨rfl,rfl,trivial⟩ ?_
 obtain⟨⟨An,Ao⟩,IW,tq⟩:=bS tq
 refine gc (gA IW) ⟨rfl,trivial⟩<|bE tq fun tO Em tq=>gc (eO Em) ⟨rfl,rfl,trivial⟩ ?_
 obtain rfl:=O tq
 refine pT rfl<|mv rfl<|bE h fun Wt Dn h=>?_
 cases tO
 obtain rfl:=O (F Dn)
 refine ww<|ww<|pF rfl<|mv rfl<|bE h fun Wu SY h=>?_
 obtain rfl:=O (F SY)
 refine ww<|ww<|pF rfl<|mv rfl<|bE h fun Wv SZ h=>?_
 obtain rfl:=O (F SZ)
 refine ww<|ww<|pF rfl<|mv rfl<|bE h fun Ww S0 h=>?_
 obtain rfl:=O (F S0)
 refine ww<|ww<|pF rfl<|mv rfl<|bE h fun Wx S3 h=>?_
 obtain rfl:=O (F S3)
 refine ww<|ww<|pF rfl<|mv rfl<|bE h fun Wy S4 h=>?_
 obtain rfl:=O (F S4)
 refine ww<|ww<|pF rfl<|mv rfl<|bE h fun Wz S5 h=>?_
 obtain rfl:=O (F S5)
 refine ww<|ww<|ww<|pF rfl<|mv rfl<|bE h fun WA S6 h=>?_
 obtain rfl:=O (F S6)
 refine ww<|ww<|ww<|ww<|pF rfl<|mv rfl<|bE h fun WB S7 h=>?_
 obtain rfl:=O (F S7)
 refine ww<|ww<|ww<|ww<|pF rfl<|mv rfl<|bE h fun S8 S9 h=>?_
 obtain rfl:=O (F S9)
 refine ww<|ww<|ww<|ww<|pF rfl<|mv rfl<|bE h fun Ta Tb h=>?_
 obtain rfl:=O (F Tb)
 refine ww<|ww<|ww<|pF rfl<|mv rfl<|bE h fun Tc Td h=>?_
 obtain rfl:=O (F Td)
 exact ww<|ww<|ww<|ww<|pF rfl<|ag rfl<|dn<|⟨false,h,wR []⟩
 refine gm rfl<|lE (V Dn) fun IS Nk Dn=>BU _ rfl rfl (o6 (p:=eT) (q:=0) Nk) ?_
 obtain rfl:=O Dn
 refine pT rfl<|mv rfl<|bE h fun WC Dp h=>?_
 cases IS
 obtain rfl:=O (F Dp)
 refine ww<|ww<|pF rfl<|mv rfl<|bE h fun WD Te h=>?_
 obtain rfl:=O (F Te)
 refine ww<|ww<|pF rfl<|mv rfl<|bE h fun WE Tf h=>?_
 obtain rfl:=O (F Tf)
 refine ww<|ww<|pF rfl<|mv rfl<|bE h fun WG Tg h=>?_
 obtain rfl:=O (F Tg)
 refine ww<|ww<|pF rfl<|mv rfl<|bE h fun WH Th h=>?_
 obtain rfl:=O (F Th)
 refine ww<|ww<|pF rfl<|mv rfl<|bE h fun WI Ti h=>?_
 obtain rfl:=O (F Ti)
 refine ww<|ww<|ww<|pF rfl<|mv rfl<|bE h fun WJ Tj h=>?_
 obtain rfl:=O (F Tj)
 refine ww<|ww<|ww<|ww<|pF rfl<|mv rfl<|bE h fun WK Tk h=>?_
 obtain rfl:=O (F Tk)
 refine ww<|ww<|ww<|ww<|pF rfl<|mv rfl<|bE h fun Tl Tm h=>?_
 obtain rfl:=O (F Tm)
 refine ww<|ww<|ww<|ww<|pF rfl<|mv rfl<|bE h fun Tn To h=>?_
 obtain rfl:=O (F To)
 refine ww<|ww<|ww<|pF rfl<|mv rfl<|bE h fun Tp Tq h=>?_
 obtain rfl:=O (F Tq)
 exact ww<|ww<|ww<|ww<|pF rfl<|ag rfl<|dn<|⟨false,h,wR []⟩
 refine gm rfl<|lE (V Dp) fun Eb Kt Dp=>BU _ rfl rfl (o6 (p:=iz) (q:=0) Kt) ?_
 obtain rfl:=O Dp
 refine pT rfl<|mv rfl<|bE h fun WL Dq h=>?_
 cases Eb
 obtain rfl:=O (F Dq)
 refine ww<|ww<|pF rfl<|mv rfl<|bE h fun WM Tr h=>?_
 obtain rfl:=O (F Tr)
 refine ww<|ww<|pF rfl<|mv rfl<|bE h fun WN Ts h=>?_
 obtain rfl:=O (F Ts)
 refine ww<|ww<|pF rfl<|mv rfl<|bE h fun WO Tt h=>?_
 obtain rfl:=O (F Tt)
 refine ww<|ww<|pF rfl<|mv rfl<|bE h fun WQ Tu h=>?_
 obtain rfl:=O (F Tu)
 refine ww<|ww<|ww<|pF rfl<|mv rfl<|bE h fun WR Tv h=>?_
 obtain rfl:=O (F Tv)
 refine ww<|ww<|ww<|ww<|pF rfl<|mv rfl<|bE h fun WS Tw h=>?_
 obtain rfl:=O (F Tw)
 refine ww<|ww<|ww<|ww<|pF rfl<|mv rfl<|bE h fun Tx Ty h=>?_
 obtain rfl:=O (F Ty)
 refine ww<|ww<|ww<|ww<|pF rfl<|mv rfl<|bE h fun Tz TA h=>?_
 obtain rfl:=O (F TA)
 refine ww<|ww<|ww<|pF rfl<|mv rfl<|bE h fun TB TC h=>?_
 obtain rfl:=O (F TC)
 exact ww<|ww<|ww<|ww<|pF rfl<|ag rfl<|dn<|⟨false,h,wR []⟩
 refine gm rfl<|lE (V Dq) fun Pp h64 Dq=>BU _ rfl rfl (o6 (p:=eo) (q:=1) h64) ?_
 obtain rfl:=O Dq
 refine pT rfl<|mv rfl<|bE h fun WT Dr h=>?_
 cases Pp
 obtain rfl:=O (F Dr)
 refine ww<|ww<|pF rfl<|mv rfl<|bE h fun WU TD h=>?_
 obtain rfl:=O (F TD)
 refine ww<|ww<|pF rfl<|mv rfl<|bE h fun WV TE h=>?_
 obtain rfl:=O (F TE)
 refine ww<|ww<|pF rfl<|mv rfl<|bE h fun WW TF h=>?_
 obtain rfl:=O (F TF)
 refine ww<|ww<|ww<|pF rfl<|mv rfl<|bE h fun WX TG h=>?_
 obtain rfl:=O (F TG)
 refine ww<|ww<|ww<|ww<|pF rfl<|mv rfl<|bE h fun WY TH h=>?_
 obtain rfl:=O (F TH)
 refine ww<|ww<|ww<|ww<|pF rfl<|mv rfl<|bE h fun TI TJ h=>?_
 obtain rfl:=O (F TJ)
 refine ww<|ww<|ww<|ww<|pF rfl<|mv rfl<|bE h fun TK TL h=>?_
 obtain rfl:=O (F TL)
 refine ww<|ww<|ww<|pF rfl<|mv rfl<|bE h fun TM TN h=>?_
 obtain rfl:=O (F TN)
 exact ww<|ww<|ww<|ww<|pF rfl<|ag rfl<|dn<|⟨false,h,wR []⟩
 refine gm rfl<|lE (V Dr) fun MO YW Dr=>BU _ rfl rfl (o6 (p:=lB) (q:=1) YW) ?_
 obtain rfl:=O Dr
 refine pT rfl<|mv rfl<|bE h fun WZ Ds h=>?_
 cases MO
 obtain rfl:=O (F Ds)
 refine ww<|ww<|pF rfl<|mv rfl<|bE h fun W0 TO h=>?_
 obtain rfl:=O (F TO)
 refine ww<|ww<|pF rfl<|mv rfl<|bE h fun W2 TP h=>?_
 obtain rfl:=O (F TP)
 refine ww<|ww<|ww<|pF rfl<|mv rfl<|bE h fun W4 TQ h=>?_
 obtain rfl:=O (F TQ)
 refine ww<|ww<|ww<|ww<|pF rfl<|mv rfl<|bE h fun W5 TS h=>?_
 obtain rfl:=O (F TS)
 refine ww<|ww<|ww<|ww<|pF rfl<|mv rfl<|bE h fun TT TU h=>?_
 obtain rfl:=O (F TU)
 refine ww<|ww<|ww<|ww<|pF rfl<|mv rfl<|bE h fun TV TW h=>?_
 obtain rfl:=O (F TW)
 refine ww<|ww<|ww<|pF rfl<|mv rfl<|bE h fun TX TY h=>?_
 obtain rfl:=O (F TY)
 exact ww<|ww<|ww<|ww<|pF rfl<|ag rfl<|dn<|⟨false,h,wR []⟩
 refine gm rfl<|lE (V Ds) fun MS Zd Ds=>BU _ rfl rfl (o6 (p:=nY) (q:=12) Zd) ?_
 obtain rfl:=O Ds
 refine pT rfl<|mv rfl<|bE h fun W6 Dt h=>?_
 cases MS
 obtain rfl:=O (F Dt)
 refine ww<|ww<|pF rfl<|mv rfl<|bE h fun W7 TZ h=>?_
 obtain rfl:=O (F TZ)
 refine ww<|ww<|ww<|pF rfl<|mv rfl<|bE h fun W8 T1 h=>?_
 obtain rfl:=O (F T1)
 refine ww<|ww<|ww<|ww<|pF rfl<|mv rfl<|bE h fun W9 T3 h=>?_
 obtain rfl:=O (F T3)
 refine ww<|ww<|ww<|ww<|pF rfl<|mv rfl<|bE h fun T4 T5 h=>?_
 obtain rfl:=O (F T5)
 refine ww<|ww<|ww<|ww<|pF rfl<|mv rfl<|bE h fun T6 T7 h=>?_
 obtain rfl:=O (F T7)
 refine ww<|ww<|ww<|pF rfl<|mv rfl<|bE h fun T8 T9 h=>?_
 obtain rfl:=O (F T9)
 exact ww<|ww<|ww<|ww<|pF rfl<|ag rfl<|dn<|⟨false,h,wR []⟩
 refine gm rfl<|lE (V Dt) fun x76 h76 Dt=>BU _ rfl rfl (o6 (p:=kO) (q:=1) h76) ?_
 obtain rfl:=O Dt
 refine pT rfl<|mv rfl<|bE h fun Xa xJ h=>?_
 cases x76
 obtain rfl:=O (F xJ)
 refine ww<|ww<|ww<|pF rfl<|mv rfl<|bE h fun Xb Ua h=>?_
 obtain rfl:=O (F Ua)
 refine ww<|ww<|ww<|ww<|pF rfl<|mv rfl<|bE h fun Xc Ub h=>?_
 obtain rfl:=O (F Ub)
 refine ww<|ww<|ww<|ww<|pF rfl<|mv rfl<|bE h fun Uc Ud h=>?_
 obtain rfl:=O (F Ud)
 refine ww<|ww<|ww<|ww<|pF rfl<|mv rfl<|bE h fun Ue Uf h=>?_
 obtain rfl:=O (F Uf)
 refine ww<|ww<|ww<|pF rfl<|mv rfl<|bE h fun Ug Uh h=>?_
 obtain rfl:=O (F Uh)
 exact ww<|ww<|ww<|ww<|pF rfl<|ag rfl<|dn<|⟨false,h,wR []⟩
 refine gm rfl<|lE (V xJ) fun x80 h80 xJ=>gn rfl h80<|lE xJ fun x81 h81 xJ=>BU _ rfl rfl (o6 (p:=x80) (q:=3) h81) ?_
 obtain rfl:=O xJ
 refine pT rfl<|mv rfl<|bE h fun Xd xK h=>?_
 cases x81
 obtain rfl:=O (F xK)
 refine ww<|ww<|ww<|ww<|pF rfl<|mv rfl<|bE h fun Xe Ui h=>?_
 obtain rfl:=O (F Ui)
 refine ww<|ww<|ww<|ww<|pF rfl<|mv rfl<|bE h fun Uj Uk h=>?_
 obtain rfl:=O (F Uk)
 refine ww<|ww<|ww<|ww<|pF rfl<|mv rfl<|bE h fun Ul Um h=>?_
 obtain rfl:=O (F Um)
 refine ww<|ww<|ww<|pF rfl<|mv rfl<|bE h fun Uo Up h=>?_
 obtain rfl:=O (F Up)
 exact ww<|ww<|ww<|ww<|pF rfl<|ag rfl<|dn<|⟨false,h,wR []⟩
 refine gm rfl ?_
 obtain⟨⟨Ld,Le⟩,Zf,xK⟩:=bS (V xK)
 refine RT.FM (.some rfl rfl) rfl rfl T Zf<|RT.mz (cs:=[_,_]) (.some rfl rfl) rfl T rfl rfl<|bE xK fun MT Zh xK=>gc (eO Zh) ⟨rfl,rfl,trivial⟩ ?_
 obtain rfl:=O xK
 refine pT rfl<|mv rfl<|bE h fun Xf xL h=>?_
 cases MT
 obtain rfl:=O (F xL)
 refine ww<|ww<|ww<|ww<|pF rfl<|mv rfl<|bE h fun Uq Ur h=>?_
 obtain rfl:=O (F Ur)
 refine ww<|ww<|ww<|ww<|pF rfl<|mv rfl<|bE h fun Us Ut h=>?_
 obtain rfl:=O (F Ut)
 refine ww<|ww<|ww<|pF rfl<|mv rfl<|bE h fun Uu Uv h=>?_
 obtain rfl:=O (F Uv)
 exact ww<|ww<|ww<|ww<|pF rfl<|ag rfl<|dn<|⟨false,h,wR []⟩
 refine gm rfl ?_
 obtain⟨⟨Dl,Dm⟩,QS,xL⟩:=bS (V xL)
 refine RT.FM (.some rfl rfl) rfl rfl T QS<|RT.mz (cs:=[_,_]) (.some rfl rfl) rfl T rfl rfl<|bE xL fun MU Zi xL=>gc (eO Zi) ⟨rfl,rfl,trivial⟩ ?_
 obtain rfl:=O xL
 refine pT rfl<|mv rfl<|bE h fun Uw xM h=>?_
 cases MU
 obtain rfl:=O (F xM)
 refine ww<|ww<|ww<|ww<|pF rfl<|mv rfl<|bE h fun Ux Uy h=>?_
 obtain rfl:=O (F Uy)
 refine ww<|ww<|ww<|pF rfl<|mv rfl<|bE h fun Uz UA h=>?_
 obtain rfl:=O (F UA)
 exact ww<|ww<|ww<|ww<|pF rfl<|ag rfl<|dn<|⟨false,h,wR []⟩
 refine gm rfl ?_
 obtain⟨⟨Lf,Lg⟩,Zj,xM⟩:=bS (V xM)
 refine RT.FM (.some rfl rfl) rfl rfl T Zj<|RT.mz (cs:=[_,_]) (.some rfl rfl) rfl T rfl rfl<|bE xM fun RJ h99 xM=>gc (eO h99) ⟨rfl,rfl,trivial⟩ ?_
 obtain rfl:=O xM
 refine pT rfl<|mv rfl<|bE h fun UB xN h=>?_
 cases RJ
 obtain rfl:=O (F xN)
 refine ww<|ww<|ww<|pF rfl<|mv rfl<|bE h fun UC UD h=>?_
 obtain rfl:=O (F UD)
 exact ww<|ww<|ww<|ww<|pF rfl<|ag rfl<|dn<|⟨false,h,wR []⟩
 refine RT.move (.some rfl rfl) (s:=.ptr _ _) rfl T ?_
 obtain⟨⟨Hi,Hj⟩,Nm,xN⟩:=bS (V xN)
 refine RT.jl (.some rfl rfl) (tZ Nm) 11 [314] rfl ⟨rfl,trivial⟩ (by decide) rfl rfl (.cons rfl (.cons rfl (.nil))) T<|bE xN fun yC Gp xN=>gc (eO Gp) ⟨rfl,rfl,trivial⟩ ?_
 obtain rfl:=O xN
 refine pT rfl<|mv rfl<|bE h fun UE tu h=>?_
 cases yC
 obtain rfl:=O (F tu)
 exact ww<|ww<|ww<|ww<|pF rfl<|ag rfl<|dn<|⟨false,h,wR []⟩
 refine RT.move (.some rfl rfl) (s:=.ptr _ _) rfl T<|bE (V tu) fun RK aaI tu=>RT.jl (.some rfl rfl) (ee aaI) 11 [314] rfl ⟨rfl,trivial⟩ (by decide) rfl rfl (.cons rfl (.nil)) T<|lE tu fun N4 aaJ tu=>gn rfl aaJ<|lE tu fun EG N5 tu=>BU _ rfl rfl (o6 (p:=N4) (q:=2) N5) ?_
 obtain rfl:=O tu
 exact pT rfl<|ag rfl<|dn<|⟨EG,h,wR []⟩
 try dsimp only
 refine ae.n<|aq ?_
 obtain rfl:=O h
 exact R1 rfl
theorem oR{x0:Nat}{x1:List Mv}{r:Int×(List En)}(h:fT x0 x1=some r):EE Try.prog 15 [.v (.int .u8 ((x0:Nat):Int)),slc 7 (List.map z9 x1)] false [] 66 [.s (.v (.int .i64 r.1)),.r (TR 43 5 dj r.2)]:=by
 refine AI Try.func15 rfl (Nat.le_of_ble_eq_true rfl) (fun eV M vs hvs=>?_)
 unfold fT at h
 refine sr<|ag rfl<|dn<|sr<|mv rfl<|lE h fun eN gL h=>cv _ rfl gL<|lE h fun jE lU h=>RT.rem .none _ rfl rfl T (by decide) lU<|lE h fun fF iY h=>ad _ rfl rfl iY ?_
 obtain⟨⟨mF,qC⟩,jw,h⟩:=bS h
 refine RT.C9 .none (tf jw) [302] (by decide) rfl ⟨⟨rfl,T⟩,trivial⟩ rfl ⟨rfl,trivial⟩ T rfl rfl<|mo (s:=.cmp _ _) rfl<|RT.qT .none rfl rfl T<|RT.qT .none rfl rfl T<|an (s:=.ptr _ _) rfl<|ag rfl<|dn<|qq<|sr<|mv rfl<|ne false rfl rfl (by decide)<|dn<|fs<|qq<|sr<|ag rfl<|dn<|bE h fun e8 As rU=>?_
 refine bg (fun(r9:(List En))=>AS.cm 47 [(5,.ptr 13 0)] [(13,⟨66,[.sv (.v (.int .i64 mF)),.row 305]⟩)] [(305,TR 43 5 dj r9)]) (fun r9=>r9=e8) ?_ (fun r9 At=>?_)
 refine ax ?_
 refine bh As (fun s8=>AS.cm 47 [(1,.sv (slc 7 (List.map z9 x1))),(5,.ptr 13 0),(7,.sv (.v (.int .i64 s8.1)))] [(13,⟨66,[.sv (.v (.int .i64 mF)),.row 305]⟩)] [(305,TR 43 5 dj s8.2)]) (dz (fun i=>bif Nat.beq i 305 then 302 else i) rfl rfl rfl rfl rfl ⟨.sv (SV.aa _),.ptr,.sv (SV.aa _),trivial⟩ ⟨⟨_,rfl,⟨.sv (SV.aa _),.row rfl,trivial⟩⟩,trivial⟩ ⟨⟨_,rfl,cc.refl _⟩,trivial⟩ (fun i hi=>by rw[bB (show i≠305 by omega)];rfl)) (fun s8 y8 G8 h Au Av=>?_)
 obtain⟨CA,ze⟩:=s8
 try dsimp only
 refine qq<|sr<|mv rfl<|mv rfl<|lE h fun fX kE h=>ln rfl kE<|lE h fun iz pB h=>ls _ rfl rfl pB<|dn ?_
 cases iz
 refine cF<|bq<|ae.x<|ae.x<|aF.x<|ae.n ?_
 obtain rfl:=O (F h)
 exact⟨ze,Av _ rfl,wR []⟩
 refine cT<|aG<|ae.n<|qq<|ax<|ak mixed<|mo (s:=.ptr _ _) rfl<|mv rfl<|mv rfl ?_
 obtain⟨⟨iB,iC,RL,⟨⟨RM,RN⟩,⟨RO,RQ⟩⟩⟩,n8,h⟩:=bS (V h)
 refine ix rfl rfl n8<|RT.aS .none rfl T rfl<|lr rfl rfl<|mv rfl<|mv rfl ?_
 obtain⟨⟨jL,iW,qL,⟨⟨qM,RR⟩,⟨RU,RV⟩⟩⟩,lD,h⟩:=bS h
 refine ix rfl rfl lD<|RT.aS .none rfl T rfl<|lr rfl rfl<|mv rfl<|mv rfl ?_
 obtain⟨⟨mI,mJ,vS,⟨⟨xC,RW⟩,⟨RX,RY⟩⟩⟩,yH,h⟩:=bS h
 refine ix rfl rfl yH<|RT.aS .none rfl T rfl<|lr rfl rfl<|mv rfl<|mv rfl ?_
 obtain⟨⟨R3,R4,R5,⟨⟨Lh,Li⟩,⟨Lj,Lk⟩⟩⟩,Ar,h⟩:=bS h
 refine ix rfl rfl Ar<|RT.aS .none rfl T rfl<|RT.mz (cs:=[_,_,_,_]) .none rfl T rfl rfl ?_
 obtain⟨⟨BW,uy⟩,Gj,h⟩:=bS h
 refine RT.qS .none (bP Gj) 13 [305] [309] rfl ⟨rfl,trivial⟩ (by decide) (by decide) rfl ⟨⟨rfl,T⟩,trivial⟩ rfl rfl (.cons rfl (.cons rfl (.cons rfl (.cons rfl (.cons rfl (.nil)))))) T ?_
 refine RT.done ⟨by kernel_rfl,?_⟩
 refine aF.n<|ae.n<|ah<|mv rfl<|lE h fun iy mM h=>ad _ rfl rfl mM<|ag rfl<|RT.done ?_
 obtain rfl:=O h
 exact ae.n ⟨(iy,uy),Au _ rfl,dz (fun i=>bif Nat.beq i 305 then 309 else i) rfl rfl rfl rfl rfl ⟨.sv (SV.aa _),.ptr,.sv (SV.aa _),trivial⟩ ⟨⟨_,rfl,⟨.sv (SV.aa _),.row rfl,trivial⟩⟩,trivial⟩ ⟨⟨_,rfl,cc.refl _⟩,trivial⟩ (fun i hi=>by rw[bB (show i≠305 by omega)];rfl)⟩
 subst At
 try dsimp only
 refine ae.n<|sr<|mo (s:=.ptr _ _) rfl<|an (s:=.ptr _ _) rfl<|dn<|aq ?_
 obtain rfl:=O rU
 exact⟨.inr rfl,13,[305],.tmp rfl,rfl,⟨rfl,trivial⟩,by decide⟩
end Go.Proofs.Ytmiflmkdaeianaa
namespace Go.Fw
open Go.RowKit
def Mem.to(M:Mem)(N:Nat):Mem:=fun b o=>if b<N then M b o else none
theorem Mem.Ll(M:Mem)(N:Nat):(M.to N).le M:=fun b o v h=>by
 unfold Mem.to at h
 split at h
 ·exact h
 ·cases h
theorem Mem.Jq{M M':Mem}(h:M.le M')(N:Nat):(M.to N).le (M'.to N):=fun b o v e=>by
 unfold Mem.to at*
 split at e
 ·rename_i hn;rw[if_pos hn];exact h b o v e
 ·cases e
def od(N:Nat)(s:SV):SV:=⟨fun M v=>s.h (M.to N) v,fun hM h=>s.mono (Mem.Jq hM N) h⟩
theorem zf{N:Nat}{s:SV}:SV.imp (od N s) s:=fun M _ h=>s.mono (Mem.Ll M N) h
def AV.od(N:Nat):AV→AV
 |.sv s=>.sv (Fw.od N s)
 |x=>x
theorem AV.Lm{N:Nat}{x:AV}{j:Nat}:(x.od N).mb j↔x.mb j:=by cases x<;>exact Iff.rfl
theorem AV.Ln{N:Nat}{x:AV}{j:Nat}:(x.od N).mr j↔x.mr j:=by cases x<;>exact Iff.rfl
def AS.od(N:Nat)(S:AS):AS:={S with t:=fun s=>(S.t s).od N,b:=fun j=>(S.b j).map fun B=>⟨B.T,B.cells.map (AV.od N)⟩}
theorem AV.AU{E:Env}{N:Nat}(h:E.M.le (E.M.to N)){x:AV}{v:Value}(hx:x.holds E v):(x.od N).holds E v:=by
 cases x with
 |sv s=>exact s.mono h hx
 |_=>exact hx
theorem bz.od{E:Env}{N:Nat}(h:E.M.le (E.M.to N)):∀{l:List AV} {vs:List Value},bz E l vs→bz E (l.map (AV.od N)) vs
 |[],[],_=>trivial
 |_::_,_::_,hv=>⟨AV.AU h hv.1,bz.od h hv.2⟩
 |[],_::_,hv=>hv.elim
 |_::_,[],hv=>hv.elim
section
variable {P:Program}{C:Ctx}{S:AS}{Q:Exit→AS→Prop}
theorem ai.odd{E:Env}{a:Act}{w:World}(h:ai C S E a w){N:Nat}(hN:w.heap.size≤N):ai C (S.od N) E a w:=by
 have hle:E.M.le (E.M.to N):=fun b o v e=>by
  have:=ga h.bu e
  unfold Mem.to;rw[if_pos (by omega)];exact e
 have rI:∀i B,(S.od N).b i=some B→∃B0,S.b i=some B0∧B=⟨B0.T,B0.cells.map (AV.od N)⟩:=fun i B hB=>by
  have hB:(S.b i).map (fun B=>(⟨B.T,B.cells.map (AV.od N)⟩:iP))=some B:=hB
  cases e:S.b i with
  |none=>rw[e]at hB;cases hB
  |some B0=>rw[e]at hB;cases hB;exact⟨B0,rfl,rfl⟩
 have bTo:∀i B0,S.b i=some B0→∃B,(S.od N).b i=some B:=fun i B0 e=>⟨_,by show(S.b i).map _=_;rw[e];rfl⟩
 exact{h with
  wf:=by
   refine⟨fun s j hj=>?_,fun s j hj=>h.wf.tr s j (AV.Ln.1 hj),fun i B hB x hx j hj=>?_,fun i B hB x hx j hj=>?_⟩
   ·obtain⟨B,hB⟩:=h.wf.tb s j (AV.Lm.1 hj);exact bTo j B hB
   ·obtain⟨B0,h0,rfl⟩:=rI i B hB
    obtain⟨y,hy,rfl⟩:=List.mem_map.1 hx
    obtain⟨B1,h1⟩:=h.wf.bb i B0 h0 y hy j (AV.Lm.1 hj)
    exact bTo j B1 h1
   ·obtain⟨B0,h0,rfl⟩:=rI i B hB
    obtain⟨y,hy,rfl⟩:=List.mem_map.1 hx
    exact h.wf.br i B0 h0 y hy j (AV.Ln.1 hj)
  tm:=fun s=>AV.AU hle (h.tm s)
  bx:=fun i B hB=>by
   obtain⟨B0,h0,rfl⟩:=rI i B hB
   obtain⟨h1,h2,h3,vs,h4,h5⟩:=h.bx i B0 h0
   exact⟨h1,h2,h3,vs,h4,h5.od hle⟩
  inj:=fun i j B B' hi hj e=>by
   obtain⟨B0,h0,_⟩:=rI i B hi
   obtain⟨B1,h1,_⟩:=rI j B' hj
   exact h.inj i j B0 B1 h0 h1 e
  rx:=fun i R hR=>by
   obtain⟨p1,p2⟩:=h.rx i R hR
   refine⟨p1,fun g hg=>?_⟩
   obtain⟨q1,q2,q3,q4⟩:=p2 g hg
   refine⟨q1,q2,q3,fun j B hB=>?_⟩
   obtain⟨B0,h0,_⟩:=rI j B hB
   exact q4 j B0 h0}
theorem AW{f:FuncId}{fn:Func}{code:Code}{args:List SV}{r:SV}(hf:P.funcs[f]? =some fn)(hb:fn.body=some code)(hn:args.length≤fn.ntmps)
  (h:∀(w:World) (M:Mem) (vs:List Value),M.bu w→SV.cG M args vs→Ok P (yj w M) code (AS.init fn.ntmps args) (fun e S=>(e=.normal∨e=.ret)∧EV P S fn.results.toList r)):Pure P f args r:=by
 intro M w vs hM hvs
 refine(callsIn_wide (n:=0)).1 (callsIn_of_wp_marks (F:=Fence.wide) hf hb trivial ?_)
 refine wpIn_mono (h w M vs hM hvs _ w ⟨_,eR hM hvs hn⟩) ?_
 rintro e a' w' ⟨S',⟨he,ss,HY,himp⟩,E,hh⟩
 have key:LeavesInM Fence.wide 0 P fn a'.tmps (fun e w'=>∃v M',e=.returned v∧M.le M'∧(∀b o x,M' b o=some x→M b o=some x∨w.heap.size≤b)∧M'.bu w'∧r.h M' v∧Below w.heap.size w w') a'.defers .returning w':=by
  obtain⟨ds,h1,h2,h3⟩:=hh.marks
  rw[h1]
  refine fQ ds w' h2 (fun r hr=>(h3 r hr).2.2) (fun w2 g1 g2 g3 g4 g5=>?_)
  have mA:=hh.mW h3 g1 g2 g3 g4 g5
  obtain⟨v,hv,hs⟩:=qe mA HY
  refine⟨v,hv,v,E.M,rfl,mA.m0,fun b o x e=>?_,mA.bu,himp _ _ hs,mA.os,mA.tape,mA.output,mA.grown,fun k hk=>mA.frame k hk (fun h=>h)⟩
  rcases mA.cj b o x e with h|h|h
  ·exact .inl h
  ·exact .inr h
  ·exact h.elim
 rcases he with rfl|rfl
 ·exact key
 ·exact key
def Mem.ct(M:Mem)(N1 N2:Nat):Mem:=fun b o=>if N1≤b∧b<N2 then none else M b o
theorem Mem.Hp(M:Mem)(N1 N2:Nat):(M.ct N1 N2).le M:=fun b o v h=>by
 unfold Mem.ct at h
 split at h
 ·cases h
 ·exact h
def KpS(N1 N2:Nat)(s s':SV):Prop:=∀M v,s.h M v→s'.h (M.ct N1 N2) v
theorem Du{N1 N2:Nat}{s s':SV}(h:SV.imp s (od N1 s')):KpS N1 N2 s (od N1 s'):=fun M v hv=>by
 refine s'.mono (fun b o x e=>?_) (h M v hv)
 unfold Mem.to Mem.ct at*
 split at e
 ·rename_i hb;rw[if_pos hb,if_neg (by omega)];exact e
 ·cases e
inductive N6 (N1 N2:Nat):AV→AV→Prop
 |sv {s s':SV} (h:KpS N1 N2 s s'):N6 N1 N2 (.sv s) (.sv s')
 |ptr {i o:Nat}:N6 N1 N2 (.ptr i o) (.ptr i o)
theorem N6.holds{N1 N2:Nat}{x y:AV}{E:Env}{v:Value}(h:N6 N1 N2 x y)(hx:x.holds E v):y.holds {E with M:=E.M.ct N1 N2} v:=by
 cases h with
 |sv h=>exact h _ _ hx
 |ptr=>exact hx
def EH(N1 N2:Nat):List AV→List AV→Prop
 |[],[]=>True
 |x::l,y::l'=>N6 N1 N2 x y∧EH N1 N2 l l'
 |_,_=>False
theorem EH.holds{N1 N2:Nat}{E:Env}:∀{l l':List AV} {vs:List Value},EH N1 N2 l l'→bz E l vs→bz {E with M:=E.M.ct N1 N2} l' vs
 |[],[],[],_,_=>trivial
 |_::_,_::_,_::_,h,hv=>⟨h.1.holds hv.1,EH.holds h.2 hv.2⟩
 |[],[],_::_,_,hv=>hv.elim
 |_::_,_::_,[],_,hv=>hv.elim
 |[],_::_,_,h,_=>h.elim
 |_::_,[],_,h,_=>h.elim
def Pq(N1 N2:Nat)(S:AS):List (Nat×AV)→Prop
 |[]=>True
 |(k,x)::l=>N6 N1 N2 (S.t k) x∧Pq N1 N2 S l
def Pr(N1 N2:Nat)(S:AS):List (Nat×iP)→Prop
 |[]=>True
 |(k,x)::l=>(∃cs,S.b k=some ⟨x.T,cs⟩∧EH N1 N2 cs x.cells)∧Pr N1 N2 S l
theorem Pq.mem{N1 N2:Nat}{S:AS}:∀{l:List (Nat×AV)},Pq N1 N2 S l→∀p∈l,N6 N1 N2 (S.t p.1) p.2
 |_::_,h,p,hp=>by
  rcases List.mem_cons.1 hp with rfl|hp
  ·exact h.1
  ·exact Pq.mem h.2 p hp
theorem Pr.mem{N1 N2:Nat}{S:AS}:∀{l:List (Nat×iP)},Pr N1 N2 S l→∀p∈l,∃cs,S.b p.1=some ⟨p.2.T,cs⟩∧EH N1 N2 cs p.2.cells
 |_::_,h,p,hp=>by
  rcases List.mem_cons.1 hp with rfl|hp
  ·exact h.1
  ·exact Pr.mem h.2 p hp
theorem ai.aaK{E:Env}{a:Act}{w w':World}(h:ai C S E a w){N1 N2:Nat}(hC:∀b o v,C.M0 b o=some v→b<C.w0.heap.size)(hJ:∀g go O M w,C.J g go O M w)(vg:∀i,C.bX i=none)(hN:C.w0.heap.size≤N1)
  {n:Nat} {ts:List (Nat×AV)} {bs:List (Nat×iP)} {g:Nat} {go:Bool} (hn:S.n=n) (hwf:((ts.all fun p=>p.2.gX bs [])&&(bs.all fun p=>p.2.cells.all fun x=>x.gX bs []))=true) (ht:Pq N1 N2 S ts) (hb:Pr N1 N2 S bs)
  (hos:w'.os=w.os) (gx:w'.tape=w.tape) (hout:w'.output=w.output) (hsize:w.heap.size≤w'.heap.size) (hsame:∀k,k<w.heap.size→(k<N1∨N2≤k∨∀o,E.M k o=none)→w'.heap[k]? =w.heap[k]?):
  ai C (AS.cm n ts bs [] g go) {E with M:=E.M.ct N1 N2} a w' where
 wf:=Fm hwf
 marks:=by
  obtain⟨ds,d1,d2,d3⟩:=h.marks
  refine⟨ds,d1,d2,fun r hr=>?_⟩
  obtain⟨p1,p2,p3⟩:=d3 r hr
  refine⟨p1,p2,?_⟩
  rw[hsame r (Array.getElem?_eq_some_iff.1 p3).1 (.inr (.inr fun o=>?_))]
  ·exact p3
  ·cases e:E.M r o with
   |none=>rfl
   |some v=>exact((h.bu _ _ _ e).no (by simp[World.cell?,p3]) (fun es ck q=>by rw[p3]at q;cases q) (fun c T q=>by rw[p3]at q;cases q)).elim
 size:=by rw[h.size,hn];rfl
 os:=hos.trans h.os
 tape:=gx.trans h.tape
 output:=hout.trans h.output
 grown:=Nat.le_trans h.grown hsize
 frame:=fun k hk ho=>by rw[hsame k (Nat.lt_of_lt_of_le hk h.grown) (.inl (by omega))];exact h.frame k hk ho
 m0:=fun b o v e=>by
  have:=hC b o v e
  show Mem.ct E.M N1 N2 b o=some v
  unfold Mem.ct
  rw[if_neg (by omega)];exact h.m0 b o v e
 cj:=fun b o v e=>h.cj b o v (Mem.Hp _ _ _ _ _ _ e)
 bu:=fun b o v e=>by
  have e0:=Mem.Hp _ _ _ _ _ _ e
  refine(h.bu b o v e0).same (hsame b (ga h.bu e0) ?_)
  have e:Mem.ct E.M N1 N2 b o=some v:=e
  unfold Mem.ct at e
  split at e
  ·cases e
  ·omega
 tm:=fun s=>by
  rcases nQ (ts:=ts) (s:=s)with e|⟨p,hp,rfl,e⟩
  ·show(zS ts s).holds _ _;rw[e];exact trivial
  ·show(zS ts p.1).holds _ _;rw[e];exact(ht.mem p hp).holds (h.tm p.1)
 bx:=fun i B hB=>by
  obtain⟨cs,h1,h2⟩:=hb.mem (i,B) (gY hB)
  obtain⟨h3,h4,h5,vs,h6,h7⟩:=h.bx i _ h1
  refine⟨h3,fun o=>?_,h5,vs,?_,h2.holds h7⟩
  ·show Mem.ct E.M N1 N2 _ o=none
   unfold Mem.ct;split
   ·rfl
   ·exact h4 o
  ·show w'.heap[E.β i]? =_
   rw[hsame _ (Array.getElem?_eq_some_iff.1 h6).1 (.inr (.inr h4))];exact h6
 inj:=fun i j B B' hi hj e=>by
  obtain⟨cs,h1,_⟩:=hb.mem (i,B) (gY hi)
  obtain⟨cs',h2,_⟩:=hb.mem (j,B') (gY hj)
  exact h.inj i j _ _ h1 h2 e
 rx:=fun i R hR=>by cases hR
 cI:=fun i j R R' hi=>by cases hi
 dL:=h.dL
 bX:=fun i v e=>by rw[vg i]at e;cases e
 fO:=fun b hb=>by
  obtain⟨p1,p2,p3⟩:=h.fO b hb
  refine⟨Nat.lt_of_lt_of_le p1 hsize,fun o=>?_,p3⟩
  show Mem.ct E.M N1 N2 _ o=none
  unfold Mem.ct;split
  ·rfl
  ·exact p2 o
 jj:=hJ _ _ _ _ _
def Own(M:Mem)(N1 N2 k:Nat):Prop:=∃o,((M.to N2).fr N1) k o=some (.agg #[])
def CB(P:Program)(f:FuncId)(X:Nat→SV):Prop:=
 ∀(M:Mem) (w:World) (v:Value) (N1 N2:Nat),M.bu w→(nw N1 (X N1)).h (M.to N2) v→
  Calls P f ⟨[v]⟩ w fun e w'=>∃u,e=.returned u∧w'.os=w.os∧w'.tape=w.tape∧w'.output=w.output∧w.heap.size≤w'.heap.size∧∀k,k<w.heap.size→¬Own M N1 N2 k→w'.heap[k]? =w.heap[k]?
theorem Hq{M:Mem}{N1 N2 k:Nat}(h:Own M N1 N2 k):N1≤k∧k<N2∧∃o,M k o=some (.agg #[]):=by
 obtain⟨o,e⟩:=h
 unfold Mem.fr Mem.to at e
 split at e
 ·split at e
  ·exact⟨by assumption,by assumption,o,e⟩
  ·cases e
 ·cases e
end
section
variable {P:Program}{C:Ctx}{ops:Array Oper}{S:AS}{K:List Ac→AS→Prop}{rest:List Oper}{acc:List Ac}
variable {gd:Option (Nat×Bool)}{rg:List Nat}{d:Nat}{ty:TypeId}{pos:String}{aft:Array Edge}{x y z:Operand}{T U E0:TypeId}
theorem RT.N7(hg:Gd ops S gd rg){f:FuncId}[bM P f]{g:Operand}{xs:Array Operand}{at_:Array TypeId}{args:Nat→List SV}{r:Nat→SV}(hp:∀N,jP P f N (args N) (r N))(hf:S.ev g=.sv (.v (.func (.func f) #[] #[])))(hargs:∀N,eM S xs.toList (args N))(hd:d<S.n)
  (next:∀N,C.w0.heap.size≤N→RunT P C ops true K rest [] ((S.od N).set d (.sv (r N)))):RunT P C ops true K (⟨some d,.call ⟨.value g,xs,at_⟩,ty,pos,aft,gd⟩::rest) acc S:=by
 refine .inr ⟨rfl,fun S'=>∃N,C.w0.heap.size≤N∧S'=(S.od N).set d (.sv (r N)),?_,fun S' ⟨N,h1,h2⟩=>by subst h2;exact next N h1⟩
 rintro i a w L Q ho ⟨E,h⟩ hL
 refine aX (C:=C) ho (hg.wanted h (fun s _=>rfl) rfl) ?_
 have mU:a.eval g=.func (.func f) #[] #[]:=by
  have h1:=h.ev g;rw[hf]at h1;exact h1
 have hall:=eM.vals h (hargs w.heap.size) (fun s _=>rfl)
 have hr:(execOp a.eval ⟨some d,.call ⟨.value g,xs,at_⟩,ty,pos,aft,gd⟩).run P w=.ok (.enter f ⟨xs.toList.map a.eval⟩) w:=by
  have e2:xs.map a.eval=⟨xs.toList.map a.eval⟩:=by apply Array.ext';simp
  have e1:=bM.run (P:=P) (f:=f) (xs.map a.eval) w
  rw[←e2]
  simp[execOp,resolve,mU,Deferred.ofValue,invoke,e1]
 refine aY (C:=C) (by intro c h;cases h) hr ?_
 refine⟨fun h=>by simp at h,dh ((hp w.heap.size E.M w _ (Nat.le_refl _) h.bu hall).mono ?_)⟩
 rintro e w' ⟨v,M',rfl,hM,hnew,hin,hv,hb⟩
 exact hL _ _ _ ⟨w.heap.size,h.grown,rfl⟩ ⟨_,((h.odd (Nat.le_refl _)).grow hM hnew hin hb).put (x:=.sv (r w.heap.size)) hv hd cS⟩
end
end Go.Fw
namespace Go.Fw
open Go.RowKit
structure Ic where
 W:World
 Mx:Mem
 b0:Nat
 o0:Nat
 n:Nat
 sz:Nat
 hin:Mx.bu W
 hb:0<n→∃o,Mx b0 o=some (.agg #[])
 cell:∀i k,i<n→k<sz→∃y,Mx b0 (o0+i*sz+k)=some y∧y.oneCell'=true
def Ow(D:Ic)(b:Nat):Prop:=∃o,D.Mx b o=some (.agg #[])
def qZ(D:Ic)(g:Nat)(w:World):Prop:=
 (∀i k y,g≤i→i<D.n→k<D.sz→D.Mx D.b0 (D.o0+i*D.sz+k)=some y→w.cell? ⟨D.b0,D.o0+i*D.sz+k,none⟩=some y)∧
 ∀b,Ow D b→∃us vs T,D.W.heap[b]? =some (.cells ⟨us⟩ T (0,0))∧w.heap[b]? =some (.cells ⟨vs⟩ T (0,0))∧vs.length=us.length
theorem qZ.same{D:Ic}{g:Nat}{w w':World}(h:qZ D g w)(hs:∀b,Ow D b→w'.heap[b]? =w.heap[b]?):qZ D g w':=by
 refine⟨fun i k y h1 h2 h3 h4=>?_,fun b hb=>?_⟩
 ·rw[World.cell?_of_block (w:=w) (a:=⟨D.b0,D.o0+i*D.sz+k,none⟩) (hs _ (D.hb (by omega)))]
  exact h.1 i k y h1 h2 h3 h4
 ·obtain⟨us,vs,T,q1,q2,q3⟩:=h.2 b hb
  exact⟨us,vs,T,q1,by rw[hs b hb];exact q2,q3⟩
theorem N8(D:Ic):qZ D 0 D.W:=by
 refine⟨fun i k y _ h2 h3 h4=>?_,fun b ⟨o,hb⟩=>?_⟩
 ·obtain⟨y',e,ho⟩:=D.cell i k h2 h3
  rw[h4]at e;cases e
  exact(D.hin _ _ _ h4).cell ho
 ·obtain⟨c,T,e⟩:=(show ∃c T,D.W.heap[b]? =some (.cells c T (0,0))from D.hin _ _ _ hb)
  exact⟨c.toList,c.toList,T,by simpa using e,by simpa using e,rfl⟩
def kV(D:Ic)(M:Mem):Ctx:={w0:=D.W,M0:=M,own:=Ow D,mO:=fun _=>False,dL:=fun _=>none,bX:=fun _=>none,ro:=none,J:=fun g _ O _ w=>(∀b,Ow D b→O b)∧qZ D g w,wE:=fun _ h=>h.elim,CH:=fun _ _ h=>(by cases h),jf:=fun _ _ _ _ _ _ _ j _ _ _ hs _ _ _ _=>⟨j.1,j.2.same fun b hb=>hs b (.inr (j.1 b hb))⟩}
section
variable {P:Program}{D:Ic}{M0:Mem}{S:AS}
theorem ai.aaL{E:Env}{a:Act}{w:World}(h:ai (kV D M0) S E a w){b:Nat}{vs vs':List Value}{T:TypeId}(hO:Ow D b)(hw:w.heap[b]? =some (.cells ⟨vs⟩ T (0,0))){g':Nat}(hI:qZ D g' (cO w b vs' T)):ai (kV D M0) {S with g:=g'} E a (cO w b vs' T):=by
 have Xg:E.O b:=h.jj.1 b hO
 obtain⟨hlt,hno,_⟩:=h.fO b Xg
 exact{
  wf:=⟨h.wf.tb,h.wf.tr,h.wf.bb,h.wf.br⟩
  marks:=by
   obtain⟨ds,d1,d2,d3⟩:=h.marks
   refine⟨ds,d1,d2,fun r hr=>?_⟩
   obtain⟨p1,p2,p3⟩:=d3 r hr
   exact⟨p1,p2,by rw[bO (fun e=>p2 (by rw[e];exact Xg))];exact p3⟩
  size:=h.size
  os:=h.os
  tape:=h.tape
  output:=h.output
  grown:=by rw[gO];exact h.grown
  frame:=fun k hk ho=>by rw[bO (fun e=>ho (by rw[e];exact hO))];exact h.frame k hk ho
  m0:=h.m0
  cj:=h.cj
  bu:=cD h.bu fun k ⟨o,v,e⟩=>bO (fun q=>by rw[q,hno o]at e;cases e)
  tm:=h.tm
  bx:=fun i B hB=>by
   obtain⟨p1,p2,p3,us,p4,p5⟩:=h.bx i B hB
   exact⟨p1,p2,p3,us,by rw[bO (fun e=>p3 (by rw[e];exact Xg))];exact p4,p5⟩
  inj:=h.inj
  rx:=fun i R hR=>by
   obtain⟨⟨us,p1,p2⟩,p3⟩:=h.rx i R hR
   exact⟨⟨us,bN p1 fun g hg=>bO (fun e=>(p3 g hg).2.2.1 (by rw[e];exact Xg)),p2⟩,p3⟩
  cI:=h.cI
  dL:=h.dL
  bX:=h.bX
  fO:=fun k hk=>by rw[gO];exact h.fO k hk
  jj:=⟨h.jj.1,hI⟩}
theorem Dv:∀(xs:List Value) (l:List Value) (k:Nat),(gh l k xs).length=l.length
 |[],_,_=>rfl
 |x::xs,l,k=>by rw[gh,Dv xs];simp
theorem Dw:∀(xs:List Value) (l:List Value) (k j:Nat),(j<k∨k+xs.length≤j)→(gh l k xs)[j]? =l[j]?
 |[],_,_,_,_=>rfl
 |x::xs,l,k,j,h=>by
  rw[List.length_cons]at h
  rw[gh,Dw xs _ _ _ (by omega),List.getElem?_set,if_neg (by omega)]
theorem qZ.put{g g':Nat}{w:World}(h:qZ D g w)(hg:g≤g'){b o:Nat}{us vs:List Value}{T:TypeId}(hw:w.heap[b]? =some (.cells ⟨vs⟩ T (0,0)))
  (hne:∀i k,g'≤i→i<D.n→k<D.sz→b=D.b0→D.o0+i*D.sz+k<o∨o+us.length≤D.o0+i*D.sz+k):qZ D g' (cO w b (gh vs o us) T):=by
 refine⟨fun i k y h1 h2 h3 h4=>?_,fun b' hb=>?_⟩
 ·have e:=h.1 i k y (Nat.le_trans hg h1) h2 h3 h4
  by_cases hb:D.b0=b
  ·subst hb
   have q:=hne i k h1 h2 h3 rfl
   simp only[World.cell?,hw]at e
   simp only[World.cell?,kL hw]
   simp only[Option.isSome_none,Bool.false_eq_true,if_false,List.getElem?_toArray]at e⊢
   rw[Dw us vs o _ q];exact e
  ·rw[World.cell?_of_block (w:=w) (a:=⟨D.b0,D.o0+i*D.sz+k,none⟩) (bO hb)];exact e
 ·obtain⟨Ib,EW,T0,q1,q2,q3⟩:=h.2 b' hb
  by_cases e:b'=b
  ·subst e
   rw[hw]at q2;cases q2
   exact⟨Ib,gh vs o us,T,q1,kL hw,by rw[Dv];exact q3⟩
  ·exact⟨Ib,EW,T0,q1,by rw[bO e];exact q2,q3⟩
end
section
variable {P:Program}{C:Ctx}{ops:Array Oper}{S:AS}{nd:Bool}{K:List Ac→AS→Prop}{rest:List Oper}{acc:List Ac}
variable {gd:Option (Nat×Bool)}{rg:List Nat}{d:Nat}{ty:TypeId}{pos:String}{aft:Array Edge}{x y z:Operand}{T U E0:TypeId}{D:Ic}{M0:Mem}
instance{a:Option Addr}{n c:Nat}:OX (.v (.slice a n c)) n:=⟨fun _ v h=>⟨a,c,h⟩⟩
theorem RT.Jr(hg:Gd ops S gd rg){m:Nat}[tS:cK P T E0 m]{a:Option Addr}{n c:Nat}(hx:S.ev x=.sv (.v (.slice a n c)))(hd:d<S.n)
  (next:RunT P C ops nd K rest (⟨rg++af x,[],[],⟨some (d,.sv (.v (.int .i64 n))),[],[]⟩⟩::acc) (S.set d (.sv (.v (.int .i64 n))))):RunT P C ops nd K (⟨some d,.call ⟨.builtin .len,#[x],#[T]⟩,ty,pos,aft,gd⟩::rest) acc S:=
 RT.len hg hx hd next
theorem RT.UF(hg:Gd ops S gd rg){sz:Nat}[tS:cK P T E0 sz]{b o n c:Nat}{kk:IntKind}{i:Nat}(hx:S.ev x=.sv (.v (.slice (some ⟨b,o,none⟩) n c)))(hy:S.ev y=.sv (.v (.int kk (i:Int))))(hd:d<S.n)(hi:i<n)
  (next:RunT P C ops nd K rest (⟨rg++(af x++af y),[],[],⟨some (d,.sv (.v (.pointer (some ⟨b,o+i*sz,none⟩)))),[],[]⟩⟩::acc) (S.set d (.sv (.v (.pointer (some ⟨b,o+i*sz,none⟩)))))):RunT P C ops nd K (⟨some d,.indexAddr T x y,ty,pos,aft,gd⟩::rest) acc S:=
 RT.value hg (af x++af y) [] [] _ hd (by intro c h;cases h) (fun S' ht _ _ E a w h=>by
  have h1:a.eval x=.slice (some ⟨b,o,none⟩) n c:=by have h1:=h.ev x;rw[az (fun _ h=>List.mem_append_left _ h) ht,hx]at h1;exact h1
  have h2:a.eval y=.int kk (i:Int):=by have h2:=h.ev y;rw[az (fun _ h=>List.mem_append_right _ h) ht,hy]at h2;exact h2
  refine⟨.pointer (some ⟨b,o+i*sz,none⟩),?_,rfl,cS⟩
  have hsz:=tS.size w
  have hb:(0:Int)≤(i:Int)∧(i:Int)<(n:Int):=⟨by omega,by omega⟩
  simp[execOp,h2,h1,Instr.indexAt,asIntOf,underlying,tS.u,hsz,dM,hb]
  exact fun q=>absurd q (by omega)) next
theorem RT.Ps(hg:Gd ops S gd rg){f off:Nat}[hf:dR P T f off U][sU:dN P U]{b o:Nat}(hx:S.ev x=.sv (.v (.pointer (some ⟨b,o,none⟩))))(hd:d<S.n)
  (next:RunT P C ops nd K rest (⟨rg++af x,[],[],⟨some (d,.sv (.v (.pointer (some ⟨b,o+off,none⟩)))),[],[]⟩⟩::acc) (S.set d (.sv (.v (.pointer (some ⟨b,o+off,none⟩)))))):RunT P C ops nd K (⟨some d,.fieldAddr T x f,ty,pos,aft,gd⟩::rest) acc S:=
 RT.value hg (af x) [] [] _ hd (by intro c h;cases h) (fun S' ht _ _ E a w h=>by
  have h1:a.eval x=.pointer (some ⟨b,o,none⟩):=by have h1:=h.ev x;rw[az (fun _ h=>h) ht,hx]at h1;exact h1
  have:=mS (P:=P) (T:=T) (f:=f) (off:=off) (U:=U) sU.h b o w
  exact⟨.pointer (some ⟨b,o+off,none⟩),by simp[execOp,h1,this],rfl,cS⟩) next
theorem RT.N9(hg:Gd ops S gd rg)[tV:bY P T]{i k p:Nat}{v:Value}(hx:S.ev x=.sv (.v (.pointer (some ⟨D.b0,p,none⟩))))(hd:d<S.n)(hp:p=D.o0+i*D.sz+k)(hgi:S.g≤i)(hi:i<D.n)(hk:k<D.sz)(hv:D.Mx D.b0 (D.o0+i*D.sz+k)=some v)
  (next:RunT P (kV D M0) ops true K rest [] (S.set d (.sv (.v v)))):RunT P (kV D M0) ops true K (⟨some d,.load T x,ty,pos,aft,gd⟩::rest) acc S:=by
 refine .inr ⟨rfl,fun S'=>S'=S.set d (.sv (.v v)),?_,fun S' h=>by subst h;exact next⟩
 rintro i' a w L Q ho ⟨E,h⟩ hL
 refine aX (C:=kV D M0) ho (hg.wanted h (fun s _=>rfl) rfl) ?_
 have h1:a.eval x=.pointer (some ⟨D.b0,p,none⟩):=by have h1:=h.ev x;rw[hx]at h1;exact h1
 have Mg:w.cell? ⟨D.b0,p,none⟩=some v:=by rw[hp];exact h.jj.2.1 i k v hgi hi hk hv
 refine aY (C:=kV D M0) (by intro c h;cases h) (r:=.ok (.value v) w) ?_ (hL _ _ _ rfl ⟨E,h.put (x:=.sv (.v v)) rfl hd cS⟩)
 simp[execOp,h1,Instr.loadAt,Instr.sureAddr,loadVar,tV.isAgg,Mg]
theorem RT.UG(hg:Gd ops S gd rg){b o:Nat}(us:List Value)(g':Nat)(hx:S.ev x=.sv (.v (.pointer (some ⟨b,o,none⟩))))(hy:∀E a w,ai (kV D M0) S E a w→(a.eval y).cells=⟨us⟩)(hone:∀u∈us,u.oneCell'=true)(hs:∀w:World,(sizeOf T).run P w=.ok us.length w)(hO:Ow D b)
  (hsz:∀j,j<us.length→∃v,D.W.cell? ⟨b,o+j,none⟩=some v) (hle:S.g≤g') (hne:∀i k,g'≤i→i<D.n→k<D.sz→b=D.b0→D.o0+i*D.sz+k<o∨o+us.length≤D.o0+i*D.sz+k)
  (next:RunT P (kV D M0) ops true K rest [] {S with g:=g'}):RunT P (kV D M0) ops true K (⟨none,.store T x y,ty,pos,aft,gd⟩::rest) acc S:=by
 refine .inr ⟨rfl,fun S'=>S'={S with g:=g'},?_,fun S' h=>by subst h;exact next⟩
 rintro i' a w L Q ho ⟨E,h⟩ hL
 refine aX (C:=kV D M0) ho (hg.wanted h (fun s _=>rfl) rfl) ?_
 have h1:a.eval x=.pointer (some ⟨b,o,none⟩):=by have h1:=h.ev x;rw[hx]at h1;exact h1
 have hu:=hy E a w h
 obtain⟨Ib,vs,T',q1,q2,q3⟩:=h.jj.2.2 b hO
 have hlen:us.length=0∨o+us.length≤vs.length:=by
  by_cases h0:us.length=0
  ·exact .inl h0
  ·obtain⟨v,e⟩:=hsz (us.length-1) (by omega)
   simp only[World.cell?,q1]at e
   simp only[Option.isSome_none,Bool.false_eq_true,if_false,List.getElem?_toArray]at e
   have:=(List.getElem?_eq_some_iff.1 e).1
   omega
 have hr:(execOp a.eval ⟨none,.store T x y,ty,pos,aft,gd⟩).run P w=.ok .skip (cO w b (gh vs o us) T'):=by
  rcases hlen with h0|h0
  ·have:us=[]:=List.length_eq_zero_iff.1 h0
   subst this
   simp only[execOp,h1,Instr.storeAt,Instr.sureAddr,storeVar,hu]
   simp only[Sem.run_bind,Sem.run_pure,Result.andThen_ok,hs]
   simp[storeCells,gh,sD q2]
  ·have hst:=eP (P:=P) us 0 o w vs hone q2 (by omega)
   simp only[execOp,h1,Instr.storeAt,Instr.sureAddr,storeVar,hu]
   simp only[Sem.run_bind,Sem.run_pure,Result.andThen_ok,hs]
   simp only[List.size_toArray,ne_eq,not_true_eq_false,if_false]
   simp only[Nat.add_zero]at hst
   simp only[Result.andThen_ok,hst]
 exact aY (C:=kV D M0) (by intro c h;cases h) hr (hL _ _ _ rfl ⟨E,h.aaL hO q2 (h.jj.2.put hle q2 hne)⟩)
end
section
variable {P:Program}
structure SpV (D:Ic) {α:Type} (e:α→List SV) (l:List α) (v:Value):Prop where
 n:D.n=l.length
 v:∃a c,v=.slice a l.length c∧(l≠[]→a=some ⟨D.b0,D.o0,none⟩)∧l.length≤9223372036854775807
 row:∀(i:Nat) (x:α),l[i]? =some x→(e x).length=D.sz∧∀(k:Nat) (s:SV),(e x)[k]? =some s→∃y,D.Mx D.b0 (D.o0+i*D.sz+k)=some y∧y.oneCell'=true∧s.h D.Mx y
theorem AX{f:FuncId}{fn:Func}{code:Code}{sz:Nat}{α:Type}{e:Nat→α→List SV}{l:List α}(hf:P.funcs[f]? =some fn)(hb:fn.body=some code)(hn:1≤fn.ntmps)(hres:fn.results.toList=[])(hel:∀N x,(e N x).length=sz)
  (h:∀(N:Nat) (D:Ic) (M0:Mem) (v:Value),D.sz=sz→SpV D (e N) l v→Ok P (kV D M0) code (AS.init fn.ntmps [.v v]) (fun ex S=>ex=.normal∨ex=.ret)):CB P f (fun N=>slc sz (l.map (e N))):=by
 intro M w v N1 N2 hM hv
 obtain⟨hs,hmk⟩:=hv
 have UH:((M.to N2).fr N1).bu w:=fun b o x q=>hM b o x (Mem.Ll _ _ _ _ _ (Mem.C2 _ _ _ _ _ q))
 obtain⟨D,hDW,hDM,aaM,hV⟩:∃D:Ic,D.W=w∧D.Mx=(M.to N2).fr N1∧D.sz=sz∧SpV D (e N1) l v:=by
  rcases hs with⟨a,h1,h2⟩|⟨b,o,c,h1,h2,h3,h4⟩
  ·have hl:l=[]:=List.map_eq_nil_iff.1 h2
   subst hl
   exact⟨⟨w,(M.to N2).fr N1,0,0,0,sz,UH,fun h=>by omega,fun i k h=>by omega⟩,rfl,rfl,rfl,⟨rfl,⟨a,0,h1,fun h=>(h rfl).elim,by simp⟩,fun i x h=>by simp at h⟩⟩
  ·rw[List.length_map]at h1 h2 h3
   have hcell:∀(i:Nat) (x:α),l[i]? =some x→(e N1 x).length=sz∧∀(k:Nat) (s:SV),(e N1 x)[k]? =some s→∃y,((M.to N2).fr N1) b (o+i*sz+k)=some y∧y.oneCell'=true∧s.h ((M.to N2).fr N1) y:=fun i x hx=>h4 i (e N1 x) (by rw[List.getElem?_map,hx];rfl)
   refine⟨⟨w,(M.to N2).fr N1,b,o,l.length,sz,UH,fun _=>hmk b (by rw[h1];rfl),fun i k hi hk=>?_⟩,rfl,rfl,rfl,⟨rfl,⟨_,c,h1,fun _=>rfl,h3⟩,hcell⟩⟩
   obtain⟨q1,q2⟩:=hcell i _ (List.getElem?_eq_getElem hi)
   obtain⟨y,q3,q4,_⟩:=q2 k _ (List.getElem?_eq_getElem (by omega))
   exact⟨y,q3,q4⟩
 subst hDW
 have hOw:∀k,Ow D k↔Own M N1 N2 k:=fun k=>by unfold Ow Own;rw[hDM]
 have hMc:(M.ct N1 N2).bu D.W:=fun b o x q=>hM b o x (Mem.Hp _ _ _ _ _ _ q)
 have hno:∀b,Ow D b→∀o,(M.ct N1 N2) b o=none:=fun b hb o=>by
  obtain⟨q1,q2,_⟩:=Hq ((hOw b).1 hb)
  unfold Mem.ct;rw[if_pos ⟨q1,q2⟩]
 have hv1:SV.cG (M.ct N1 N2) [.v v] [v]:=⟨rfl,trivial⟩
 have QD:=eR hMc hv1 hn
 have BQ:ai (kV D (M.ct N1 N2)) (AS.init fn.ntmps [.v v]) ⟨fun _=>0,fun _=>.nilIface,Ow D,M.ct N1 N2⟩ {tmps:=⟨[v]⟩++Array.replicate (fn.ntmps-(⟨[v]⟩:Array Value).size) undef,defers:=[]} D.W:=
  {wf:=QD.wf
   marks:=⟨[],rfl,List.nodup_nil,by simp⟩
   size:=QD.size
   os:=rfl
   tape:=rfl
   output:=rfl
   grown:=Nat.le_refl _
   frame:=fun _ _ _=>rfl
   m0:=Mem.le_refl _
   cj:=fun _ _ _ q=>.inl q
   bu:=hMc
   tm:=fun s=>AV.bn (E:=⟨fun _=>0,fun _=>.nilIface,fun _=>False,M.ct N1 N2⟩) (E':=⟨fun _=>0,fun _=>.nilIface,Ow D,M.ct N1 N2⟩) (Mem.le_refl _) (fun _ _=>rfl) (fun _ _=>rfl) (QD.tm s)
   bx:=fun i B q=>by cases q
   inj:=fun i j B B' q=>by cases q
   rx:=fun i R q=>by cases q
   cI:=fun i j R R' q=>by cases q
   dL:=fun i b q=>by cases q
   bX:=fun i v q=>by cases q
   fO:=fun b hb=>by
    obtain⟨o,q⟩:=hb
    have hlt:=(D.hin _ _ _ q).lt
    exact⟨hlt,hno b ⟨o,q⟩,.inl ⟨o,q⟩⟩
   jj:=⟨fun _ hb=>hb,N8 D⟩}
 refine(callsIn_wide (n:=0)).1 (callsIn_of_wp_marks (F:=Fence.wide) hf hb trivial ?_)
 refine wpIn_mono (h N1 D (M.ct N1 N2) v aaM hV _ D.W ⟨_,BQ⟩) ?_
 rintro ex a' w' ⟨S',he,E,hh⟩
 have key:LeavesInM Fence.wide 0 P fn a'.tmps (fun e w'=>∃u,e=.returned u∧w'.os=D.W.os∧w'.tape=D.W.tape∧w'.output=D.W.output∧D.W.heap.size≤w'.heap.size∧∀k,k<D.W.heap.size→¬Own M N1 N2 k→w'.heap[k]? =D.W.heap[k]?) a'.defers .returning w':=by
  obtain⟨ds,h1,h2,h3⟩:=hh.marks
  rw[h1]
  refine fQ ds w' h2 (fun r hr=>(h3 r hr).2.2) (fun w2 g1 g2 g3 g4 g5=>?_)
  have mA:=hh.mW h3 g1 g2 g3 g4 g5
  obtain⟨u,hu,-⟩:=qe (ss:=[]) mA (by rw[hres];trivial)
  exact⟨u,hu,u,rfl,mA.os,mA.tape,mA.output,mA.grown,fun k hk ho=>mA.frame k hk (fun q=>ho ((hOw k).1 q))⟩
 rcases he with rfl|rfl
 ·exact key
 ·exact key
theorem AY{N:Nat}{ws:List Nat}{M:Mem}{y:Value}(h:(nw N (slc 1 (ws.map aj))).h M y):∃a c,y=.slice a ws.length c∧ws.length≤9223372036854775807∧(ws≠[]→∃b o,a=some ⟨b,o,none⟩∧(∃o,M b o=some (.agg #[]))∧∀j,j<ws.length→∃x,M b (o+j)=some (.int .u32 x)):=by
 obtain⟨h1,h2⟩:=h
 rcases h1 with⟨a,e,e2⟩|⟨b,o,c,e,_,e3,e2⟩
 ·have:ws=[]:=List.map_eq_nil_iff.1 e2
  subst this
  exact⟨a,0,e,by simp,fun h=>(h rfl).elim⟩
 ·rw[List.length_map]at e e3
  refine⟨_,c,e,e3,fun _=>⟨b,o,rfl,?_,fun j hj=>?_⟩⟩
  ·obtain⟨o',q⟩:=h2 b (by rw[e];rfl)
   exact⟨o',Mem.C2 _ _ _ _ _ q⟩
  ·obtain⟨_,q⟩:=e2 j (aj ws[j]) (by rw[List.getElem?_map,List.getElem?_eq_getElem hj];rfl)
   obtain⟨y,q1,_,q2⟩:=q 0 _ rfl
   have q2:y=.int .u32 ((ws[j]:Nat):Int):=q2
   subst q2
   have q1:=Mem.C2 _ _ _ _ _ q1
   rw[show o+j*1+0=o+j by omega]at q1
   exact⟨_,q1⟩
theorem EI{M:Mem}:∀{us:List Value} {v:Value},(SV.agg (us.map SV.v)).h M v→v.cells=⟨us⟩:=by
 rintro us v ⟨vs,rfl,h⟩
 have:vs=us:=by
  induction us generalizing vs with
  |nil=>cases vs with|nil=>rfl|cons _ _=>exact h.elim
  |cons u us ih=>
   cases vs with
   |nil=>exact h.elim
   |cons x xs=>
    have h1:x=u:=h.1
    rw[h1,ih xs h.2]
 subst this;rfl
end
end Go.Fw
namespace Go.Fw
open Go.RowKit
section steps
variable {P:Program}{C:Ctx}{ops:Array Oper}{S:AS}{nd:Bool}{K:List Ac→AS→Prop}{rest:List Oper}{acc:List Ac}
variable {gd:Option (Nat×Bool)}{rg:List Nat}{d:Nat}{ty:TypeId}{pos:String}{aft:Array Edge}{x y z:Operand}{T U E0:TypeId}
theorem RT.kW(hg:Gd ops S gd rg){cs:List SV}(hx:S.ev x=.sv (ref cs))(hd:d<S.n)
  (next:RunT P C ops nd K rest (⟨rg++af x,[],[],⟨some (d,.sv (ref cs)),[],[]⟩⟩::acc) (S.set d (.sv (ref cs)))):RunT P C ops nd K (⟨some d,.nilCheck x,ty,pos,aft,gd⟩::rest) acc S:=
 RT.value hg (af x) [] [] (.sv (ref cs)) hd (by intro c h;cases h) (fun S' ht _ _ E a w h=>by
  have h1:=h.ev x
  rw[az (fun _ h=>h) ht,hx]at h1
  have h1:(ref cs).h E.M (a.eval x):=h1
  obtain⟨b,o,e,h2⟩:=h1
  exact⟨a.eval x,by simp[execOp,e],⟨b,o,e,h2⟩,cS⟩) next
theorem RT.Oa(hg:Gd ops S gd rg)[tT:v5 P T]{cs:List SV}(hx:S.ev x=.sv (ref cs))(hy:S.ev y=.sv (.v (.pointer none)))(hd:d<S.n)
  (next:RunT P C ops nd K rest (⟨rg++(af x++af y),[],[],⟨some (d,.sv (.v (.bool false))),[],[]⟩⟩::acc) (S.set d (.sv (.v (.bool false))))):RunT P C ops nd K (⟨some d,.binOp .eql T x y U,ty,pos,aft,gd⟩::rest) acc S:=
 RT.value hg (af x++af y) [] [] (.sv (.v (.bool false))) hd (by intro c h;cases h) (fun S' ht _ _ E a w h=>by
  have h1:=h.ev x
  rw[az (fun _ h=>List.mem_append_left _ h) ht,hx]at h1
  have h2:=h.ev y
  rw[az (fun _ h=>List.mem_append_right _ h) ht,hy]at h2
  have h1:(ref cs).h E.M (a.eval x):=h1
  obtain⟨b,o,h1,_⟩:=h1
  have h2:a.eval y=.pointer none:=h2
  have e:=run_eql_pointer_nil (P:=P) w T (some ⟨b,o,none⟩) tT.u
  refine⟨.bool false,?_,rfl,cS⟩
  simp[execOp,h1,h2,eqGuard,e]) next
theorem RT.Js(hg:Gd ops S gd rg){f:FuncId}[bM P f]{g:Operand}{at_:Array TypeId}{X:Nat→SV}(hp:CB P f X)(hf:S.ev g=.sv (.v (.func (.func f) #[] #[]))){N1:Nat}{s:SV}(hx:S.ev x=.sv s)(hs:SV.imp s (nw N1 (X N1)))
  (hC:∀b o v,C.M0 b o=some v→b<C.w0.heap.size) (hJ:∀g go O M w,C.J g go O M w) (vg:∀i,C.bX i=none) (hN:C.w0.heap.size≤N1)
  {n:Nat} {ts:List (Nat×AV)} {bs:List (Nat×iP)} {g':Nat} {go:Bool} (hn:S.n=n) (hwf:((ts.all fun p=>p.2.gX bs [])&&(bs.all fun p=>p.2.cells.all fun x=>x.gX bs []))=true) (ht:∀N2,Pq N1 N2 S ts) (hb:∀N2,Pr N1 N2 S bs) (hd:(ts.all fun p=>!(Nat.beq d p.1))=true) (hdn:d<n)
  (next:RunT P C ops true K rest [] (AS.cm n ts bs [] g' go)):RunT P C ops true K (⟨some d,.call ⟨.value g,#[x],at_⟩,ty,pos,aft,gd⟩::rest) acc S:=by
 refine .inr ⟨rfl,fun S'=>S'=AS.cm n ts bs [] g' go,?_,fun S' h2=>by subst h2;exact next⟩
 rintro i a w L Q ho ⟨E,h⟩ hL
 refine aX (C:=C) ho (hg.wanted h (fun s _=>rfl) rfl) ?_
 have mU:a.eval g=.func (.func f) #[] #[]:=by
  have h1:=h.ev g;rw[hf]at h1;exact h1
 have hle:E.M.le (E.M.to w.heap.size):=fun b o v e=>by
  have:=ga h.bu e
  unfold Mem.to;rw[if_pos (by omega)];exact e
 have hxv:(nw N1 (X N1)).h (E.M.to w.heap.size) (a.eval x):=by
  have h1:=h.ev x;rw[hx]at h1;exact(nw N1 (X N1)).mono hle (hs _ _ h1)
 have hr:(execOp a.eval ⟨some d,.call ⟨.value g,#[x],at_⟩,ty,pos,aft,gd⟩).run P w=.ok (.enter f ⟨[a.eval x]⟩) w:=by
  have e1:=bM.run (P:=P) (f:=f) (#[a.eval x]) w
  simp[execOp,resolve,mU,Deferred.ofValue,invoke,e1]
 refine aY (C:=C) (by intro c h;cases h) hr ?_
 refine⟨fun h=>by simp at h,dh ((hp E.M w _ N1 w.heap.size h.bu hxv).mono ?_)⟩
 rintro e w' ⟨u,rfl,hos,gx,hout,hsize,hsame⟩
 have hh:=h.aaK (w':=w') hC hJ vg hN (n:=n) (g:=g') (go:=go) hn hwf (ht w.heap.size) (hb w.heap.size) hos gx hout hsize (fun k hk AZ=>hsame k hk (fun ho=>by
  obtain⟨q1,q2,o,q3⟩:=Hq ho
  rcases AZ with q|q|q
  ·omega
  ·omega
  ·rw[q o]at q3;cases q3))
 have hlk:(AS.cm n ts bs [] g' go).set d (.sv .any)=AS.cm n ts bs [] g' go:=by
  refine AS.ext' rfl (fun t=>?_) (fun _=>rfl) (fun _=>rfl) rfl rfl
  by_cases e:t=d
  ·subst e
   rw[AS.fk]
   show _=zS ts t
   rcases nQ (ts:=ts) (s:=t)with q|⟨p,hp,q1,q2⟩
   ·rw[q]
   ·have:=List.all_eq_true.1 hd p hp
    rw[q1]at this
    simp at this
  ·exact AS.dW _ _ _ _ e
 refine hL _ _ _ rfl ?_
 rw[←hlk]
 exact⟨_,hh.put (x:=.sv .any) trivial hdn cS⟩
end steps
end Go.Fw
namespace Go.Proofs.Ytmiflmkdaeianaa
open Go.Fw
noncomputable def gC(x0:Bk):Option (Bool):=match x0 with|⟨aW,aU⟩=>cz (fun(GP:Bool)=>some GP) fun K3=>(bif false then none else(some (decide ((aW:Int)=0))).bind fun eN=>some eN).bind fun AL=>K3 AL
noncomputable def cx(x0:Bk):Option (List En):=match x0 with|⟨aW,aU⟩=>(gC ⟨aW,aU⟩).bind fun x7=>(bif x7 then some []else(some (aU.length:Int)).bind fun fF=>(EY 56 fF (⟨0,0,0,⟨false,[]⟩⟩:En)).bind fun fW=>(some (aU.length:Int)).bind fun eT=>(bR (fun(s8:Int×(List En))=>match s8 with|⟨iD,ik⟩=>(show Option ((Int×(List En))⊕((List En)))from(some (decide ((iD:Int)<eT))).bind fun fX=>(bif fX then(bJ aU iD).bind fun⟨sW,sX,sY,⟨xF,Hr⟩⟩=>(cg ⟨xF,Hr⟩ ⟨false,[]⟩).bind fun⟨iB,iC⟩=>(pY ik iD).bind fun iA=>(stM ik iA ⟨sW,sX,sY,⟨iB,iC⟩⟩).bind fun uy=>(some (IntKind.i64.wrap (iD+1))).bind fun kO=>some (.inl (kO,uy))else some (.inr ik)))) (0,fW)).bind fun ey=>some ey)
end Go.Proofs.Ytmiflmkdaeianaa
namespace Go.Proofs.Ytmiflmkdaeianaa
open Go.Fw Go.Fw.Z Go.RowKit
theorem nH{x0:Bk}{r:Bool}(h:gC x0=some r):Pure Try.prog 50 [ref (P4 x0)] (.v (.bool r)):=by
 obtain⟨aW,aU⟩:=x0
 refine aA Try.func50 rfl (Nat.le_of_ble_eq_true rfl) (fun eV M vs hvs=>?_)
 unfold gC at h
 refine sr<|ag rfl<|dn<|qq ?_
 refine aN h (fun j3=>AS.cm 12 [(2,.sv (.v (.bool j3)))] [] []) (fun h=>?_) (fun GP h=>?_)
 refine ah<|mv rfl<|RT.Oa .none rfl rfl T<|mv rfl<|bE h fun AL oJ h=>gm rfl<|RT.kW (.some rfl rfl) rfl T<|RT.aS (.some rfl rfl) rfl T rfl<|gr rfl rfl<|lE (F oJ) fun eN gL oJ=>BU _ rfl rfl (o6 (p:=aW) (q:=0) gL) ?_
 obtain rfl:=O oJ
 exact pF rfl<|ag rfl<|dn<|⟨eN,h,wR []⟩
 try dsimp only
 refine ae.n<|aq ?_
 obtain rfl:=O h
 exact R1 rfl
theorem kX{x0:Bk}{r:List En}(h:cx x0=some r):Pure Try.prog 17 [ref (P4 x0)] (slc 5 (List.map dj r)):=by
 obtain⟨aW,aU⟩:=x0
 refine aA Try.func17 rfl (Nat.le_of_ble_eq_true rfl) (fun eV M vs hvs=>?_)
 unfold cx at h
 refine sr<|aI rfl (imp_nil (n:=5) (e:=dj))<|dn<|qq<|sr<|mv rfl<|bE h fun x7 h7 h=>cl (nH h7) ⟨rfl,trivial⟩<|dn ?_
 cases x7
 refine fs<|sr<|mv rfl<|RT.kW .none rfl T<|RT.aS .none rfl T rfl<|lr rfl rfl<|lE (F h) fun fF iY h=>ln rfl iY<|bE h fun fW jw h=>RT.sK (n:=5) (e:=dj) .none rfl rfl T rfl T (by rfl) (by decide) (by exact⟨SV.aa _,SV.aa _,SV.aa _,SV.aa _,imp_nil,trivial⟩) jw<|an (s:=.row _) rfl<|dn<|qq<|sr<|mv rfl<|RT.kW .none rfl T<|RT.aS .none rfl T rfl<|lr rfl rfl ?_
 refine lE h fun eT jx h=>ln rfl jx<|mv rfl<|dn<|bE h fun e8 As rU=>?_
 refine bg (fun(ey:(List En))=>AS.cm 35 [(3,.row 13)] [] [(13,TR 43 5 dj ey)]) (fun ey=>ey=e8) ?_ (fun ey At=>?_)
 refine ax ?_
 refine bh As (fun s8=>AS.cm 35 [(3,.row 13),(17,.sv (slc 5 (List.map dj aU))),(18,.sv (.v (.int .i64 eT))),(19,.sv (.v (.int .i64 s8.1)))] [] [(13,TR 43 5 dj s8.2)]) (wR []) (fun s8 y8 G8 h Au Av=>?_)
 obtain⟨iD,ik⟩:=s8
 try dsimp only
 refine sr<|lE h fun fX kE h=>ls _ rfl rfl kE<|dn<|qq ?_
 cases fX
 refine cF<|bq<|ae.x<|ae.x<|aF.x<|ae.n ?_
 obtain rfl:=O (F h)
 exact⟨ik,Av _ rfl,wR []⟩
 refine cT<|aG<|ae.n<|qq<|ax<|sr<|mv rfl ?_
 obtain⟨⟨sW,sX,sY,⟨xF,Hr⟩⟩,nj,h⟩:=bS (V h)
 refine ix rfl rfl nj<|RT.mz (cs:=[_,_,_,_,_]) .none rfl T rfl rfl<|al (cs:=[.v (.int .i64 0),.v (.int .u8 ((0:Nat):Int)),.v (.int .i64 0),.v (.bool false),slc 1 (List.map aj [])]) (by exact⟨SV.aa _,SV.aa _,SV.aa _,SV.aa _,imp_nil,trivial⟩) rfl<|ag rfl<|so rfl rfl rfl<|dn<|sr<|fa rfl rfl<|ld rfl rfl (.cons rfl (.cons rfl (.nil)))<|bI (cs:=[_,_]) (cs':=[.v (.bool false),slc 1 (List.map aj [])]) (.nil) ⟨SV.aa _,imp_nil,trivial⟩ ?_
 obtain⟨⟨iB,iC⟩,n8,h⟩:=bS h
 refine cl (eX n8) ⟨rfl,rfl,trivial⟩<|fa rfl rfl<|RT.uS (cells:=[_,_,_,_,_]) .none rfl rfl rfl rfl T rfl<|dn<|ah<|mo (s:=.row _) rfl<|mv rfl<|ld rfl rfl (.cons rfl (.cons rfl (.cons rfl (.cons rfl (.cons rfl (.nil))))))<|bE h fun iA lD h=>iR rfl rfl rfl lD<|bE h fun uy qG h=>sA ⟨sW,sX,sY,⟨iB,iC⟩⟩ rfl rfl rfl qG<|RT.done<|aF.n<|ae.n<|ah<|lE h fun kO oI h=>ad _ rfl rfl oI<|mv rfl ?_
 refine RT.done ?_
 obtain rfl:=O h
 exact ae.n ⟨(kO,uy),Au _ rfl,wR []⟩
 subst At
 try dsimp only
 refine ae.n<|sr<|mo (s:=.row _) rfl<|an (s:=.row _) rfl<|dn<|bH (dH (i:=13) (E1:=43) (n:=5) (e:=dj) (l:=ey) rfl)<|aq ?_
 obtain rfl:=O rU
 exact R1 rfl
 refine cT<|sr<|aI rfl (imp_nil (n:=5) (e:=dj))<|dn<|aq<|ae.r ?_
 obtain rfl:=O (V h)
 exact R1 rfl
end Go.Proofs.Ytmiflmkdaeianaa
namespace Go.Proofs.Ytmiflmkdaeianaa
open Go.Fw Go.Fw.Z Go.RowKit
theorem sg{x0:Bk}(N:Nat){r:List En}(h:cx x0=some r):jP Try.prog 17 N [ref (P4 x0)] (nw N (slc 5 (List.map (Gt N) r))):=by
 obtain⟨aW,aU⟩:=x0
 refine ec Try.func17 rfl (Nat.le_of_ble_eq_true rfl) (fun eV M vs hN hvs=>?_)
 unfold cx at h
 refine sr<|aI rfl (dO (N:=N) (n:=5) (e:=(Gt N)))<|dn<|qq<|sr<|mv rfl<|bE h fun x7 h7 h=>cl (nH h7) ⟨rfl,trivial⟩<|dn ?_
 cases x7
 refine fs<|sr<|mv rfl<|RT.kW .none rfl T<|RT.aS .none rfl T rfl<|lr rfl rfl<|lE (F h) fun fF iY h=>ln rfl iY<|bE h fun fW jw h=>RT.sK (n:=5) (e:=(Gt N)) .none rfl rfl T rfl T (by rfl) (by decide) (by exact⟨SV.aa _,SV.aa _,SV.aa _,SV.aa _,dO,trivial⟩) jw<|an (s:=.row _) rfl<|dn<|qq<|sr<|mv rfl<|RT.kW .none rfl T<|RT.aS .none rfl T rfl<|lr rfl rfl ?_
 refine lE h fun eT jx h=>ln rfl jx<|mv rfl<|dn<|bE h fun e8 As rU=>?_
 refine bg (fun(ey:(List En))=>AS.cm 35 [(3,.row 13)] [] [(13,TR 43 5 (Gt N) ey)]) (fun ey=>ey=e8) ?_ (fun ey At=>?_)
 refine ax ?_
 refine bh As (fun s8=>AS.cm 35 [(3,.row 13),(17,.sv (slc 5 (List.map dj aU))),(18,.sv (.v (.int .i64 eT))),(19,.sv (.v (.int .i64 s8.1)))] [] [(13,TR 43 5 (Gt N) s8.2)]) (wR []) (fun s8 y8 G8 h Au Av=>?_)
 obtain⟨iD,ik⟩:=s8
 try dsimp only
 refine sr<|lE h fun fX kE h=>ls _ rfl rfl kE<|dn<|qq ?_
 cases fX
 refine cF<|bq<|ae.x<|ae.x<|aF.x<|ae.n ?_
 obtain rfl:=O (F h)
 exact⟨ik,Av _ rfl,wR []⟩
 refine cT<|aG<|ae.n<|qq<|ax<|sr<|mv rfl ?_
 obtain⟨⟨sW,sX,sY,⟨xF,Hr⟩⟩,nj,h⟩:=bS (V h)
 refine ix rfl rfl nj<|RT.mz (cs:=[_,_,_,_,_]) .none rfl T rfl rfl<|al (cs:=[.v (.int .i64 0),.v (.int .u8 ((0:Nat):Int)),.v (.int .i64 0),.v (.bool false),nw N (slc 1 (List.map aj []))]) (by exact⟨SV.aa _,SV.aa _,SV.aa _,SV.aa _,dO,trivial⟩) rfl<|ag rfl<|so rfl rfl rfl<|dn<|sr<|fa rfl rfl<|ld rfl rfl (.cons rfl (.cons rfl (.nil)))<|bI (cs:=[_,_]) (cs':=[.v (.bool false),nw N (slc 1 (List.map aj []))]) (.nil) ⟨SV.aa _,dO,trivial⟩ ?_
 obtain⟨⟨iB,iC⟩,n8,h⟩:=bS h
 refine RT.jQ .none ((yL N n8).w (args':=[_,_]) ⟨(SV.aa _),(SV.It (show cc [.v (.bool false),nw N (slc 1 (List.map aj []))] _ from⟨(SV.aa _),Cg,trivial⟩)),trivial⟩) hN rfl ⟨rfl,rfl,trivial⟩ T<|fa rfl rfl<|RT.uS (cells:=[_,_,_,_,_]) .none rfl rfl rfl rfl T rfl<|dn<|ah<|mo (s:=.row _) rfl<|mv rfl<|ld rfl rfl (.cons rfl (.cons rfl (.cons rfl (.cons rfl (.cons rfl (.nil))))))<|bE h fun iA lD h=>iR rfl rfl rfl lD<|bE h fun uy qG h=>?_
 refine sA ⟨sW,sX,sY,⟨iB,iC⟩⟩ rfl rfl rfl qG<|RT.done<|aF.n<|ae.n<|ah<|lE h fun kO oI h=>ad _ rfl rfl oI<|mv rfl<|RT.done ?_
 obtain rfl:=O h
 exact ae.n ⟨(kO,uy),Au _ rfl,wR []⟩
 subst At
 try dsimp only
 refine ae.n<|sr<|mo (s:=.row _) rfl<|an (s:=.row _) rfl<|dn<|C4 (i:=13) (E1:=43) (n:=5) (e:=(Gt N)) (l:=ey) hN (fun _ h=>h) rfl<|aq ?_
 obtain rfl:=O rU
 exact R1 rfl
 refine cT<|sr<|aI rfl (dO (N:=N) (n:=5) (e:=(Gt N)))<|dn<|aq<|ae.r ?_
 obtain rfl:=O (V h)
 exact R1 rfl
theorem we(l:List En):CB Try.prog 26 (fun N=>slc 5 (l.map (Gt N))):=by
 refine AX (e:=Gt) Try.func26 rfl (Nat.le_of_ble_eq_true rfl) rfl (fun _ _=>rfl) (fun N D M0 v hsz hV=>?_)
 obtain⟨hn,⟨a,c,rfl,ha,adY⟩,hrow⟩:=hV
 have Jt:∀i k x,i<D.n→k<D.sz→D.Mx D.b0 (D.o0+i*D.sz+k)=some (.int .u32 x)→False:=by
  intro i k x hi hk e
  obtain⟨-,q⟩:=hrow i _ (List.getElem?_eq_getElem (by omega))
  have hk4:k=0∨k=1∨k=2∨k=3∨k=4:=by omega
  rcases hk4 with rfl|rfl|rfl|rfl|rfl
  ·obtain⟨y,q1,_,q2⟩:=q 0 _ rfl
   have q2:y=_:=q2
   rw[e]at q1;cases q1;cases q2
  ·obtain⟨y,q1,_,q2⟩:=q 1 _ rfl
   have q2:y=_:=q2
   rw[e]at q1;cases q1;cases q2
  ·obtain⟨y,q1,_,q2⟩:=q 2 _ rfl
   have q2:y=_:=q2
   rw[e]at q1;cases q1;cases q2
  ·obtain⟨y,q1,_,q2⟩:=q 3 _ rfl
   have q2:y=_:=q2
   rw[e]at q1;cases q1;cases q2
  ·obtain⟨y,q1,_,q2⟩:=q 4 _ rfl
   obtain⟨_,_,q2,_⟩:=AY q2
   rw[e]at q1;cases q1;cases q2
 refine aZ<|ah<|RT.yo .none rfl (tl rfl)<|RT.done<|ae.n<|ax ?_
 refine uh (ι:={i:Nat//i≤l.length}) (fun i=>AS.cm 33 [(0,.sv (.v (.slice a l.length c))),(2,.sv (.v (.int .i64 (i.1:Int))))] [] [] i.1) (fun i=>l.length-i.1) ⟨0,Nat.zero_le _⟩ (wR []) ?_
 rintro⟨i,hi⟩
 dsimp only
 by_cases hlt:i<l.length
 ·have hne:l≠[]:=by rintro rfl;simp at hlt
  obtain rfl:=ha hne
  obtain⟨hq,hc⟩:=hrow i _ (List.getElem?_eq_getElem hlt)
  obtain⟨y4,m4,_,z4⟩:=hc 4 _ rfl
  obtain⟨a4,c4,rfl,l4,w4⟩:=AY z4
  refine aZ<|aZ<|ah<|RT.mv .none rfl (tl rfl)<|RT.mv .none rfl (tl rfl)<|RT.Jr .none rfl (tl rfl)<|RT.lss .none true rfl rfl (tl rfl) (decide_eq_true (by omega))<|RT.done<|ae.n<|eD rfl<|aG<|ae.n ?_
  refine aZ<|ax<|aZ<|aZ<|ah<|RT.yo .none rfl (tl rfl)<|RT.done<|ae.n<|ax ?_
  refine uh (ι:={k:Nat//k≤l[i].dB.w.length}) (fun k=>AS.cm 33 [(0,.sv (.v (.slice (some ⟨D.b0,D.o0,none⟩) l.length c))),(2,.sv (.v (.int .i64 (i:Int)))),(3,.sv (.v (.int .i64 (k.1:Int))))] [] [] i) (fun k=>l[i].dB.w.length-k.1) ⟨0,Nat.zero_le _⟩ (wR []) ?_
  rintro⟨k,hk⟩
  dsimp only
  by_cases oC:k<l[i].dB.w.length
  ·obtain⟨b1,o1,rfl,hm1,hw1⟩:=w4 (by intro e;rw[e]at oC;simp at oC)
   obtain⟨x1,hx1⟩:=hw1 k oC
   refine aZ<|aZ<|ah<|RT.mv .none rfl (tl rfl)<|RT.mv .none rfl (tl rfl)<|RT.mv .none rfl (tl rfl)<|RT.UF .none rfl rfl (tl rfl) hlt<|RT.Ps .none rfl (tl rfl)<|RT.Ps .none rfl (tl rfl)<|RT.N9 (i:=i) (k:=4) .none rfl (tl rfl) (by rw[hsz]) (Nat.le_refl _) (by omega) (by omega) m4<|RT.Jr .none rfl (tl rfl)<|RT.lss .none true rfl rfl (tl rfl) (decide_eq_true (by omega))<|RT.done<|ae.n<|eD rfl<|aG<|ae.n ?_
   refine aZ<|ax<|ah<|RT.mv .none rfl (tl rfl)<|RT.mv .none rfl (tl rfl)<|RT.UF .none rfl rfl (tl rfl) hlt<|RT.Ps .none rfl (tl rfl)<|RT.Ps .none rfl (tl rfl)<|RT.N9 (i:=i) (k:=4) .none rfl (tl rfl) (by rw[hsz]) (Nat.le_refl _) (by omega) (by omega) m4<|RT.mv .none rfl (tl rfl)<|RT.UF .none rfl rfl (tl rfl) oC<|RT.UG .none [.int .u32 77] i rfl (fun _ _ _ _=>rfl) (by simp[Value.oneCell']) (fun w=>bY.size w) hm1 (fun j hj=>?_) (Nat.le_refl _) (fun i2 k2 h1 h2 h3 h4=>?_)<|RT.done<|aF.n<|ae.n ?_
   ·obtain rfl:j=0:=by simpa using hj
    exact⟨_,by have q:=(D.hin _ _ _ hx1).cell rfl;simpa using q⟩
   ·by_cases hq:D.o0+i2*D.sz+k2=o1+k
    ·exact(Jt i2 k2 x1 h2 h3 (by rw[hq,←h4];exact hx1)).elim
    ·simp only[List.length_cons,List.length_nil];omega
   ·exact ah<|RT.mv .none rfl (tl rfl)<|RT.add .none _ rfl rfl (tl rfl) (kC (by omega))<|RT.yo .none rfl (tl rfl)<|RT.done<|ae.n ⟨⟨k+1,oC⟩,by dsimp only;omega,wR []⟩
  ·refine aZ<|aZ<|ah<|RT.mv .none rfl (tl rfl)<|RT.mv .none rfl (tl rfl)<|RT.mv .none rfl (tl rfl)<|RT.UF .none rfl rfl (tl rfl) hlt<|RT.Ps .none rfl (tl rfl)<|RT.Ps .none rfl (tl rfl)<|RT.N9 (i:=i) (k:=4) .none rfl (tl rfl) (by rw[hsz]) (Nat.le_refl _) (by omega) (by omega) m4<|RT.Jr .none rfl (tl rfl)<|RT.lss .none false rfl rfl (tl rfl) (decide_eq_false (by omega))<|RT.done<|ae.n<|gj rfl<|bq<|ae.x<|ae.x<|aF.x<|ae.n ?_
   refine ah<|RT.mv .none rfl (tl rfl)<|RT.mv .none rfl (tl rfl)<|RT.build .none .nil rfl (tl rfl)<|RT.UF .none rfl rfl (tl rfl) hlt<|RT.UG .none [.int .i64 0,.int .u8 0,.int .i64 0,.bool false,.slice none 0 0] (i+1) rfl (fun E a w h=>EI (us:=[.int .i64 0,.int .u8 0,.int .i64 0,.bool false,.slice none 0 0]) (h.ev (.tmp 31))) (by simp[Value.oneCell']) (fun w=>fm.size w) (D.hb (by omega)) (fun j hj=>?_) (Nat.le_succ _) (fun i2 k2 h1 h2 h3 h4=>?_)<|RT.done<|aF.n<|ae.n ?_
   ·obtain⟨y,e,ho⟩:=D.cell i j (by omega) (by rw[hsz];exact hj)
    rw[hsz]at e
    exact⟨y,(D.hin _ _ _ e).cell ho⟩
   ·rw[hsz];simp only[List.length_cons,List.length_nil];omega
   ·exact ah<|RT.mv .none rfl (tl rfl)<|RT.add .none _ rfl rfl (tl rfl) (kC (by omega))<|RT.yo .none rfl (tl rfl)<|RT.done<|ae.n ⟨⟨i+1,hlt⟩,by dsimp only;omega,wR []⟩
 ·exact aZ<|aZ<|ah<|RT.mv .none rfl (tl rfl)<|RT.mv .none rfl (tl rfl)<|RT.Jr .none rfl (tl rfl)<|RT.lss .none false rfl rfl (tl rfl) (decide_eq_false (by omega))<|RT.done<|ae.n<|gj rfl<|bq<|ae.x<|ae.x<|aF.x (.inl rfl)
end Go.Proofs.Ytmiflmkdaeianaa
