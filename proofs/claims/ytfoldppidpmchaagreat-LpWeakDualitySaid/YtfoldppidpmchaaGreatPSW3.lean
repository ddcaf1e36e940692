/- A part of the proof: the framework, the plain functions, the followed functions, the plain laws. -/
import Derived.Test.YtfoldppidpmchaaGreatPSW2
set_option linter.unusedVariables false
set_option linter.unusedSimpArgs false
set_option linter.unusedSectionVars false
namespace Go.Proofs.YtfoldppidpmchaaGreat
section
open Go.Fw
noncomputable def fJ(x0:Qr)(x1:Qr)(c0:Qr):Option (Qr):=match x0 with|⟨⟨bu,bt⟩,⟨bH,bT⟩⟩=>match x1 with|⟨⟨cc,bX⟩,⟨gJ,gK⟩⟩=>match c0 with|⟨⟨Kf,Kg⟩,⟨Kh,Ki⟩⟩=>cj (λ(zg:Bool)=>cj (λ(j5:Bool×(List Nat)×Bool×(List Nat))=>match j5 with|⟨A9,Ba,Bb,Bc⟩=>some ⟨⟨A9,Ba⟩,⟨Bb,Bc⟩⟩) λK5=>(bif zg then(kE ⟨⟨bu,bt⟩,⟨bH,bT⟩⟩ ⟨⟨cc,bX⟩,⟨gJ,gK⟩⟩).bind λ⟨⟨jo,jq⟩,⟨xb,xd⟩⟩=>(jh ⟨⟨Kf,Kg⟩,⟨Kh,Ki⟩⟩ ⟨⟨jo,jq⟩,⟨xb,xd⟩⟩).bind λ⟨⟨nB,nC⟩,⟨pG,pH⟩⟩=>K5 (nB,nC,pG,pH)else K5 (Kf,Kg,Kh,Ki))) λK3=>(gz ⟨⟨bu,bt⟩,⟨bH,bT⟩⟩).bind λx6=>(some (decide ((x6:Int)≠0))).bind λx7=>(bif x7 then(gz ⟨⟨cc,bX⟩,⟨gJ,gK⟩⟩).bind λec=>(some (decide ((ec:Int)≠0))).bind λfV=>some fV else some false).bind λO4=>K3 O4
noncomputable def lf(x0:Qr)(x1:List Qr):Option (List Qr):=match x0 with|⟨⟨bu,bt⟩,⟨bH,bT⟩⟩=>(some (x1.length:Int)).bind λx9=>(C0 64 x9 (⟨⟨false,[]⟩,⟨false,[]⟩⟩:Qr)).bind λec=>(some (x1.length:Int)).bind λdw=>(cf (λ(s8:Int×(List Qr))=>match s8 with|⟨qI,qJ⟩=>(show Option ((Int×(List Qr))⊕((List Qr)))from(some (decide ((qI:Int)<dw))).bind λeK=>(bif eK then(cX x1 qI).bind λ⟨⟨jo,jq⟩,⟨xb,xd⟩⟩=>(kE ⟨⟨bu,bt⟩,⟨bH,bT⟩⟩ ⟨⟨jo,jq⟩,⟨xb,xd⟩⟩).bind λ⟨⟨su,sw⟩,⟨sB,sD⟩⟩=>(r7 qJ qI).bind λiI=>(stM qJ iI ⟨⟨su,sw⟩,⟨sB,sD⟩⟩).bind λth=>(some (IntKind.i64.wrap (qI+1))).bind λic=>some (.inl (ic,th))else some (.inr qJ)))) (0,ec)).bind λmK=>some mK
noncomputable def dR(x0:List Qr)(x1:List Qr):Option (Qr):=(some (x0.length:Int)).bind λdw=>(some (x1.length:Int)).bind λeK=>(some (min (dw:Int) eK)).bind λdS=>(xx x0 0 dS).bind λfg=>(xx x1 0 dS).bind λgG=>(nM (λ(k:Nat) (s7:Bool×(List Nat)×Bool×(List Nat))=>match s7 with|⟨zh,zj,zk,zm⟩=>(show Option (Bool×(List Nat)×Bool×(List Nat))from(some (fg.getD k (⟨⟨false,[]⟩,⟨false,[]⟩⟩:Qr))).bind λ⟨⟨O5,O6⟩,⟨O7,O8⟩⟩=>(some (gG.getD k (⟨⟨false,[]⟩,⟨false,[]⟩⟩:Qr))).bind λ⟨⟨O9,Pa⟩,⟨Pb,Pc⟩⟩=>(fJ ⟨⟨O5,O6⟩,⟨O7,O8⟩⟩ ⟨⟨O9,Pa⟩,⟨Pb,Pc⟩⟩ ⟨⟨zh,zj⟩,⟨zk,zm⟩⟩).bind λ⟨⟨UD,UE⟩,⟨UF,UG⟩⟩=>some (UD,UE,UF,UG))) (max fg.length gG.length) (false,[],false,[])).bind λe7=>match e7 with|⟨zh,zj,zk,zm⟩=>some ⟨⟨zh,zj⟩,⟨zk,zm⟩⟩
noncomputable def iX(x0:List Qr)(x1:List Qr):Option (Int):=(lN (λ(k:Nat) (s3:Unit)=>(show Option ((Unit)⊕(Int))from(some (x0.getD k (⟨⟨false,[]⟩,⟨false,[]⟩⟩:Qr))).bind λ⟨⟨D0,D1⟩,⟨D2,D3⟩⟩=>(some (x1.getD k (⟨⟨false,[]⟩,⟨false,[]⟩⟩:Qr))).bind λ⟨⟨Pd,Pe⟩,⟨Pf,Pg⟩⟩=>(iz ⟨⟨D0,D1⟩,⟨D2,D3⟩⟩ ⟨⟨Pd,Pe⟩,⟨Pf,Pg⟩⟩).bind λdS=>(some (decide ((dS:Int)≠0))).bind λfm=>(bif fm then some (.inr dS)else some (.inl ())))) (max x0.length x1.length) ()).bind λe3=>match e3 with|.inr v3=>some v3|.inl _=>some 0
noncomputable def ej(x0:List Qr)(x1:List Qr):Option (Bool):=(iX x0 x1).bind λx7=>(some (decide ((x7:Int)=0))).bind λx8=>some x8
noncomputable def uP(x0:List Qr)(x1:Int):Option (List Qr):=(some (decide ((x1:Int)<1))).bind λx8=>(bif x8 then some []else(some (min (x1:Int) 65536)).bind λec=>(C0 64 ec (⟨⟨false,[]⟩,⟨false,[]⟩⟩:Qr)).bind λfV=>(some (x0.length:Int)).bind λjB=>(some (fV.length:Int)).bind λdS=>(some (min (jB:Int) dS)).bind λfo=>(cf (λ(s8:Int×(List Qr))=>match s8 with|⟨sE,uQ⟩=>(show Option ((Int×(List Qr))⊕((List Qr)))from(some (decide ((sE:Int)<fo))).bind λfg=>(bif fg then(cX x0 sE).bind λ⟨⟨n9,oa⟩,⟨oc,oe⟩⟩=>(cn ⟨⟨n9,oa⟩,⟨oc,oe⟩⟩).bind λ⟨⟨sF,sG⟩,⟨sH,sI⟩⟩=>(r7 uQ sE).bind λgy=>(stM uQ gy ⟨⟨sF,sG⟩,⟨sH,sI⟩⟩).bind λth=>(some (IntKind.i64.wrap (sE+1))).bind λkW=>some (.inl (kW,th))else some (.inr uQ)))) (0,fV)).bind λxe=>some xe)
noncomputable def kM(x0:List Qr)(x1:Int):Option (List Qr):=(some (decide ((x1:Int)<1))).bind λx8=>(bif x8 then some []else(some (min (x1:Int) 65536)).bind λec=>(C0 64 ec (⟨⟨false,[]⟩,⟨false,[]⟩⟩:Qr)).bind λfV=>(some (x0.length:Int)).bind λjB=>(some (fV.length:Int)).bind λdS=>(some (min (jB:Int) dS)).bind λfo=>(cf (λ(s8:Int×(List Qr))=>match s8 with|⟨sE,uQ⟩=>(show Option ((Int×(List Qr))⊕((List Qr)))from(some (decide ((sE:Int)<fo))).bind λfg=>(bif fg then(cX x0 sE).bind λ⟨⟨n9,oa⟩,⟨oc,oe⟩⟩=>(cn ⟨⟨n9,oa⟩,⟨oc,oe⟩⟩).bind λ⟨⟨sF,sG⟩,⟨sH,sI⟩⟩=>(r7 uQ sE).bind λgy=>(stM uQ gy ⟨⟨sF,sG⟩,⟨sH,sI⟩⟩).bind λth=>(some (IntKind.i64.wrap (sE+1))).bind λkW=>some (.inl (kW,th))else some (.inr uQ)))) (0,fV)).bind λxe=>some xe)
noncomputable def cU(x0:List Int):Option (List Qr):=(some (x0.length:Int)).bind λx7=>(C0 64 x7 (⟨⟨false,[]⟩,⟨false,[]⟩⟩:Qr)).bind λx8=>(some (x0.length:Int)).bind λec=>(cf (λ(s8:Int×(List Qr))=>match s8 with|⟨qK,zo⟩=>(show Option ((Int×(List Qr))⊕((List Qr)))from(some (decide ((qK:Int)<ec))).bind λdw=>(bif dw then(cX x0 qK).bind λeK=>(dQ eK).bind λ⟨⟨pD,pE⟩,⟨Kj,Kk⟩⟩=>(r7 zo qK).bind λja=>(stM zo ja ⟨⟨pD,pE⟩,⟨Kj,Kk⟩⟩).bind λth=>(some (IntKind.i64.wrap (qK+1))).bind λgG=>some (.inl (gG,th))else some (.inr zo)))) (0,x8)).bind λtK=>some tK
end
section
open Go.Fw Go.Fw.Z Go.RowKit
theorem uR(a b:List Qr):Pure ah 80 [(slc 4 (List.map eQ a)),(slc 4 (List.map eQ b))] (oK 112 [ref [(slc 4 (List.map eQ a))],ref [(slc 4 (List.map eQ b))]]):=by
 refine aZ Tryz.func80 Y (af Y) (λdy M vs hvs=>?_);refine sr<|RT.Bv .none (s:=.sv _) Y T Y Y<|RT.Bv .none (s:=.sv _) Y T Y Y<|ag Y<|dn<|sr<|RT.makeFunc .none (.box Y (.box Y (.nil))) T<|an (s:=.fe _ _) Y<|dn<|bO (kz (i:=2) Y [(slc 4 (List.map eQ a))] (.cons Y .nil) .any 0 [(4,.fe 112 [.val (ref [(slc 4 (List.map eQ a))]),.box 3])] (λ_ _ _=>trivial) (sL.h (l:=[(slc 4 (List.map eQ a))])) ⟨@FT.fe _ _ _ _ _ 4 112 [.box 2,.box 3] Y,aq⟩) ?_;exact bO (kz (i:=3) Y [(slc 4 (List.map eQ b))] (.cons Y .nil) .any 0 [(4,.fe 112 [.val (ref [(slc 4 (List.map eQ a))]),.val (ref [(slc 4 (List.map eQ b))])])] (λ_ _ _=>trivial) (sL.h (l:=[(slc 4 (List.map eQ b))])) ⟨@FT.fe _ _ _ _ _ 4 112 [.val (ref [(slc 4 (List.map eQ a))]),.box 3] Y,aq⟩)<|bO (BD 4 (oK 112 [ref [(slc 4 (List.map eQ a))],ref [(slc 4 (List.map eQ b))]]) (λ_ _ h=>BE h))<|bf<|⟨.inr Y,Bz (.tmp Y (.nil)) Y⟩
theorem uS(a b:List Qr):Iter ah 112 [ref [(slc 4 (List.map eQ a))],ref [(slc 4 (List.map eQ b))]] (max a.length b.length) (λk=>[.agg (eQ (a.getD k (⟨⟨false,[]⟩,⟨false,[]⟩⟩:Qr))),.agg (eQ (b.getD k (⟨⟨false,[]⟩,⟨false,[]⟩⟩:Qr)))]):=by
 refine oM Tryz.func112 Y Y (af Y) (λdy M O l J hJ vH hr=>?_);obtain⟨pJ,vH⟩:=vH;have hla:a.length<=9223372036854775807:=by cases pJ with|nil=>exact vH.elim|cons _ pJ=>exact rj vH.1
 have hlb:b.length<=9223372036854775807:=by cases pJ with|nil=>exact vH.elim|cons _ pJ=>cases pJ with|nil=>exact vH.2.elim|cons _ _=>exact rj vH.2.1
 refine bz ?_;refine aW ?_;refine RT.cD .none Y Y (tl Y) ?_;refine RT.len .none Y (tl Y) ?_;refine RT.cD .none Y Y (tl Y) ?_;refine RT.len .none Y (tl Y) ?_;refine RT.max .none (((max a.length b.length:Nat):Int)) Y Y (tl Y) (by simp only[List.length_map];split<;>omega) ?_;refine RT.mv .none Y (tl Y) ?_;refine RT.done ?_;refine aV.n ?_;refine bj ?_
 refine uf (I:=λx:{i:Nat//i<=max a.length b.length}=>AS.cu 37 [(0,.sv (.v (.func (.yield l) #[] #[]))),(1,.sv (ref [(slc 4 (List.map eQ a))])),(2,.sv (ref [(slc 4 (List.map eQ b))])),(11,ai ((max a.length b.length:Nat):Int)),(12,ai ((x.1:Nat):Int))] [] [] (x.1)) (μ:=λx=>max a.length b.length-x.1) ⟨0,by omega⟩ (by(try dsimp only);exact c8 id Y Y Y Y Y ⟨.sv (by first|exact au|exact SV.aX (by omega)|exact SV.aX (by push_cast;omega)|exact SV.aX (by dsimp only;omega)|exact SV.imp_eq (by simp)),.sv (by first|exact au|exact SV.aX (by omega)|exact SV.aX (by push_cast;omega)|exact SV.aX (by dsimp only;omega)|exact SV.imp_eq (by simp)),.sv (by first|exact au|exact SV.aX (by omega)|exact SV.aX (by push_cast;omega)|exact SV.aX (by dsimp only;omega)|exact SV.imp_eq (by simp)),.sv (by first|exact au|exact SV.aX (by omega)|exact SV.aX (by push_cast;omega)|exact SV.aX (by dsimp only;omega)|exact SV.imp_eq (by simp)),.sv (by first|exact au|exact SV.aX (by omega)|exact SV.aX (by push_cast;omega)|exact SV.aX (by dsimp only;omega)|exact SV.imp_eq (by simp)),aq⟩ trivial trivial (λ_ _=>Y)) ?_;rintro⟨i,On⟩
 try dsimp only
 rcases yG a b i On with⟨hi,vN,AU⟩|⟨hi,vN,AU⟩|⟨hi,vN,AU⟩|hi
 ·
  refine bz ?_;refine aW ?_;refine RT.lss .none (true) Y Y (tl Y) (by simp;omega) ?_;refine RT.done ?_;refine aV.n ?_;refine bz ?_;refine cw Y ?_;refine bp ?_;refine aV.n ?_;refine bz ?_;refine bj ?_;refine bz ?_;refine aW ?_;refine RT.mv .none Y (tl Y) ?_;refine RT.yq .none Y (tl Y) ?_;refine RT.done ?_;refine aV.n ?_;refine bz ?_;refine aW ?_;refine RT.oN .none (cs:=eQ ⟨⟨false,[]⟩,⟨false,[]⟩⟩) (by exact⟨au,aB,au,aB,aq⟩) Y (tl Y) Y Y ?_;refine RT.oN .none (cs:=eQ ⟨⟨false,[]⟩,⟨false,[]⟩⟩) (by exact⟨au,aB,au,aB,aq⟩) Y (tl Y) Y Y ?_;refine RT.done ?_;refine aV.n ?_;refine bz ?_;refine bz ?_;refine aW ?_;refine RT.mv .none Y (tl Y) ?_;refine RT.cD .none Y Y (tl Y) ?_;refine RT.len .none Y (tl Y) ?_;refine RT.lss .none (true) Y Y (tl Y) (by simp only[List.length_map];simp;omega) ?_;refine RT.done ?_;refine aV.n ?_;refine cw Y ?_;refine aW ?_;refine RT.cD .none Y Y (tl Y) ?_;refine RT.mv .none Y (tl Y) ?_
  refine RT.Jc .none [az ((a.getD i (⟨⟨false,[]⟩,⟨false,[]⟩⟩:Qr)).num.neg),slc 1 ((a.getD i (⟨⟨false,[]⟩,⟨false,[]⟩⟩:Qr)).num.w.map aY),az ((a.getD i (⟨⟨false,[]⟩,⟨false,[]⟩⟩:Qr)).den.neg),slc 1 ((a.getD i (⟨⟨false,[]⟩,⟨false,[]⟩⟩:Qr)).den.w.map aY)] (Int.natCast_nonneg i) (by rw[Int.toNat_natCast,List.getElem?_map,cY vN];rfl) Y Y (tl Y) ?_;refine RT.nu .none Y (tl Y) (cs:=[az ((a.getD i (⟨⟨false,[]⟩,⟨false,[]⟩⟩:Qr)).num.neg),slc 1 ((a.getD i (⟨⟨false,[]⟩,⟨false,[]⟩⟩:Qr)).num.w.map aY),az ((a.getD i (⟨⟨false,[]⟩,⟨false,[]⟩⟩:Qr)).den.neg),slc 1 ((a.getD i (⟨⟨false,[]⟩,⟨false,[]⟩⟩:Qr)).den.w.map aY)]) Y Y ?_;refine RT.store .none Y Y Y Y Y ?_;refine RT.done ?_;refine aV.n ?_;refine bz ?_;refine bz ?_;refine aW ?_;refine RT.mv .none Y (tl Y) ?_;refine RT.cD .none Y Y (tl Y) ?_;refine RT.len .none Y (tl Y) ?_;refine RT.lss .none (true) Y Y (tl Y) (by simp only[List.length_map];simp;omega) ?_;refine RT.done ?_;refine aV.n ?_;refine cw Y ?_;refine aW ?_;refine RT.cD .none Y Y (tl Y) ?_;refine RT.mv .none Y (tl Y) ?_
  refine RT.Jc .none [az ((b.getD i (⟨⟨false,[]⟩,⟨false,[]⟩⟩:Qr)).num.neg),slc 1 ((b.getD i (⟨⟨false,[]⟩,⟨false,[]⟩⟩:Qr)).num.w.map aY),az ((b.getD i (⟨⟨false,[]⟩,⟨false,[]⟩⟩:Qr)).den.neg),slc 1 ((b.getD i (⟨⟨false,[]⟩,⟨false,[]⟩⟩:Qr)).den.w.map aY)] (Int.natCast_nonneg i) (by rw[Int.toNat_natCast,List.getElem?_map,cY AU];rfl) Y Y (tl Y) ?_;refine RT.nu .none Y (tl Y) (cs:=[az ((b.getD i (⟨⟨false,[]⟩,⟨false,[]⟩⟩:Qr)).num.neg),slc 1 ((b.getD i (⟨⟨false,[]⟩,⟨false,[]⟩⟩:Qr)).num.w.map aY),az ((b.getD i (⟨⟨false,[]⟩,⟨false,[]⟩⟩:Qr)).den.neg),slc 1 ((b.getD i (⟨⟨false,[]⟩,⟨false,[]⟩⟩:Qr)).den.w.map aY)]) Y Y ?_;refine RT.store .none Y Y Y Y Y ?_;refine RT.done ?_;refine aV.n ?_;refine bz ?_;refine aW ?_;refine RT.mv .none Y (tl Y) ?_;refine RT.load .none Y Y (.k4 Y Y Y Y) Y (tl Y) ?_;refine RT.load .none Y Y (.k4 Y Y Y Y) Y (tl Y) ?_;refine RT.yield .none hr Y (λ_ h=>h) Y (i) Y Y hi (by exact⟨Y,Y,aq⟩) (tl Y) (λyb=>?_);cases yb
  ·
   refine RT.not .none Y (tl Y) true Y ?_;refine RT.done ?_;refine aV.n ?_;refine cw Y ?_;refine bf ?_;refine bw.r ?_;refine aV.r ?_;refine aV.r ?_;refine bw.r ?_;exact⟨.inr rfl,(λh=>by cases h)⟩
  refine RT.not .none Y (tl Y) false Y ?_;refine RT.done ?_;refine aV.n ?_;refine dm Y ?_;refine bp ?_;refine bw.n ?_;refine aV.n ?_;refine aW ?_;refine RT.add .none (((i:Nat):Int)+1) Y Y (tl Y) (jF (by omega)) ?_;refine RT.mv .none Y (tl Y) ?_;refine RT.done ?_;refine aV.n ?_;refine⟨⟨i+1,by omega⟩,(by dsimp only;omega),?_⟩
  try dsimp only
  exact c8 id Y Y Y Y Y ⟨.sv (by first|exact au|exact SV.aX (by omega)|exact SV.aX (by push_cast;omega)|exact SV.aX (by dsimp only;omega)|exact SV.imp_eq (by simp)),.sv (by first|exact au|exact SV.aX (by omega)|exact SV.aX (by push_cast;omega)|exact SV.aX (by dsimp only;omega)|exact SV.imp_eq (by simp)),.sv (by first|exact au|exact SV.aX (by omega)|exact SV.aX (by push_cast;omega)|exact SV.aX (by dsimp only;omega)|exact SV.imp_eq (by simp)),.sv (by first|exact au|exact SV.aX (by omega)|exact SV.aX (by push_cast;omega)|exact SV.aX (by dsimp only;omega)|exact SV.imp_eq (by simp)),.sv (by first|exact au|exact SV.aX (by omega)|exact SV.aX (by push_cast;omega)|exact SV.aX (by dsimp only;omega)|exact SV.imp_eq (by simp)),aq⟩ trivial trivial (λ_ _=>Y)
 ·
  refine bz ?_;refine aW ?_;refine RT.lss .none (true) Y Y (tl Y) (by simp;omega) ?_;refine RT.done ?_;refine aV.n ?_;refine bz ?_;refine cw Y ?_;refine bp ?_;refine aV.n ?_;refine bz ?_;refine bj ?_;refine bz ?_;refine aW ?_;refine RT.mv .none Y (tl Y) ?_;refine RT.yq .none Y (tl Y) ?_;refine RT.done ?_;refine aV.n ?_;refine bz ?_;refine aW ?_;refine RT.oN .none (cs:=eQ ⟨⟨false,[]⟩,⟨false,[]⟩⟩) (by exact⟨au,aB,au,aB,aq⟩) Y (tl Y) Y Y ?_;refine RT.oN .none (cs:=eQ ⟨⟨false,[]⟩,⟨false,[]⟩⟩) (by exact⟨au,aB,au,aB,aq⟩) Y (tl Y) Y Y ?_;refine RT.done ?_;refine aV.n ?_;refine bz ?_;refine bz ?_;refine aW ?_;refine RT.mv .none Y (tl Y) ?_;refine RT.cD .none Y Y (tl Y) ?_;refine RT.len .none Y (tl Y) ?_;refine RT.lss .none (true) Y Y (tl Y) (by simp only[List.length_map];simp;omega) ?_;refine RT.done ?_;refine aV.n ?_;refine cw Y ?_;refine aW ?_;refine RT.cD .none Y Y (tl Y) ?_;refine RT.mv .none Y (tl Y) ?_
  refine RT.Jc .none [az ((a.getD i (⟨⟨false,[]⟩,⟨false,[]⟩⟩:Qr)).num.neg),slc 1 ((a.getD i (⟨⟨false,[]⟩,⟨false,[]⟩⟩:Qr)).num.w.map aY),az ((a.getD i (⟨⟨false,[]⟩,⟨false,[]⟩⟩:Qr)).den.neg),slc 1 ((a.getD i (⟨⟨false,[]⟩,⟨false,[]⟩⟩:Qr)).den.w.map aY)] (Int.natCast_nonneg i) (by rw[Int.toNat_natCast,List.getElem?_map,cY vN];rfl) Y Y (tl Y) ?_;refine RT.nu .none Y (tl Y) (cs:=[az ((a.getD i (⟨⟨false,[]⟩,⟨false,[]⟩⟩:Qr)).num.neg),slc 1 ((a.getD i (⟨⟨false,[]⟩,⟨false,[]⟩⟩:Qr)).num.w.map aY),az ((a.getD i (⟨⟨false,[]⟩,⟨false,[]⟩⟩:Qr)).den.neg),slc 1 ((a.getD i (⟨⟨false,[]⟩,⟨false,[]⟩⟩:Qr)).den.w.map aY)]) Y Y ?_;refine RT.store .none Y Y Y Y Y ?_;refine RT.done ?_;refine aV.n ?_;refine bz ?_;refine bz ?_;refine aW ?_;refine RT.mv .none Y (tl Y) ?_;refine RT.cD .none Y Y (tl Y) ?_;refine RT.len .none Y (tl Y) ?_;refine RT.lss .none (false) Y Y (tl Y) (by simp only[List.length_map];simp;omega) ?_;refine RT.done ?_;refine aV.n ?_;refine dm Y ?_;refine bp ?_;refine aV.n ?_;refine bz ?_;refine aW ?_;refine RT.mv .none Y (tl Y) ?_;refine RT.load .none Y Y (.k4 Y Y Y Y) Y (tl Y) ?_;refine RT.load .none Y Y (.k4 Y Y Y Y) Y (tl Y) ?_
  refine RT.yield .none hr Y (λ_ h=>h) Y (i) Y Y hi (by exact⟨Y,(by show AV.sv _=AV.sv _;rw[eN AU]),aq⟩) (tl Y) (λyb=>?_);cases yb
  ·
   refine RT.not .none Y (tl Y) true Y ?_;refine RT.done ?_;refine aV.n ?_;refine cw Y ?_;refine bf ?_;refine bw.r ?_;refine aV.r ?_;refine aV.r ?_;refine bw.r ?_;exact⟨.inr rfl,(λh=>by cases h)⟩
  refine RT.not .none Y (tl Y) false Y ?_;refine RT.done ?_;refine aV.n ?_;refine dm Y ?_;refine bp ?_;refine bw.n ?_;refine aV.n ?_;refine aW ?_;refine RT.add .none (((i:Nat):Int)+1) Y Y (tl Y) (jF (by omega)) ?_;refine RT.mv .none Y (tl Y) ?_;refine RT.done ?_;refine aV.n ?_;refine⟨⟨i+1,by omega⟩,(by dsimp only;omega),?_⟩
  try dsimp only
  exact c8 id Y Y Y Y Y ⟨.sv (by first|exact au|exact SV.aX (by omega)|exact SV.aX (by push_cast;omega)|exact SV.aX (by dsimp only;omega)|exact SV.imp_eq (by simp)),.sv (by first|exact au|exact SV.aX (by omega)|exact SV.aX (by push_cast;omega)|exact SV.aX (by dsimp only;omega)|exact SV.imp_eq (by simp)),.sv (by first|exact au|exact SV.aX (by omega)|exact SV.aX (by push_cast;omega)|exact SV.aX (by dsimp only;omega)|exact SV.imp_eq (by simp)),.sv (by first|exact au|exact SV.aX (by omega)|exact SV.aX (by push_cast;omega)|exact SV.aX (by dsimp only;omega)|exact SV.imp_eq (by simp)),.sv (by first|exact au|exact SV.aX (by omega)|exact SV.aX (by push_cast;omega)|exact SV.aX (by dsimp only;omega)|exact SV.imp_eq (by simp)),aq⟩ trivial trivial (λ_ _=>Y)
 ·
  refine bz ?_;refine aW ?_;refine RT.lss .none (true) Y Y (tl Y) (by simp;omega) ?_;refine RT.done ?_;refine aV.n ?_;refine bz ?_;refine cw Y ?_;refine bp ?_;refine aV.n ?_;refine bz ?_;refine bj ?_;refine bz ?_;refine aW ?_;refine RT.mv .none Y (tl Y) ?_;refine RT.yq .none Y (tl Y) ?_;refine RT.done ?_;refine aV.n ?_;refine bz ?_;refine aW ?_;refine RT.oN .none (cs:=eQ ⟨⟨false,[]⟩,⟨false,[]⟩⟩) (by exact⟨au,aB,au,aB,aq⟩) Y (tl Y) Y Y ?_;refine RT.oN .none (cs:=eQ ⟨⟨false,[]⟩,⟨false,[]⟩⟩) (by exact⟨au,aB,au,aB,aq⟩) Y (tl Y) Y Y ?_;refine RT.done ?_;refine aV.n ?_;refine bz ?_;refine bz ?_;refine aW ?_;refine RT.mv .none Y (tl Y) ?_;refine RT.cD .none Y Y (tl Y) ?_;refine RT.len .none Y (tl Y) ?_;refine RT.lss .none (false) Y Y (tl Y) (by simp only[List.length_map];simp;omega) ?_;refine RT.done ?_;refine aV.n ?_;refine dm Y ?_;refine bp ?_;refine aV.n ?_;refine bz ?_;refine bz ?_;refine aW ?_;refine RT.mv .none Y (tl Y) ?_;refine RT.cD .none Y Y (tl Y) ?_;refine RT.len .none Y (tl Y) ?_;refine RT.lss .none (true) Y Y (tl Y) (by simp only[List.length_map];simp;omega) ?_;refine RT.done ?_;refine aV.n ?_;refine cw Y ?_;refine aW ?_;refine RT.cD .none Y Y (tl Y) ?_
  refine RT.mv .none Y (tl Y) ?_;refine RT.Jc .none [az ((b.getD i (⟨⟨false,[]⟩,⟨false,[]⟩⟩:Qr)).num.neg),slc 1 ((b.getD i (⟨⟨false,[]⟩,⟨false,[]⟩⟩:Qr)).num.w.map aY),az ((b.getD i (⟨⟨false,[]⟩,⟨false,[]⟩⟩:Qr)).den.neg),slc 1 ((b.getD i (⟨⟨false,[]⟩,⟨false,[]⟩⟩:Qr)).den.w.map aY)] (Int.natCast_nonneg i) (by rw[Int.toNat_natCast,List.getElem?_map,cY AU];rfl) Y Y (tl Y) ?_;refine RT.nu .none Y (tl Y) (cs:=[az ((b.getD i (⟨⟨false,[]⟩,⟨false,[]⟩⟩:Qr)).num.neg),slc 1 ((b.getD i (⟨⟨false,[]⟩,⟨false,[]⟩⟩:Qr)).num.w.map aY),az ((b.getD i (⟨⟨false,[]⟩,⟨false,[]⟩⟩:Qr)).den.neg),slc 1 ((b.getD i (⟨⟨false,[]⟩,⟨false,[]⟩⟩:Qr)).den.w.map aY)]) Y Y ?_;refine RT.store .none Y Y Y Y Y ?_;refine RT.done ?_;refine aV.n ?_;refine bz ?_;refine aW ?_;refine RT.mv .none Y (tl Y) ?_;refine RT.load .none Y Y (.k4 Y Y Y Y) Y (tl Y) ?_;refine RT.load .none Y Y (.k4 Y Y Y Y) Y (tl Y) ?_;refine RT.yield .none hr Y (λ_ h=>h) Y (i) Y Y hi (by exact⟨(by show AV.sv _=AV.sv _;rw[eN vN]),Y,aq⟩) (tl Y) (λyb=>?_);cases yb
  ·
   refine RT.not .none Y (tl Y) true Y ?_;refine RT.done ?_;refine aV.n ?_;refine cw Y ?_;refine bf ?_;refine bw.r ?_;refine aV.r ?_;refine aV.r ?_;refine bw.r ?_;exact⟨.inr rfl,(λh=>by cases h)⟩
  refine RT.not .none Y (tl Y) false Y ?_;refine RT.done ?_;refine aV.n ?_;refine dm Y ?_;refine bp ?_;refine bw.n ?_;refine aV.n ?_;refine aW ?_;refine RT.add .none (((i:Nat):Int)+1) Y Y (tl Y) (jF (by omega)) ?_;refine RT.mv .none Y (tl Y) ?_;refine RT.done ?_;refine aV.n ?_;refine⟨⟨i+1,by omega⟩,(by dsimp only;omega),?_⟩
  try dsimp only
  exact c8 id Y Y Y Y Y ⟨.sv (by first|exact au|exact SV.aX (by omega)|exact SV.aX (by push_cast;omega)|exact SV.aX (by dsimp only;omega)|exact SV.imp_eq (by simp)),.sv (by first|exact au|exact SV.aX (by omega)|exact SV.aX (by push_cast;omega)|exact SV.aX (by dsimp only;omega)|exact SV.imp_eq (by simp)),.sv (by first|exact au|exact SV.aX (by omega)|exact SV.aX (by push_cast;omega)|exact SV.aX (by dsimp only;omega)|exact SV.imp_eq (by simp)),.sv (by first|exact au|exact SV.aX (by omega)|exact SV.aX (by push_cast;omega)|exact SV.aX (by dsimp only;omega)|exact SV.imp_eq (by simp)),.sv (by first|exact au|exact SV.aX (by omega)|exact SV.aX (by push_cast;omega)|exact SV.aX (by dsimp only;omega)|exact SV.imp_eq (by simp)),aq⟩ trivial trivial (λ_ _=>Y)
 subst hi;refine bz ?_;refine aW ?_;refine RT.lss .none (false) Y Y (tl Y) (by simp) ?_;refine RT.done ?_;refine aV.n ?_;refine bz ?_;refine dm Y ?_;refine bP ?_;refine aV.x ?_;refine aV.x ?_;refine bw.x ?_;exact⟨.inl Y,(λ_=>Y)⟩
end
section
open Go.Fw Go.Fw.Z Go.RowKit
theorem Ce{x0:Qr}{x1:Qr}{c0:Qr}{r:Qr}(h:fJ x0 x1 c0=some r):Jj ah 78 [.agg (eQ x0),.agg (eQ x1)] 36 (eQ c0) (.any) (eQ r):=by
 obtain⟨⟨bu,bt⟩,⟨bH,bT⟩⟩:=x0;obtain⟨⟨cc,bX⟩,⟨gJ,gK⟩⟩:=x1;obtain⟨⟨Kf,Kg⟩,⟨Kh,Ki⟩⟩:=c0;refine yy Tryz.func78 Y (af Y) (λdy M β=>?_);unfold fJ at h;refine sr<|bx Y<|bx Y<|dn<|qq ?_;refine bB h (λj3=>AS.cu 18 [(2,.ptr 1000 0),(3,.ptr 3 0),(4,.ptr 4 0),(12,aj j3)] [(4,⟨36,[aj cc,.sv (slc 1 (List.map aY bX)),aj gJ,.sv (slc 1 (List.map aY gK))]⟩),(3,⟨36,[aj bu,.sv (slc 1 (List.map aY bt)),aj bH,.sv (slc 1 (List.map aY bT))]⟩),(1000,⟨36,[aj Kf,.sv (slc 1 (List.map aY Kg)),aj Kh,.sv (slc 1 (List.map aY Ki))]⟩)] []) (λh=>?_) (λzg h=>?_);refine aW<|ld Y Y (.k4 Y Y Y Y)<|bE h λx6 h6 h=>cl (l9 h6) ⟨Y,aq⟩<|lE h λx7 h7 h=>ne _ Y Y (HU (p:=x6) (q:=0) h7)<|mv Y<|bE h λO4 wY h=>?_;cases x7;obtain rfl:=O (F wY);exact ww<|ww<|ww<|pF Y<|dn<|⟨false,h,wR []⟩;refine gl Y Y (.k4 Y Y Y Y)<|bE (V wY) λec gD wY=>gc (l9 gD) ⟨Y,aq⟩<|lE wY λfV l6 wY=>gq _ Y Y (HU (p:=ec) (q:=0) l6) ?_;obtain rfl:=O wY;exact pT Y<|dn<|⟨fV,h,wR []⟩
 try dsimp only
 refine aV.n ?_;refine bB h (λj5=>AS.cu 18 [(2,.ptr 1000 0)] [(1000,⟨36,[aj j5.1,.sv (slc 1 (List.map aY j5.2.1)),aj j5.2.2.1,.sv (slc 1 (List.map aY j5.2.2.2))]⟩)] []) (λh=>?_) (λj5 h=>?_);cases zg;exact fs<|⟨(Kf,Kg,Kh,Ki),(F h),wR []⟩;refine cT<|bh mixed<|ld Y Y (.k4 Y Y Y Y)<|ld Y Y (.k4 Y Y Y Y)<|ld Y Y (.k4 Y Y Y Y) ?_;obtain⟨⟨⟨jo,jq⟩,⟨xb,xd⟩⟩,iW,h⟩:=bS (V h);refine cl (w8 iW) ⟨Y,Y,aq⟩ ?_;obtain⟨⟨⟨nB,nC⟩,⟨pG,pH⟩⟩,k8,h⟩:=bS h;refine cl (w7 k8) ⟨Y,Y,aq⟩<|so Y Y Y ?_;refine RT.done ⟨by kernel_rfl,?_⟩;exact aV.n<|⟨(nB,nC,pG,pH),h,wR []⟩;obtain⟨A9,Ba,Bb,Bc⟩:=j5
 try dsimp only
 obtain rfl:=O h;exact⟨.inl Y,lY .nil (λ_ _ _=>trivial),Y⟩
theorem Cf{x0:Qr}{x1:List Qr}{r:List Qr}(h:lf x0 x1=some r):Pure ah 55 [.agg (eQ x0),slc 4 (List.map eQ x1)] (slc 4 (List.map eQ r)):=by
 obtain⟨⟨bu,bt⟩,⟨bH,bT⟩⟩:=x0;refine aZ Tryz.func55 Y (af Y) (λdy M vs hvs=>?_);unfold lf at h;refine sr<|bx Y<|aI Y (aB (n:=4) (e:=eQ))<|dn<|sr<|mv Y<|lE h λx9 h9 h=>ln Y h9<|bE h λec gD h=>RT.r8 (n:=4) (e:=eQ) .none Y Y T Y T (by rfl) (by decide) (by exact⟨au,aB,au,aB,aq⟩) gD<|an (s:=.row _) Y<|dn<|qq<|sr<|mv Y<|lE h λdw fU h=>ln Y fU<|mv Y<|dn<|bE h λe8 B0 tD=>?_;refine bJ (λ(mK:(List Qr))=>AS.cu 26 [(5,.row 10)] [] [(10,TR 36 4 eQ mK)]) (λmK=>mK=e8) ?_ (λmK B3=>?_);refine bj ?_;refine bK B0 (λs8=>AS.cu 26 [(2,.ptr 2 0),(5,.row 10),(11,.sv (slc 4 (List.map eQ x1))),(12,ai dw),(13,ai s8.1)] [(2,⟨36,[aj bu,.sv (slc 1 (List.map aY bt)),aj bH,.sv (slc 1 (List.map aY bT))]⟩)] [(10,TR 36 4 eQ s8.2)]) (wR []) (λs8 y8 G8 h B4 B5=>?_);obtain⟨qI,qJ⟩:=s8
 try dsimp only
 refine sr<|lE h λeK jC h=>ls _ Y Y jC<|dn<|qq ?_;cases eK;refine cF<|bP<|aV.x<|aV.x<|bw.x<|aV.n ?_;obtain rfl:=O (F h);exact⟨qJ,B5 _ Y,wR []⟩;refine cT<|bp<|aV.n<|qq<|bj<|sr<|mv Y ?_;obtain⟨⟨⟨jo,jq⟩,⟨xb,xd⟩⟩,iW,h⟩:=bS (V h);refine ix Y Y iW<|RT.nu (cs:=[_,_,_,_]) .none Y T Y Y<|al (cs:=[az false,ax,az false,ax]) (by exact⟨au,aB,au,aB,aq⟩) Y<|ag Y<|so Y Y Y<|dn<|aW<|mo (s:=.row _) Y<|mv Y<|ld Y Y (.k4 Y Y Y Y)<|ld Y Y (.k4 Y Y Y Y) ?_;obtain⟨⟨⟨su,sw⟩,⟨sB,sD⟩⟩,n7,h⟩:=bS h;refine cl (w8 n7) ⟨Y,Y,aq⟩<|bE h λiI pM h=>iR Y Y Y pM<|bE h λth n8 h=>sA ⟨⟨su,sw⟩,⟨sB,sD⟩⟩ Y Y Y n8<|RT.done<|bw.n<|aV.n<|aW<|lE h λic oD h=>ad _ Y Y oD<|mv Y<|RT.done ?_;obtain rfl:=O h;exact aV.n ⟨(ic,th),B4 _ Y,wR []⟩;subst B3
 try dsimp only
 refine aV.n<|sr<|mo (s:=.row _) Y<|an (s:=.row _) Y<|dn<|bO (cC (i:=10) (E1:=36) (n:=4) (e:=eQ) (l:=mK) Y)<|bf ?_;obtain rfl:=O tD;exact R1 Y
theorem oT{x0:List Qr}{x1:List Qr}{r:Qr}(h:dR x0 x1=some r):Pure ah 32 [slc 4 (List.map eQ x0),slc 4 (List.map eQ x1)] (.agg (eQ r)):=by
 refine aZ Tryz.func32 Y (af Y) (λdy M vs hvs=>?_);unfold dR at h;refine sr<|al (cs:=[az false,ax,az false,ax]) (by exact⟨au,aB,au,aB,aq⟩) Y<|dn<|sr<|al (cs:=[az false,ax,az false,ax]) (by exact⟨au,aB,au,aB,aq⟩) Y<|dn<|sr<|RT.makeFunc .none (.box Y (.nil)) T<|RT.alloc .none T Y Y<|RT.nK (cells:=[_]) .none (s:=.fe _ _) Y Y Y T Y ?_;refine dn<|sr<|mv Y<|lE h λdw fU h=>ln Y fU<|mv Y<|lE h λeK jC h=>ln Y jC<|lE h λdS iV h=>RT.min .none _ Y Y T (Mx (p:=dw) (q:=eK) iV)<|ag Y<|dn<|qq<|qq<|bh mixed<|mv Y<|mv Y<|bE h λfg j0 h=>RT.vT .none 0 dS Y Y ⟨_,Y⟩ T j0<|mv Y<|mv Y<|bE h λgG nf h=>RT.vT .none 0 dS Y Y ⟨_,Y⟩ T nf<|cl (uR fg gG) ⟨Y,Y,aq⟩ ?_;refine RT.done ⟨by kernel_rfl,?_⟩;refine aV.n<|bj<|bE h λe7 Ui MO=>?_;obtain⟨Ia,Uj,Uk,Ul⟩:=n5 Ui
 refine lZ (uS fg gG) (λ_ _ _ _ _=>trivial) Y (λk=>AS.cu 30 [(4,.ptr 4 0),(5,.ptr 5 0),(6,.ptr 6 0),(22,.sv (oK 112 [ref [slc 4 (List.map eQ fg)],ref [slc 4 (List.map eQ gG)]]))] [(6,⟨91,[.fe 78 [.box 5]]⟩),(5,⟨36,[aj ((Ia k).1),.sv (slc 1 (List.map aY (Ia k).2.1)),aj ((Ia k).2.2.1),.sv (slc 1 (List.map aY (Ia k).2.2.2))]⟩),(4,⟨36,[aj false,.sv ax,aj false,.sv ax]⟩)] []) [6,5,4] Y (λ_=>⟨Y,Y⟩) (sS Y) (λ_=>Y) (sV Y) (by(try dsimp only);rw[Uj];(try dsimp only);exact c8 id Y Y Y Y Y ⟨.ptr,.ptr,.ptr,.sv au,aq⟩ ⟨⟨_,Y,⟨.fe,aq⟩⟩,⟨_,Y,⟨.sv au,.sv au,.sv au,.sv au,aq⟩⟩,⟨_,Y,⟨.sv au,.sv au,.sv au,.sv au,aq⟩⟩,aq⟩ trivial (λ_ _=>Y)) (λk hk D hD=>?_) ?_;have h:=Uk k hk;obtain⟨sk,Rb⟩:∃q,Ia k=q:=⟨_,Y⟩;rw[Rb]at h⊢;obtain⟨zh,zj,zk,zm⟩:=sk;dsimp only[AS.Mr,r6]
 try dsimp only at h
 obtain⟨⟨⟨O5,O6⟩,⟨O7,O8⟩⟩,Zc,h⟩:=bS h;rw[Option.some.inj Zc];obtain⟨⟨⟨O9,Pa⟩,⟨Pb,Pc⟩⟩,Zd,h⟩:=bS h;rw[Option.some.inj Zd];refine sr<|al (cs:=[az false,ax,az false,ax]) (by exact⟨au,aB,au,aB,aq⟩) Y<|so Y Y Y<|dn<|aW<|al (cs:=[az false,ax,az false,ax]) (by exact⟨au,aB,au,aB,aq⟩) Y<|so Y Y Y<|RT.done ?_;refine aV.n ⟨Y,?_⟩;dsimp only[AS.BC];refine bj<|aW<|RT.nr .none (s:=.fe _ _) Y Y Y T<|ld Y Y (.k4 Y Y Y Y)<|ld Y Y (.k4 Y Y Y Y) ?_;obtain⟨⟨⟨UD,UE⟩,⟨UF,UG⟩⟩,tC,h⟩:=bS h;refine cB (Ce tC) 5 Y ⟨Y,Y,aq⟩<|RT.done<|bw.n ?_;replace h:=Option.some.inj h;refine⟨aq,Y,Y,?_⟩
 try dsimp only
 rw[<-h]
 try dsimp only
 exact wR [];rw[Ul];obtain⟨zh,zj,zk,zm⟩:=e7
 try dsimp only
 refine bw.n<|aV.n<|sr<|ld Y Y (.k4 Y Y Y Y)<|so Y Y Y<|dn<|bf ?_;obtain rfl:=O MO;exact RZ (.agg Y Y (.k4 Y Y Y Y) Y (.nil))
theorem zq{x0:List Qr}{x1:List Qr}{r:Int}(h:iX x0 x1=some r):Pure ah 36 [slc 4 (List.map eQ x0),slc 4 (List.map eQ x1)] (ay r):=by
 refine aZ Tryz.func36 Y (af Y) (λdy M vs hvs=>?_);unfold iX at h;refine sr<|al (cs:=[ay 0]) (by exact⟨au,aq⟩) Y<|dn<|qq<|sr<|mv Y<|mv Y<|cl (uR x0 x1) ⟨Y,Y,aq⟩<|dn<|bj<|bE h λe3 QD Ry=>?_;obtain⟨m3,Ze,V9,Zf,Zg⟩:=vU QD;refine kK (uS x0 x1) (λ_ _ _ _ _=>trivial) Y (λk=>AS.cu 19 [(4,.ptr 4 0),(10,.sv (oK 112 [ref [slc 4 (List.map eQ x0)],ref [slc 4 (List.map eQ x1)]]))] [(4,⟨3,[ai 0]⟩)] []) [4] Y (λ_=>⟨Y,Y⟩) (sS Y) (λ_=>Y) (sV Y) (by(try dsimp only);(try dsimp only);exact c8 id Y Y Y Y Y ⟨.ptr,.sv au,aq⟩ ⟨⟨_,Y,⟨.sv au,aq⟩⟩,aq⟩ trivial (λ_ _=>Y)) m3 (λk hk hkm D hD=>?_) (λhdn=>?_);obtain⟨y3,h,Zh,Zi⟩:=Zf k hk hkm;dsimp only[AS.Mr,r6]
 try dsimp only at h
 obtain⟨⟨⟨D0,D1⟩,⟨D2,D3⟩⟩,Kl,h⟩:=bS h;rw[Option.some.inj Kl];obtain⟨⟨⟨Pd,Pe⟩,⟨Pf,Pg⟩⟩,Zj,h⟩:=bS h;rw[Option.some.inj Zj];refine sr<|al (cs:=[az false,ax,az false,ax]) (by exact⟨au,aB,au,aB,aq⟩) Y<|so Y Y Y<|dn<|aW<|al (cs:=[az false,ax,az false,ax]) (by exact⟨au,aB,au,aB,aq⟩) Y<|so Y Y Y<|RT.done ?_;refine aV.n ⟨Y,?_⟩;dsimp only[AS.BC];refine bj<|sr<|ld Y Y (.k4 Y Y Y Y)<|ld Y Y (.k4 Y Y Y Y)<|bE h λdS iV h=>cl (qH iV) ⟨Y,Y,aq⟩<|ag Y<|dn<|sr<|mv Y<|lE h λfm k8 h=>ne _ Y Y (HU (p:=dS) (q:=0) k8)<|dn ?_;cases fm;refine cF<|bp<|bw.n ?_;obtain rfl:=O (F h);obtain⟨Zk,Wa⟩:=Zh _ Y;exact⟨Zk,Y,Y,wR []⟩;refine cT<|sr<|mv Y<|RT.nK (cells:=[_]) .none (s:=.sv _) Y Y Y T Y<|dn<|bf<|bw.r ?_;obtain rfl:=O (V h);have Zl:=Zi _ Y;subst Zl;refine⟨Y,Y,?_⟩;refine bw.r<|aV.r ?_;obtain rfl:=O Ry;exact RZ (.one Y Y Y (.nil));have Zm:=Zg hdn;subst Zm;obtain⟨ee3,Rz⟩:∃q,Ze (max x0.length x1.length)=q:=⟨_,Y⟩;rw[Rz]at Ry
 try dsimp only
 refine bw.n<|aV.n<|sr<|RT.nK (cells:=[_]) .none (s:=.sv _) Y Y Y T Y<|dn<|bf ?_;obtain rfl:=O Ry;exact RZ (.one Y Y Y (.nil))
theorem jL{x0:List Qr}{x1:List Qr}{r:Bool}(h:ej x0 x1=some r):Pure ah 37 [slc 4 (List.map eQ x0),slc 4 (List.map eQ x1)] (az r):=by
 refine aZ Tryz.func37 Y (af Y) (λdy M vs hvs=>?_);unfold ej at h;refine sr<|ag Y<|dn<|sr<|mv Y<|mv Y<|bE h λx7 h7 h=>cl (zq h7) ⟨Y,Y,aq⟩<|lE h λx8 h8 h=>eq _ Y Y (xy (p:=x7) (q:=0) h8)<|ag Y<|dn<|bf ?_;obtain rfl:=O h;exact R1 Y
theorem zu{x0:List Qr}{x1:Int}{r:List Qr}(h:kM x0 x1=some r):HQ ah 59 [slc 4 (List.map eQ x0),ay x1] (TR 36 4 eQ r):=by
 refine sP Tryz.func59 Y (af Y) (λdy M vs hvs=>?_);unfold kM at h;refine sr<|ag Y<|dn<|bO (gj 4 304 36 4 Y Y T)<|qq<|sr<|mv Y<|lE h λx8 h8 h=>ls _ Y Y h8<|dn ?_;cases x8;refine fs<|sr<|mv Y<|lE (F h) λec gD h=>RT.min .none _ Y Y T (Mx (p:=x1) (q:=65536) gD)<|bE h λfV l6 h=>RT.r8 (n:=4) (e:=eQ) .none Y Y T Y T (by rfl) (by decide) (by exact⟨au,aB,au,aB,aq⟩) l6<|an (s:=.row _) Y<|dn<|qq<|sr<|mv Y<|lE h λjB mG h=>ln Y mG<|mo (s:=.row _) Y<|lE h λdS iV h=>lL Y Y iV<|lE h λfo iW h=>?_;refine RT.min .none _ Y Y T (Mx (p:=jB) (q:=dS) iW)<|mv Y<|dn<|bE h λe8 B0 tD=>?_;refine bJ (λ(xe:(List Qr))=>AS.cu 30 [(5,.row 11)] [] [(11,TR 36 4 eQ xe)]) (λxe=>xe=e8) ?_ (λxe B3=>?_);refine bj ?_;refine bK B0 (λs8=>AS.cu 30 [(0,.sv (slc 4 (List.map eQ x0))),(5,.row 11),(16,ai fo),(17,ai s8.1)] [] [(11,TR 36 4 eQ s8.2)]) (wR []) (λs8 y8 G8 h B4 B5=>?_);obtain⟨sE,uQ⟩:=s8
 try dsimp only
 refine sr<|lE h λfg j0 h=>ls _ Y Y j0<|dn<|qq ?_;cases fg;refine cF<|bP<|aV.x<|aV.x<|bw.x<|aV.n ?_;obtain rfl:=O (F h);exact⟨uQ,B5 _ Y,wR []⟩;refine cT<|bp<|aV.n<|qq<|bj<|sr<|mv Y<|ag Y<|dn<|aW<|mo (s:=.row _) Y<|mv Y<|mv Y<|mv Y ?_;obtain⟨⟨⟨n9,oa⟩,⟨oc,oe⟩⟩,oD,h⟩:=bS (V h);refine ix Y Y oD<|RT.nu (cs:=[_,_,_,_]) .none Y T Y Y ?_;obtain⟨⟨⟨sF,sG⟩,⟨sH,sI⟩⟩,rT,h⟩:=bS h;refine cl (eC rT) ⟨Y,aq⟩<|bE h λgy m9 h=>iR Y Y Y m9<|bE h λth n8 h=>sA ⟨⟨sF,sG⟩,⟨sH,sI⟩⟩ Y Y Y n8<|RT.done<|bw.n<|aV.n<|aW<|lE h λkW tC h=>ad _ Y Y tC<|mv Y<|RT.done ?_;obtain rfl:=O h;exact aV.n ⟨(kW,th),B4 _ Y,wR []⟩;subst B3
 try dsimp only
 refine aV.n<|sr<|mo (s:=.row _) Y<|an (s:=.row _) Y<|dn<|bf ?_;obtain rfl:=O tD;exact⟨.inr Y,_,.tmp Y,Y⟩;refine cT<|sr<|ag Y<|dn<|bO (gj 4 310 36 4 Y Y T)<|bf<|aV.r ?_;obtain rfl:=O (V h);exact⟨.inr Y,_,.tmp Y,Y⟩
theorem eF{x0:List Int}{r:List Qr}(h:cU x0=some r):Pure ah 42 [slc 1 (List.map bG x0)] (slc 4 (List.map eQ r)):=by
 refine aZ Tryz.func42 Y (af Y) (λdy M vs hvs=>?_);unfold cU at h;refine sr<|aI Y (aB (n:=4) (e:=eQ))<|dn<|sr<|mv Y<|lE h λx7 h7 h=>ln Y h7<|bE h λx8 h8 h=>RT.r8 (n:=4) (e:=eQ) .none Y Y T Y T (by rfl) (by decide) (by exact⟨au,aB,au,aB,aq⟩) h8<|an (s:=.row _) Y<|dn<|qq<|sr<|mv Y<|lE h λec gD h=>ln Y gD<|mv Y<|dn<|bE h λe8 B0 tD=>?_;refine bJ (λ(tK:(List Qr))=>AS.cu 23 [(3,.row 8)] [] [(8,TR 36 4 eQ tK)]) (λtK=>tK=e8) ?_ (λtK B3=>?_);refine bj ?_;refine bK B0 (λs8=>AS.cu 23 [(3,.row 8),(9,.sv (slc 1 (List.map bG x0))),(10,ai ec),(11,ai s8.1)] [] [(8,TR 36 4 eQ s8.2)]) (wR []) (λs8 y8 G8 h B4 B5=>?_);obtain⟨qK,zo⟩:=s8
 try dsimp only
 refine sr<|lE h λdw fU h=>ls _ Y Y fU<|dn<|qq ?_;cases dw;refine cF<|bP<|aV.x<|aV.x<|bw.x<|aV.n ?_;obtain rfl:=O (F h);exact⟨zo,B5 _ Y,wR []⟩;refine cT<|bp<|aV.n<|qq<|bj<|sr<|mv Y<|bE (V h) λeK jC h=>ix Y Y jC<|lr Y Y<|ag Y<|ag Y<|dn<|aW<|mo (s:=.row _) Y<|mv Y<|mv Y ?_;obtain⟨⟨⟨pD,pE⟩,⟨Kj,Kk⟩⟩,nc,h⟩:=bS h;refine cl (nE nc) ⟨Y,aq⟩<|bE h λja oR h=>iR Y Y Y oR<|bE h λth n8 h=>sA ⟨⟨pD,pE⟩,⟨Kj,Kk⟩⟩ Y Y Y n8<|RT.done<|bw.n<|aV.n<|aW<|lE h λgG nf h=>ad _ Y Y nf<|mv Y<|RT.done ?_;obtain rfl:=O h;exact aV.n ⟨(gG,th),B4 _ Y,wR []⟩;subst B3
 try dsimp only
 refine aV.n<|sr<|mo (s:=.row _) Y<|an (s:=.row _) Y<|dn<|bO (cC (i:=8) (E1:=36) (n:=4) (e:=eQ) (l:=tK) Y)<|bf ?_;obtain rfl:=O tD;exact R1 Y
end
section
open Go.Fw
noncomputable def kG(x0:List (List Qr))(x1:Int):Option (List Qr):=cj (λ(zg:Bool)=>(bif zg then some []else(cX x0 x1).bind λdS=>some dS)) λK3=>(some (decide ((x1:Int)<0))).bind λx6=>(bif x6 then some true else(some (x0.length:Int)).bind λec=>(some (decide ((ec:Int)<=x1))).bind λfV=>some fV).bind λPh=>K3 Ph
noncomputable def kH(x0:List (List Qr)):Option (Int):=(some (x0.length:Int)).bind λx7=>(cf (λ(s6:Int×Int)=>match s6 with|⟨lj,MS⟩=>(show Option ((Int×Int)⊕(Int))from(some (decide ((MS:Int)<x7))).bind λx9=>(bif x9 then(cX x0 MS).bind λec=>(some (ec.length:Int)).bind λeK=>(some (max (lj:Int) eK)).bind λdS=>(some (IntKind.i64.wrap (MS+1))).bind λfo=>some (.inl (dS,fo))else some (.inr lj)))) (0,0)).bind λog=>some og
noncomputable def oh(x0:List (List Qr))(x1:Int)(x2:Int):Option (Qr):=(kG x0 x1).bind λec=>cj (λ(Km:Bool)=>(bif Km then some ⟨⟨false,[]⟩,⟨false,[]⟩⟩else(cX ec x2).bind λ⟨⟨su,sw⟩,⟨sB,sD⟩⟩=>(cn ⟨⟨su,sw⟩,⟨sB,sD⟩⟩).bind λ⟨⟨n9,oa⟩,⟨oc,oe⟩⟩=>some ⟨⟨n9,oa⟩,⟨oc,oe⟩⟩)) λK3=>(some (decide ((x2:Int)<0))).bind λdw=>(bif dw then some true else(some (ec.length:Int)).bind λfo=>(some (decide ((fo:Int)<=x2))).bind λfm=>some fm).bind λPj=>K3 Pj
noncomputable def gN(x0:List (List Qr))(x1:List Qr):Option (List Qr):=(some (x0.length:Int)).bind λx9=>(C0 64 x9 (⟨⟨false,[]⟩,⟨false,[]⟩⟩:Qr)).bind λec=>(some (x0.length:Int)).bind λdw=>(cf (λ(s8:Int×(List Qr))=>match s8 with|⟨qI,qJ⟩=>(show Option ((Int×(List Qr))⊕((List Qr)))from(some (decide ((qI:Int)<dw))).bind λeK=>(bif eK then(cX x0 qI).bind λfo=>(dR fo x1).bind λ⟨⟨su,sw⟩,⟨sB,sD⟩⟩=>(r7 qJ qI).bind λiI=>(stM qJ iI ⟨⟨su,sw⟩,⟨sB,sD⟩⟩).bind λth=>(some (IntKind.i64.wrap (qI+1))).bind λic=>some (.inl (ic,th))else some (.inr qJ)))) (0,ec)).bind λmK=>some mK
noncomputable def iA(x0:List (List Qr))(x1:List (List Qr)):Option (Bool):=(lN (λ(k:Nat) (s3:Unit)=>(show Option ((Unit)⊕(Bool))from(some (x0.getD k [])).bind λQN=>(some (x1.getD k [])).bind λp11=>(ej QN p11).bind λeK=>(some (!eK)).bind λdS=>(bif dS then some (.inr false)else some (.inl ())))) (max x0.length x1.length) ()).bind λe3=>match e3 with|.inr v3=>some v3|.inl _=>some true
noncomputable def ek(x0:List (List Int)):Option (List (List Qr)):=(some (x0.length:Int)).bind λx7=>(C0 24 x7 ([]:List Qr)).bind λx8=>(some (x0.length:Int)).bind λec=>(cf (λ(s8:Int×(List (List Qr)))=>match s8 with|⟨qK,zo⟩=>(show Option ((Int×(List (List Qr)))⊕((List (List Qr))))from(some (decide ((qK:Int)<ec))).bind λdw=>(bif dw then(cX x0 qK).bind λeK=>(cU eK).bind λkq=>(r7 zo qK).bind λja=>(stM zo ja kq).bind λth=>(some (IntKind.i64.wrap (qK+1))).bind λgG=>some (.inl (gG,th))else some (.inr zo)))) (0,x8)).bind λtK=>some tK
end
section
open Go.Fw Go.Fw.Z Go.RowKit
theorem tL{x0:List (List Qr)}{x1:Int}{r:List Qr}(h:kG x0 x1=some r):Pure ah 96 [slc 1 (List.map (eS 4 eQ) x0),.v (.int .i64 x1)] (slc 4 (List.map eQ r)):=by
 refine aZ Tryz.func96 Y (af Y) (λdy M vs hvs=>?_);unfold kG at h;refine sr<|aI Y (aB (n:=4) (e:=eQ))<|dn<|qq<|qq ?_;refine bB h (λj3=>AS.cu 17 [(0,.sv (slc 1 (List.map (eS 4 eQ) x0))),(1,.sv (.v (.int .i64 x1))),(12,.sv (.v (.bool j3)))] [] []) (λh=>?_) (λzg h=>?_);refine aW<|mv Y<|lE h λx6 h6 h=>ls _ Y Y h6<|mv Y<|bE h λPh rB h=>?_;cases x6;refine gm Y<|gm Y<|lE (F rB) λec gD rB=>gn Y gD<|lE rB λfV l6 rB=>RT.geq (.some Y Y) _ Y Y T l6 ?_;obtain rfl:=O rB;exact pF Y<|dn<|⟨fV,h,wR []⟩;obtain rfl:=O (V rB);exact ww<|ww<|ww<|ww<|pT Y<|dn<|⟨true,h,wR []⟩
 try dsimp only
 refine aV.n ?_;cases zg;refine fs<|sr<|mv Y<|mv Y<|bE (F h) λdS iV h=>ix Y Y iV<|lr Y Y<|ag Y<|dn<|bf ?_;obtain rfl:=O h;exact R1 Y;refine cT<|sr<|aI Y (aB (n:=4) (e:=eQ))<|dn<|bf<|aV.r ?_;obtain rfl:=O (V h);exact R1 Y
theorem zw(a:List (List Qr))(i:Nat):kG a (i:Int)=some (a.getD i []):=by
 unfold kG;unfold cj;by_cases h:i<a.length;simp[cX,h,show ¬((i:Int)<0) by omega,show ¬((a.length:Int)<=(i:Int)) by omega,List.getD];simp[h,show ¬((i:Int)<0) by omega,show((a.length:Int)<=(i:Int)) by omega,eN (Nat.not_lt.1 h)]
theorem xE(a b:List (List Qr)):Pure ah 90 [(slc 1 (List.map (eS 4 eQ) a)),(slc 1 (List.map (eS 4 eQ) b))] (oK 120 [ref [(slc 1 (List.map (eS 4 eQ) a))],ref [(slc 1 (List.map (eS 4 eQ) b))]]):=by
 refine aZ Tryz.func90 Y (af Y) (λdy M vs hvs=>?_);refine sr<|RT.Bv .none (s:=.sv _) Y T Y Y<|RT.Bv .none (s:=.sv _) Y T Y Y<|ag Y<|dn<|sr<|RT.makeFunc .none (.box Y (.box Y (.nil))) T<|an (s:=.fe _ _) Y<|dn<|bO (kz (i:=2) Y [(slc 1 (List.map (eS 4 eQ) a))] (.cons Y .nil) .any 0 [(4,.fe 120 [.val (ref [(slc 1 (List.map (eS 4 eQ) a))]),.box 3])] (λ_ _ _=>trivial) (sL.h (l:=[(slc 1 (List.map (eS 4 eQ) a))])) ⟨@FT.fe _ _ _ _ _ 4 120 [.box 2,.box 3] Y,aq⟩) ?_;exact bO (kz (i:=3) Y [(slc 1 (List.map (eS 4 eQ) b))] (.cons Y .nil) .any 0 [(4,.fe 120 [.val (ref [(slc 1 (List.map (eS 4 eQ) a))]),.val (ref [(slc 1 (List.map (eS 4 eQ) b))])])] (λ_ _ _=>trivial) (sL.h (l:=[(slc 1 (List.map (eS 4 eQ) b))])) ⟨@FT.fe _ _ _ _ _ 4 120 [.val (ref [(slc 1 (List.map (eS 4 eQ) a))]),.box 3] Y,aq⟩)<|bO (BD 4 (oK 120 [ref [(slc 1 (List.map (eS 4 eQ) a))],ref [(slc 1 (List.map (eS 4 eQ) b))]]) (λ_ _ h=>BE h))<|bf<|⟨.inr Y,Bz (.tmp Y (.nil)) Y⟩
theorem xF(a b:List (List Qr)):Iter ah 120 [ref [(slc 1 (List.map (eS 4 eQ) a))],ref [(slc 1 (List.map (eS 4 eQ) b))]] (max a.length b.length) (λk=>[(slc 4 (List.map eQ (a.getD k []))),(slc 4 (List.map eQ (b.getD k [])))]):=by
 refine oM Tryz.func120 Y Y (af Y) (λdy M O l J hJ vH hr=>?_);obtain⟨pJ,vH⟩:=vH;have hla:a.length<=9223372036854775807:=by cases pJ with|nil=>exact vH.elim|cons _ pJ=>exact rj vH.1
 have hlb:b.length<=9223372036854775807:=by cases pJ with|nil=>exact vH.elim|cons _ pJ=>cases pJ with|nil=>exact vH.2.elim|cons _ _=>exact rj vH.2.1
 refine bz ?_;refine aW ?_;refine RT.cD .none Y Y (tl Y) ?_;refine RT.len .none Y (tl Y) ?_;refine RT.cD .none Y Y (tl Y) ?_;refine RT.len .none Y (tl Y) ?_;refine RT.max .none (((max a.length b.length:Nat):Int)) Y Y (tl Y) (by simp only[List.length_map];split<;>omega) ?_;refine RT.mv .none Y (tl Y) ?_;refine RT.done ?_;refine aV.n ?_;refine bj ?_
 refine uf (I:=λx:{i:Nat//i<=max a.length b.length}=>AS.cu 23 [(0,.sv (.v (.func (.yield l) #[] #[]))),(1,.sv (ref [(slc 1 (List.map (eS 4 eQ) a))])),(2,.sv (ref [(slc 1 (List.map (eS 4 eQ) b))])),(9,.sv (.v (.int .i64 ((max a.length b.length:Nat):Int)))),(10,.sv (.v (.int .i64 ((x.1:Nat):Int))))] [] [] (x.1)) (μ:=λx=>max a.length b.length-x.1) ⟨0,by omega⟩ (by(try dsimp only);exact c8 id rfl rfl rfl rfl rfl ⟨.sv (by first|exact au|exact SV.aX (by omega)|exact SV.aX (by push_cast;omega)|exact SV.aX (by dsimp only;omega)|exact SV.imp_eq (by simp)),.sv (by first|exact au|exact SV.aX (by omega)|exact SV.aX (by push_cast;omega)|exact SV.aX (by dsimp only;omega)|exact SV.imp_eq (by simp)),.sv (by first|exact au|exact SV.aX (by omega)|exact SV.aX (by push_cast;omega)|exact SV.aX (by dsimp only;omega)|exact SV.imp_eq (by simp)),.sv (by first|exact au|exact SV.aX (by omega)|exact SV.aX (by push_cast;omega)|exact SV.aX (by dsimp only;omega)|exact SV.imp_eq (by simp)),.sv (by first|exact au|exact SV.aX (by omega)|exact SV.aX (by push_cast;omega)|exact SV.aX (by dsimp only;omega)|exact SV.imp_eq (by simp)),aq⟩ trivial trivial (λ_ _=>rfl)) ?_;rintro⟨i,On⟩
 try dsimp only
 rcases Nat.lt_or_eq_of_le On with hi|hi
 ·
  refine bz ?_;refine aW ?_;refine RT.lss .none (true) Y Y (tl Y) (by simp;omega) ?_;refine RT.done ?_;refine aV.n ?_;refine bz ?_;refine cw Y ?_;refine bp ?_;refine aV.n ?_;refine bz ?_;refine bj ?_;refine bz ?_;refine aW ?_;refine RT.mv .none Y (tl Y) ?_;refine RT.yq .none Y (tl Y) ?_;refine RT.done ?_;refine aV.n ?_;refine bz ?_;refine yJ 7 mixed ?_;refine RT.mv .none Y (tl Y) ?_;refine RT.cD .none Y Y (tl Y) ?_;refine RT.mv .none Y (tl Y) ?_;refine RT.call .none (tL (zw a i)) Y ⟨Y,Y,aq⟩ (tl Y) ?_;refine RT.cD .none Y Y (tl Y) ?_;refine RT.mv .none Y (tl Y) ?_;refine RT.call .none (tL (zw b i)) Y ⟨Y,Y,aq⟩ (tl Y) ?_;refine RT.done ⟨by kernel_rfl,?_⟩;refine RT.yield .none hr Y (λ_ h=>h) Y (i) Y Y hi (by exact⟨Y,Y,aq⟩) (tl Y) (λyb=>?_);cases yb
  ·
   refine RT.not .none Y (tl Y) true Y ?_;refine RT.done ?_;refine aV.n ?_;refine cw Y ?_;refine bf ?_;refine bw.r ?_;refine aV.r ?_;refine aV.r ?_;refine bw.r ?_;exact⟨.inr rfl,(λh=>by cases h)⟩
  refine RT.not .none Y (tl Y) false Y ?_;refine RT.done ?_;refine aV.n ?_;refine dm Y ?_;refine bp ?_;refine bw.n ?_;refine aV.n ?_;refine aW ?_;refine RT.add .none (((i:Nat):Int)+1) Y Y (tl Y) (jF (by omega)) ?_;refine RT.mv .none Y (tl Y) ?_;refine RT.done ?_;refine aV.n ?_;refine⟨⟨i+1,by omega⟩,(by dsimp only;omega),?_⟩
  try dsimp only
  exact c8 id rfl rfl rfl rfl rfl ⟨.sv (by first|exact au|exact SV.aX (by omega)|exact SV.aX (by push_cast;omega)|exact SV.aX (by dsimp only;omega)|exact SV.imp_eq (by simp)),.sv (by first|exact au|exact SV.aX (by omega)|exact SV.aX (by push_cast;omega)|exact SV.aX (by dsimp only;omega)|exact SV.imp_eq (by simp)),.sv (by first|exact au|exact SV.aX (by omega)|exact SV.aX (by push_cast;omega)|exact SV.aX (by dsimp only;omega)|exact SV.imp_eq (by simp)),.sv (by first|exact au|exact SV.aX (by omega)|exact SV.aX (by push_cast;omega)|exact SV.aX (by dsimp only;omega)|exact SV.imp_eq (by simp)),.sv (by first|exact au|exact SV.aX (by omega)|exact SV.aX (by push_cast;omega)|exact SV.aX (by dsimp only;omega)|exact SV.imp_eq (by simp)),aq⟩ trivial trivial (λ_ _=>rfl)
 subst hi;refine bz ?_;refine aW ?_;refine RT.lss .none (false) Y Y (tl Y) (by simp) ?_;refine RT.done ?_;refine aV.n ?_;refine bz ?_;refine dm Y ?_;refine bP ?_;refine aV.x ?_;refine aV.x ?_;refine bw.x ?_;exact⟨.inl rfl,(λ_=>rfl)⟩
theorem xg{x0:List (List Qr)}{r:Int}(h:kH x0=some r):Pure ah 58 [slc 1 (List.map (eS 4 eQ) x0)] (.v (.int .i64 r)):=by
 refine aZ Tryz.func58 Y (af Y) (λdy M vs hvs=>?_);unfold kH at h;refine sr<|ag Y<|dn<|sr<|ag Y<|dn<|qq<|sr<|mv Y<|lE h λx7 h7 h=>ln Y h7<|mv Y<|dn<|bE h λe6 Au jt=>?_;refine bJ (λ(og:Int)=>AS.cu 18 [(3,.sv (.v (.int .i64 og)))] [] []) (λog=>og=e6) ?_ (λog Av=>?_);refine bj ?_;refine bK Au (λs6=>AS.cu 18 [(3,.sv (.v (.int .i64 s6.1))),(6,.sv (slc 1 (List.map (eS 4 eQ) x0))),(7,.sv (.v (.int .i64 x7))),(8,.sv (.v (.int .i64 s6.2)))] [] []) (wR []) (λs6 y6 G6 h Aw v8=>?_);obtain⟨lj,MS⟩:=s6
 try dsimp only
 refine sr<|lE h λx9 h9 h=>ls _ Y Y h9<|dn<|qq ?_;cases x9;refine cF<|bP<|aV.x<|aV.x<|bw.x<|aV.n ?_;obtain rfl:=O (F h);exact⟨lj,v8 _ Y,wR []⟩;refine cT<|bp<|aV.n<|qq<|bj<|sr<|bE (V h) λec gD h=>ix Y Y gD<|lr Y Y<|ag Y<|dn<|aW<|mv Y<|mv Y<|lE h λeK jC h=>ln Y jC<|lE h λdS iV h=>RT.max .none _ Y Y T (Mw (p:=lj) (q:=eK) iV)<|ag Y<|RT.done<|bw.n<|aV.n<|aW<|lE h λfo iW h=>ad _ Y Y iW<|mv Y<|RT.done ?_;obtain rfl:=O h;exact aV.n ⟨(dS,fo),Aw _ Y,wR []⟩;subst Av
 try dsimp only
 refine aV.n<|sr<|mv Y<|ag Y<|dn<|bf ?_;obtain rfl:=O jt;exact R1 Y
theorem Bd{x0:List (List Qr)}{x1:Int}{x2:Int}{r:Qr}(h:oh x0 x1 x2=some r):Pure ah 57 [slc 1 (List.map (eS 4 eQ) x0),.v (.int .i64 x1),.v (.int .i64 x2)] (.agg (eQ r)):=by
 refine aZ Tryz.func57 Y (af Y) (λdy M vs hvs=>?_);unfold oh at h;refine sr<|al (cs:=[.v (.bool false),slc 1 (List.map aY []),.v (.bool false),slc 1 (List.map aY [])]) (by exact⟨au,aB,au,aB,aq⟩) Y<|dn<|sr<|mv Y<|mv Y<|bE h λec gD h=>cl (tL gD) ⟨Y,Y,aq⟩<|ag Y<|dn<|qq<|qq ?_;refine bB h (λj3=>AS.cu 25 [(2,.sv (.v (.int .i64 x2))),(6,.ptr 6 0),(7,.sv (slc 4 (List.map eQ ec))),(18,.sv (.v (.bool j3)))] [(6,⟨36,[.sv (.v (.bool false)),.sv (slc 1 (List.map aY [])),.sv (.v (.bool false)),.sv (slc 1 (List.map aY []))]⟩)] []) (λh=>?_) (λKm h=>?_);refine aW<|mv Y<|lE h λdw fU h=>ls _ Y Y fU<|mv Y<|bE h λPj rB h=>?_;cases dw;refine gm Y<|gm Y<|lE (F rB) λfo iW rB=>gn Y iW<|lE rB λfm k8 rB=>RT.geq (.some Y Y) _ Y Y T k8 ?_;obtain rfl:=O rB;exact pF Y<|dn<|⟨fm,h,wR []⟩;obtain rfl:=O (V rB);exact ww<|ww<|ww<|ww<|pT Y<|dn<|⟨true,h,wR []⟩
 try dsimp only
 refine aV.n ?_;cases Km;refine fs<|sr<|mv Y<|mv Y ?_;obtain⟨⟨⟨su,sw⟩,⟨sB,sD⟩⟩,n7,h⟩:=bS (F h);refine ix Y Y n7<|RT.nu (cs:=[_,_,_,_]) .none Y T Y Y ?_;obtain⟨⟨⟨n9,oa⟩,⟨oc,oe⟩⟩,oD,h⟩:=bS h;refine cl (eC oD) ⟨Y,aq⟩<|so Y Y Y<|dn<|bf ?_;obtain rfl:=O h;exact RZ (.agg Y Y (.cons Y (.cons Y (.cons Y (.cons Y (.nil))))) Y (.nil));refine cT<|sr<|bI (cs:=[_,_,_,_]) (cs':=[.v (.bool false),slc 1 (List.map aY []),.v (.bool false),slc 1 (List.map aY [])]) (.nil) ⟨au,aB,au,aB,aq⟩<|so Y Y Y<|dn<|bf<|aV.r ?_;obtain rfl:=O (V h);exact RZ (.agg Y Y (.cons Y (.cons Y (.cons Y (.cons Y (.nil))))) Y (.nil))
theorem AE{x0:List (List Qr)}{x1:List Qr}{r:List Qr}(h:gN x0 x1=some r):Pure ah 63 [slc 1 (List.map (eS 4 eQ) x0),slc 4 (List.map eQ x1)] (slc 4 (List.map eQ r)):=by
 refine aZ Tryz.func63 Y (af Y) (λdy M vs hvs=>?_);unfold gN at h;refine sr<|aI Y (aB (n:=4) (e:=eQ))<|dn<|sr<|mv Y<|lE h λx9 h9 h=>ln Y h9<|bE h λec gD h=>RT.r8 (n:=4) (e:=eQ) .none Y Y T Y T (by rfl) (by decide) (by exact⟨au,aB,au,aB,aq⟩) gD<|an (s:=.row _) Y<|dn<|qq<|sr<|mv Y<|lE h λdw fU h=>ln Y fU<|mv Y<|dn<|bE h λe8 B0 tD=>?_;refine bJ (λ(mK:(List Qr))=>AS.cu 26 [(5,.row 10)] [] [(10,TR 36 4 eQ mK)]) (λmK=>mK=e8) ?_ (λmK B3=>?_);refine bj ?_;refine bK B0 (λs8=>AS.cu 26 [(1,.sv (slc 4 (List.map eQ x1))),(5,.row 10),(11,.sv (slc 1 (List.map (eS 4 eQ) x0))),(12,.sv (.v (.int .i64 dw))),(13,.sv (.v (.int .i64 s8.1)))] [] [(10,TR 36 4 eQ s8.2)]) (wR []) (λs8 y8 G8 h B4 B5=>?_);obtain⟨qI,qJ⟩:=s8
 try dsimp only
 refine sr<|lE h λeK jC h=>ls _ Y Y jC<|dn<|qq ?_;cases eK;refine cF<|bP<|aV.x<|aV.x<|bw.x<|aV.n ?_;obtain rfl:=O (F h);exact⟨qJ,B5 _ Y,wR []⟩;refine cT<|bp<|aV.n<|qq<|bj<|sr<|mv Y<|bE (V h) λfo iW h=>ix Y Y iW<|lr Y Y<|ag Y<|ag Y<|dn<|aW<|mo (s:=.row _) Y<|mv Y<|mv Y<|mv Y ?_;obtain⟨⟨⟨su,sw⟩,⟨sB,sD⟩⟩,n7,h⟩:=bS h;refine cl (oT n7) ⟨Y,Y,aq⟩<|bE h λiI pM h=>iR Y Y Y pM<|bE h λth n8 h=>sA ⟨⟨su,sw⟩,⟨sB,sD⟩⟩ Y Y Y n8<|RT.done<|bw.n<|aV.n<|aW<|lE h λic oD h=>ad _ Y Y oD<|mv Y<|RT.done ?_;obtain rfl:=O h;exact aV.n ⟨(ic,th),B4 _ Y,wR []⟩;subst B3
 try dsimp only
 refine aV.n<|sr<|mo (s:=.row _) Y<|an (s:=.row _) Y<|dn<|bO (cC (i:=10) (E1:=36) (n:=4) (e:=eQ) (l:=mK) Y)<|bf ?_;obtain rfl:=O tD;exact R1 Y
theorem uT{x0:List (List Qr)}{x1:List (List Qr)}{r:Bool}(h:iA x0 x1=some r):Pure ah 51 [slc 1 (List.map (eS 4 eQ) x0),slc 1 (List.map (eS 4 eQ) x1)] (.v (.bool r)):=by
 refine aZ Tryz.func51 Y (af Y) (λdy M vs hvs=>?_);unfold iA at h;refine sr<|al (cs:=[.v (.bool false)]) (by exact⟨au,aq⟩) Y<|dn<|qq<|sr<|mv Y<|mv Y<|cl (xE x0 x1) ⟨Y,Y,aq⟩<|dn<|bj<|bE h λe3 QD Ry=>?_;obtain⟨m3,Ze,V9,Zf,Zg⟩:=vU QD;refine kK (xF x0 x1) (λ_ _ _ _ _=>trivial) rfl (λk=>AS.cu 16 [(4,.ptr 4 0),(9,.sv (oK 120 [ref [slc 1 (List.map (eS 4 eQ) x0)],ref [slc 1 (List.map (eS 4 eQ) x1)]]))] [(4,⟨4,[.sv (.v (.bool false))]⟩)] []) [4] rfl (λ_=>⟨rfl,rfl⟩) (sS rfl) (λ_=>rfl) (sV rfl) (by(try dsimp only);(try dsimp only);exact c8 id rfl rfl rfl rfl rfl ⟨.ptr,.sv au,aq⟩ ⟨⟨_,rfl,⟨.sv au,aq⟩⟩,aq⟩ trivial (λ_ _=>rfl)) m3 (λk hk hkm D hD=>?_) (λhdn=>?_);obtain⟨y3,h,Zh,Zi⟩:=Zf k hk hkm;dsimp only[AS.Mr,r6]
 try dsimp only at h
 refine lE h λQN RA h=>?_;rw[RA];refine lE h λp11 Kl h=>?_;rw[Kl];refine sr<|ag Y<|dn<|aW<|ag Y<|RT.done ?_;refine aV.n ⟨Y,?_⟩;dsimp only[AS.BC];refine bj<|sr<|mv Y<|mv Y<|bE h λeK jC h=>cl (jL jC) ⟨Y,Y,aq⟩<|lE h λdS iV h=>nt Y _ iV<|dn ?_;cases dS;refine cF<|bp<|bw.n ?_;obtain rfl:=O (F h);obtain⟨Zk,Wa⟩:=Zh _ Y;exact⟨Zk,Y,Y,wR []⟩;refine cT<|sr<|RT.nK (cells:=[_]) .none (s:=.sv _) Y Y Y T Y<|dn<|bf<|bw.r ?_;obtain rfl:=O (V h);have Zl:=Zi _ Y;subst Zl;refine⟨Y,Y,?_⟩;refine bw.r<|aV.r ?_;obtain rfl:=O Ry;exact RZ (.one Y Y Y (.nil));have Zm:=Zg hdn;subst Zm;obtain⟨ee3,Rz⟩:∃q,Ze (max x0.length x1.length)=q:=⟨_,Y⟩;rw[Rz]at Ry
 try dsimp only
 refine bw.n<|aV.n<|sr<|RT.nK (cells:=[_]) .none (s:=.sv _) Y Y Y T Y<|dn<|bf ?_;obtain rfl:=O Ry;exact RZ (.one Y Y Y (.nil))
theorem jc{x0:List (List Int)}{r:List (List Qr)}(h:ek x0=some r):Pure ah 41 [slc 1 (List.map (eS 1 bG) x0)] (slc 1 (List.map (eS 4 eQ) r)):=by
 refine aZ Tryz.func41 Y (af Y) (λdy M vs hvs=>?_);unfold ek at h;refine sr<|aI Y (aB (n:=1) (e:=(eS 4 eQ)))<|dn<|sr<|mv Y<|lE h λx7 h7 h=>ln Y h7<|bE h λx8 h8 h=>RT.r8 (n:=1) (e:=(eS 4 eQ)) .none Y Y T Y T (by rfl) (by decide) (by exact⟨aB,aq⟩) h8<|an (s:=.row _) Y<|dn<|qq<|sr<|mv Y<|lE h λec gD h=>ln Y gD<|mv Y<|dn<|bE h λe8 B0 tD=>?_;refine bJ (λ(tK:(List (List Qr)))=>AS.cu 23 [(3,.row 8)] [] [(8,TR 24 1 (eS 4 eQ) tK)]) (λtK=>tK=e8) ?_ (λtK B3=>?_);refine bj ?_;refine bK B0 (λs8=>AS.cu 23 [(3,.row 8),(9,.sv (slc 1 (List.map (eS 1 bG) x0))),(10,.sv (.v (.int .i64 ec))),(11,.sv (.v (.int .i64 s8.1)))] [] [(8,TR 24 1 (eS 4 eQ) s8.2)]) (wR []) (λs8 y8 G8 h B4 B5=>?_);obtain⟨qK,zo⟩:=s8
 try dsimp only
 refine sr<|lE h λdw fU h=>ls _ Y Y fU<|dn<|qq ?_;cases dw;refine cF<|bP<|aV.x<|aV.x<|bw.x<|aV.n ?_;obtain rfl:=O (F h);exact⟨zo,B5 _ Y,wR []⟩;refine cT<|bp<|aV.n<|qq<|bj<|sr<|mv Y<|bE (V h) λeK jC h=>ix Y Y jC<|lr Y Y<|ag Y<|ag Y<|dn<|aW<|mo (s:=.row _) Y<|mv Y<|mv Y<|bE h λkq nc h=>cl (eF nc) ⟨Y,aq⟩<|bE h λja oR h=>iR Y Y Y oR<|bE h λth n8 h=>sR kq Y Y Y Y n8<|RT.done<|bw.n<|aV.n<|aW<|lE h λgG nf h=>ad _ Y Y nf ?_;refine mv Y<|RT.done ?_;obtain rfl:=O h;exact aV.n ⟨(gG,th),B4 _ Y,wR []⟩;subst B3
 try dsimp only
 refine aV.n<|sr<|mo (s:=.row _) Y<|an (s:=.row _) Y<|dn<|bO (cC (i:=8) (E1:=24) (n:=1) (e:=(eS 4 eQ)) (l:=tK) Y)<|bf ?_;obtain rfl:=O tD;exact R1 Y
end
end Go.Proofs.YtfoldppidpmchaaGreat
namespace Go.Fw
section
open Go.RowKit
theorem Kn{α:Type}{e:α->List SV}{l:List α}{n:Nat}{s t:SV}{r:List SV}{M:Mem}{v:Value}(h:(ref (s::t::slc n (l.map e)::r)).h M v):l.length<=9223372036854775807:=by
 obtain⟨b,o,_,h⟩:=h;obtain⟨y,_,_,h⟩:=h 2 _ Y;exact GM h
theorem FH{α β:Type}(a:List α)(b:List β)(i:Nat)(h:i<=a.length):(i<a.length/\i<b.length)\/(i<a.length/\b.length<=i)\/i=a.length:=by omega
class UH (P:Program) (T:TypeId) (I:outParam TypeId):Prop where
 fs:(match P.underlying T with|some (.struct fs)=>(match fs.toList with|[f1,f2,f3,f4]=>(decide (f1.type=I)&&decide (f1.offset=0)&&decide (f1.name≠ "_"))&&(decide (f2.type=I)&&decide (f2.offset=1)&&decide (f2.name≠ "_"))&&(decide (f3.type=I)&&decide (f3.offset=2)&&decide (f3.name≠ "_"))&&(decide (f4.type=I)&&decide (f4.offset=3)&&decide (f4.name≠ "_"))|_=>false)|_=>false)=true
 hp:P.stoodInHeld T=false
 hI:P.underlying I=some (.int .i64)
 hg:P.eqGuardType P.depth T=false
theorem UH.ex{P:Program}{T I:TypeId}(h:UH P T I):∃f1 f2 f3 f4:Field,P.underlying T=some (.struct #[f1,f2,f3,f4])/\(f1.type=I/\f1.offset=0/\f1.name≠ "_")/\(f2.type=I/\f2.offset=1/\f2.name≠ "_")/\(f3.type=I/\f3.offset=2/\f3.name≠ "_")/\(f4.type=I/\f4.offset=3/\f4.name≠ "_"):=by
 have h1:=h.fs;cases hu:P.underlying T with
 |none=>rw[hu]at h1;cases h1
 |some d=>
  rw[hu]at h1;cases d with
  |struct fs=>
   obtain⟨l⟩:=fs
   match l,h1 with
   |[f1,f2,f3,f4],h1=>
    simp only[Bool.and_eq_true,decide_eq_true_eq]at h1;obtain⟨⟨⟨⟨⟨a1,a2⟩,a3⟩,⟨⟨b1,b2⟩,b3⟩⟩,⟨⟨c1,c2⟩,c3⟩⟩,⟨⟨d1,d2⟩,d3⟩⟩:=h1;exact⟨f1,f2,f3,f4,Y,⟨a1,a2,a3⟩,⟨b1,b2,b3⟩,⟨c1,c2,c3⟩,⟨d1,d2,d3⟩⟩
  |_=>cases h1
theorem RB{P:Program}{T I:TypeId}[tI:oF P I][t4:UH P T I](w:World)(a1 a2 a3 a4 b1 b2 b3 b4:Int):
  (binOp .neq T (.agg #[.int .i64 a1,.int .i64 a2,.int .i64 a3,.int .i64 a4]) (.agg #[.int .i64 b1,.int .i64 b2,.int .i64 b3,.int .i64 b4])).run P w=.ok (.bool (!(a1==b1&&(a2==b2&&(a3==b3&&a4==b4))))) w:=by
 obtain⟨f1,f2,f3,f4,hT,h1,h2,h3,h4⟩:=t4.ex;have hf:P.fieldsOf T=#[f1,f2,f3,f4]:=by simp[Program.fieldsOf,hT]
 rw[run_neq_struct,run_equalIn_struct w 9999 T _ _ (by rw[hf];exact hT) t4.hp,hf];have hpt:∀(xs:Array Value) (o:Nat) (v:Value),xs[o]? =some v->(part I xs o).run P w=.ok v w:=by
  intro xs o v h;simp[part,oF.isAgg,h]
 have step:∀(f:Field) (l:List Field) (o:Nat) (xs ys:Array Value) (a b:Int),(f.type=I/\f.offset=o/\f.name≠ "_")->xs[o]? =some (.int .i64 a)->ys[o]? =some (.int .i64 b)->
   ∀r,(Op.eqFields 9999 xs ys l).run P w=.ok r w->(Op.eqFields 9999 xs ys (f::l)).run P w=.ok (a==b&&r) w:=by
  intro f l o xs ys a b ⟨q1,q2,q3⟩ hx hy r hr;simp only[Op.eqFields,q1,q2,q3,ne_eq,not_false_eq_true,if_true,Sem.run_bind];rw[hpt _ o _ hx,Result.andThen_ok,hpt _ o _ hy,Result.andThen_ok,run_equalIn_int w _ I .i64 .i64 _ _ t4.hI,Result.andThen_ok];cases e:(a==b)
  ·simp
  simpa using hr
 have nil:∀(xs ys:Array Value),(Op.eqFields 9999 xs ys []).run P w=.ok true w:=λ_ _=>by simp[Op.eqFields]
 have:=step f1 [f2,f3,f4] 0 #[.int .i64 a1,.int .i64 a2,.int .i64 a3,.int .i64 a4] #[.int .i64 b1,.int .i64 b2,.int .i64 b3,.int .i64 b4] a1 b1 h1 Y Y _
  (step f2 [f3,f4] 1 _ _ a2 b2 h2 Y Y _ (step f3 [f4] 2 _ _ a3 b3 h3 Y Y _ (step f4 [] 3 _ _ a4 b4 h4 Y Y _ (nil _ _))))
 rw[this,Result.andThen_ok];simp
section steps
variable {P:Program}{C:Ctx}{ops:Array Oper}{S:AS}{nd:Bool}{K:List Ac->AS->Prop}{rest:List Oper}{acc:List Ac}
variable {gd:Option (Nat×Bool)}{rg:List Nat}{d:Nat}{ty:TypeId}{pos:String}{aft:Array Edge}{x y z:Operand}{T U E0:TypeId}
theorem UI{M:Mem}{v:Value}{a b c d:Int}(h:(SV.agg [.v (.int .i64 a),.v (.int .i64 b),.v (.int .i64 c),.v (.int .i64 d)]).h M v):v=.agg #[.int .i64 a,.int .i64 b,.int .i64 c,.int .i64 d]:=by
 obtain⟨vs,rfl,h⟩:=h
 match vs,h with
 |[_,_,_,_],⟨h1,h2,h3,h4,_⟩=>
  have e1:_=_:=h1;have e2:_=_:=h2;have e3:_=_:=h3;have e4:_=_:=h4;rw[e1,e2,e3,e4]
theorem RT.RB(hg:Gd ops S gd rg){I:TypeId}[tI:oF P I][t4:UH P T I]{a1 a2 a3 a4 b1 b2 b3 b4:Int}{c:Bool}(hx:S.ev x=.sv (.agg [.v (.int .i64 a1),.v (.int .i64 a2),.v (.int .i64 a3),.v (.int .i64 a4)]))(hy:S.ev y=.sv (.agg [.v (.int .i64 b1),.v (.int .i64 b2),.v (.int .i64 b3),.v (.int .i64 b4)]))(hd:d<S.n)
  (hc:(!(a1==b1&&(a2==b2&&(a3==b3&&a4==b4))))=c)
  (next:RunT P C ops nd K rest (⟨rg++(bg x++bg y),[],[],⟨some (d,.sv (.v (.bool c))),[],[]⟩⟩::acc) (S.set d (.sv (.v (.bool c))))):RunT P C ops nd K (⟨some d,.binOp .neq T x y U,ty,pos,aft,gd⟩::rest) acc S:=
 RT.value hg (bg x++bg y) [] [] (.sv (.v (.bool c))) hd (by intro c h;cases h) (λS' ht _ _ E a w h=>by
  have h1:=h.ev x;rw[bA (λ_ h=>List.mem_append_left _ h) ht,hx]at h1;have h2:=h.ev y;rw[bA (λ_ h=>List.mem_append_right _ h) ht,hy]at h2;refine⟨.bool c,?_,Y,fT⟩;have e:=Fw.RB (P:=P) (T:=T) (I:=I) w a1 a2 a3 a4 b1 b2 b3 b4;rw[hc]at e;simp only[execOp,UI h1,UI h2,Sem.run_bind,run_eqGuard_agg w .neq T x y _ _ t4.hg,Result.andThen_ok,e];rfl) next
end steps
end
end Go.Fw
namespace Go.Proofs.YtfoldppidpmchaaGreat
section
open Go.Fw
noncomputable def gO(x0:Lr):Option (Sz):=match x0 with|⟨bu,bt,bH,bT⟩=>(some (bt.length:Int)).bind λx7=>(some (bH.length:Int)).bind λec=>(some (bT.length:Int)).bind λjB=>some ⟨bu,x7,ec,jB⟩
noncomputable def iB(x0:Lr):Option (Bool):=match x0 with|⟨bu,bt,bH,bT⟩=>(gO ⟨bu,bt,bH,bT⟩).bind λ⟨wz,y7,uO,wA⟩=>cj (λ(Ko:Bool)=>(bif Ko then some false else cj (λ(FI:Bool)=>(bif FI then some false else cj (λ(Pk:Bool)=>some Pk) λXU=>(kH bt).bind λud=>(some (decide ((ud:Int)<=wz))).bind λpL=>(bif pL then(kH bH).bind λBQ=>(some (decide ((BQ:Int)<=wz))).bind λqc=>some qc else some false).bind λKp=>XU Kp)) λJB=>(some (decide ((128:Int)<uO))).bind λkV=>(bif kV then some true else(some (decide ((wA:Int)≠uO))).bind λiQ=>some iQ).bind λKq=>JB Kq)) λWb=>(some (decide ((wz:Int)<0))).bind λx8=>(bif x8 then some true else(some (decide ((64:Int)<wz))).bind λdw=>some dw).bind λKr=>(bif Kr then some true else(some (decide ((y7:Int)<1))).bind λfm=>some fm).bind λRC=>(bif RC then some true else(some (decide ((4:Int)<y7))).bind λiP=>some iP).bind λRE=>Wb RE
noncomputable def dY(x0:Lr)(x1:List Qr):Option (Bool):=match x0 with|⟨bu,bt,bH,bT⟩=>cj (λ(Ks:Bool)=>(bif Ks then some false else(some (x1.length:Int)).bind λgG=>(cf (λ(GV:Int)=>(show Option ((Int)⊕((Unit)⊕(Bool)))from(some (decide ((GV:Int)<gG))).bind λiI=>(bif iI then(cX x1 GV).bind λ⟨⟨n9,oa⟩,⟨oc,oe⟩⟩=>(gz ⟨⟨n9,oa⟩,⟨oc,oe⟩⟩).bind λgy=>(some (decide ((gy:Int)<0))).bind λkW=>(bif kW then some (.inr (.inr false))else(some (IntKind.i64.wrap (GV+1))).bind λij=>some (.inl ij))else some (.inr (.inl ()))))) 0).bind λe9=>match e9 with|.inr v9=>some v9|.inl _=>(lN (λ(k:Nat) (ET:Unit)=>(show Option ((Unit)⊕(Bool))from(some ((Lr.rows ⟨bu,bt,bH,bT⟩).getD k [])).bind λp32=>(some ((Lr.bounds ⟨bu,bt,bH,bT⟩).getD k (⟨⟨false,[]⟩,⟨false,[]⟩⟩:Qr))).bind λ⟨⟨Pm,Pn⟩,⟨Po,Pp⟩⟩=>(dR p32 x1).bind λ⟨⟨qg,qh⟩,⟨DR,DS⟩⟩=>(iz ⟨⟨qg,qh⟩,⟨DR,DS⟩⟩ ⟨⟨Pm,Pn⟩,⟨Po,Pp⟩⟩).bind λua=>(some (decide ((ua:Int)=1))).bind λkU=>(bif kU then some (.inr false)else some (.inl ())))) ((Lr.rows ⟨bu,bt,bH,bT⟩).length) ()).bind λL1=>match L1 with|.inr v12=>some v12|.inl _=>some true)) λK3=>(iB ⟨bu,bt,bH,bT⟩).bind λfV=>(some (!fV)).bind λdw=>(bif dw then some true else(some (x1.length:Int)).bind λdS=>(some (decide ((bu:Int)<dS))).bind λfg=>some fg).bind λKt=>K3 Kt
noncomputable def eR(x0:Lr)(x1:List Qr):Option (List Qr):=match x0 with|⟨bu,bt,bH,bT⟩=>(gN bt x1).bind λx8=>some x8
noncomputable def mL(x0:Lr)(x1:List Qr):Option (List Qr):=match x0 with|⟨bu,bt,bH,bT⟩=>(nM (λ(k:Nat) (wB:(List Qr))=>(show Option ((List Qr))from(some ((Lr.rows ⟨bu,bt,bH,bT⟩).getD k [])).bind λQN=>(some ((Lr.bounds ⟨bu,bt,bH,bT⟩).getD k (⟨⟨false,[]⟩,⟨false,[]⟩⟩:Qr))).bind λ⟨⟨D0,D1⟩,⟨D2,D3⟩⟩=>(dR QN x1).bind λ⟨⟨jo,jq⟩,⟨xb,xd⟩⟩=>(mI ⟨⟨D0,D1⟩,⟨D2,D3⟩⟩ ⟨⟨jo,jq⟩,⟨xb,xd⟩⟩).bind λ⟨⟨nB,nC⟩,⟨pG,pH⟩⟩=>(sW 64 wB [⟨⟨nB,nC⟩,⟨pG,pH⟩⟩]).bind λkq=>some kq)) ((Lr.rows ⟨bu,bt,bH,bT⟩).length) []).bind λwB=>some wB
noncomputable def iK(x0:Lr):Option (Lr×Int):=match x0 with|⟨bu,bt,bH,bT⟩=>cj (λ(Ku:Bool)=>(bif Ku then some (⟨0,[],[],[]⟩,1)else(some (bH.length:Int)).bind λgy=>(dQ (-1)).bind λ⟨⟨Pq,Pr⟩,⟨Ps,Pt⟩⟩=>(lf ⟨⟨Pq,Pr⟩,⟨Ps,Pt⟩⟩ bT).bind λmu=>(cf (λ(RF:Int×(List (List Qr))×(List Qr))=>match RF with|⟨oU,rC,rD⟩=>(show Option ((Int×(List (List Qr))×(List Qr))⊕((List (List Qr))×(List Qr)))from(some (decide ((oU:Int)<bu))).bind λpL=>(bif pL then(C0 64 gy (⟨⟨false,[]⟩,⟨false,[]⟩⟩:Qr)).bind λqa=>(some (qa.length:Int)).bind λuE=>(cf (λ(Tb:Int×(List Qr))=>match Tb with|⟨zx,zy⟩=>(show Option ((Int×(List Qr))⊕((List Qr)))from(some (decide ((zx:Int)<uE))).bind λqc=>(bif qc then(oh bH zx oU).bind λ⟨⟨Pu,Pv⟩,⟨Pw,Px⟩⟩=>(ji ⟨⟨Pu,Pv⟩,⟨Pw,Px⟩⟩).bind λ⟨⟨Kv,Kw⟩,⟨Kx,Ky⟩⟩=>(r7 zy zx).bind λOq=>(stM zy Oq ⟨⟨Kv,Kw⟩,⟨Kx,Ky⟩⟩).bind λZn=>(some (IntKind.i64.wrap (zx+1))).bind λMJ=>some (.inl (MJ,Zn))else some (.inr zy)))) (0,qa)).bind λoV=>(sW 24 rC [oV]).bind λZo=>(oh bt 0 oU).bind λ⟨⟨Py,Pz⟩,⟨PA,PB⟩⟩=>(ji ⟨⟨Py,Pz⟩,⟨PA,PB⟩⟩).bind λ⟨⟨GW,GX⟩,⟨GY,GZ⟩⟩=>(sW 64 rD [⟨⟨GW,GX⟩,⟨GY,GZ⟩⟩]).bind λGQ=>(some (IntKind.i64.wrap (oU+1))).bind λMN=>some (.inl (MN,Zo,GQ))else some (.inr (rC,rD))))) (0,[],[])).bind λZp=>match Zp with|⟨Cg,Ch⟩=>some (⟨gy,[mu],Cg,Ch⟩,0))) λK6=>(iB ⟨bu,bt,bH,bT⟩).bind λfV=>(some (!fV)).bind λdw=>(bif dw then some true else(some (bH.length:Int)).bind λfo=>(some (decide ((64:Int)<fo))).bind λfm=>some fm).bind λKz=>(bif Kz then some true else(some (decide ((128:Int)<bu))).bind λiP=>some iP).bind λRG=>K6 RG
noncomputable def mM(x0:Lr)(x1:Lr):Option (Bool):=match x0 with|⟨bu,bt,bH,bT⟩=>match x1 with|⟨cc,bX,gJ,gK⟩=>(gO ⟨bu,bt,bH,bT⟩).bind λ⟨xG,xH,UJ,UL⟩=>(gO ⟨cc,bX,gJ,gK⟩).bind λ⟨qC,qD,UM,UN⟩=>(some (!(((xG:Int)==qC)&&(((xH:Int)==qD)&&(((UJ:Int)==UM)&&((UL:Int)==UN)))))).bind λx9=>(bif x9 then some false else cj (λ(UO:Bool)=>some UO) λK6=>(iA bt bX).bind λeK=>(bif eK then(iA bH gJ).bind λja=>some ja else some false).bind λPC=>(bif PC then(ej bT gK).bind λgy=>some gy else some false).bind λRH=>K6 RH)
end
section
open Go.Fw Go.Fw.Z Go.RowKit
instance:UH ah 71 3:=⟨by kernel_rfl,by kernel_rfl,by kernel_rfl,by kernel_rfl⟩
theorem nF(p:Lr):Pure ah 62 [.agg (Dl p)] (oK 98 [ref [ay p.vars,(slc 1 (List.map (eS 4 eQ) p.uw)),(slc 1 (List.map (eS 4 eQ) p.rows)),(slc 4 (List.map eQ p.bounds))]]):=by
 refine aZ Tryz.func62 Y (af Y) (λdy M vs hvs=>?_);refine sr<|bx Y<|ag Y<|dn<|sr<|RT.makeFunc .none (.box Y (.nil)) T<|an (s:=.fe _ _) Y<|dn ?_;refine bO (kz (i:=1) Y [ay p.vars,(slc 1 (List.map (eS 4 eQ) p.uw)),(slc 1 (List.map (eS 4 eQ) p.rows)),(slc 4 (List.map eQ p.bounds))] (.cons Y (.cons Y (.cons Y (.cons Y .nil)))) .any 0 [(2,.fe 98 [.val (ref [ay p.vars,(slc 1 (List.map (eS 4 eQ) p.uw)),(slc 1 (List.map (eS 4 eQ) p.rows)),(slc 4 (List.map eQ p.bounds))])])] (λ_ _ _=>trivial) (sL.h (l:=[ay p.vars,(slc 1 (List.map (eS 4 eQ) p.uw)),(slc 1 (List.map (eS 4 eQ) p.rows)),(slc 4 (List.map eQ p.bounds))])) ⟨@FT.fe _ _ _ _ _ 2 98 [.box 1] Y,aq⟩)<|bO (BD 2 (oK 98 [ref [ay p.vars,(slc 1 (List.map (eS 4 eQ) p.uw)),(slc 1 (List.map (eS 4 eQ) p.rows)),(slc 4 (List.map eQ p.bounds))]]) (λ_ _ h=>BE h)) ?_;exact bf<|⟨.inr Y,Bz (.tmp Y (.nil)) Y⟩
theorem nG(p:Lr):Iter ah 98 [ref [ay p.vars,(slc 1 (List.map (eS 4 eQ) p.uw)),(slc 1 (List.map (eS 4 eQ) p.rows)),(slc 4 (List.map eQ p.bounds))]] p.rows.length (λk=>[(slc 4 (List.map eQ (p.rows.getD k []))),.agg (eQ (p.bounds.getD k (⟨⟨false,[]⟩,⟨false,[]⟩⟩:Qr)))]):=by
 refine oM Tryz.func98 Y Y (af Y) (λdy M O l J hJ vH hr=>?_);obtain⟨pJ,vH⟩:=vH;have hla:p.rows.length<=9223372036854775807:=by cases pJ with|nil=>exact vH.elim|cons _ pJ=>exact Kn vH.1
 refine bz ?_;refine aW ?_;refine RT.ff .none Y (tl Y) Y ?_;refine RT.cD .none Y Y (tl Y) ?_;refine RT.len .none Y (tl Y) ?_;refine RT.mv .none Y (tl Y) ?_;refine RT.done ?_;refine aV.n ?_;refine bj ?_
 refine uf (I:=λx:{i:Nat//i<=p.rows.length}=>AS.cu 30 [(0,.sv (.v (.func (.yield l) #[] #[]))),(1,.sv (ref [ay p.vars,(slc 1 (List.map (eS 4 eQ) p.uw)),(slc 1 (List.map (eS 4 eQ) p.rows)),(slc 4 (List.map eQ p.bounds))])),(7,.sv ((slc 1 (List.map (eS 4 eQ) p.rows)))),(8,ai ((p.rows.length:Nat):Int)),(9,ai ((x.1:Nat):Int))] [] [] (x.1)) (μ:=λx=>p.rows.length-x.1) ⟨0,by omega⟩ (by(try dsimp only);exact c8 id Y Y Y Y Y ⟨.sv (by first|exact au|exact SV.aX (by omega)|exact SV.aX (by push_cast;omega)|exact SV.aX (by dsimp only;omega)|exact SV.imp_eq (by simp)),.sv (by first|exact au|exact SV.aX (by omega)|exact SV.aX (by push_cast;omega)|exact SV.aX (by dsimp only;omega)|exact SV.imp_eq (by simp)),.sv (by first|exact au|exact SV.aX (by omega)|exact SV.aX (by push_cast;omega)|exact SV.aX (by dsimp only;omega)|exact SV.imp_eq (by simp)),.sv (SV.aX (by simp)),.sv (by first|exact au|exact SV.aX (by omega)|exact SV.aX (by push_cast;omega)|exact SV.aX (by dsimp only;omega)|exact SV.imp_eq (by simp)),aq⟩ trivial trivial (λ_ _=>Y)) ?_;rintro⟨i,On⟩
 try dsimp only
 rcases FH p.rows p.bounds i On with⟨hi,hb⟩|⟨hi,hb⟩|hi
 ·
  refine bz ?_;refine aW ?_;refine RT.lss .none (true) Y Y (tl Y) (by simp;omega) ?_;refine RT.done ?_;refine aV.n ?_;refine bz ?_;refine cw Y ?_;refine bp ?_;refine aV.n ?_;refine bz ?_;refine bj ?_;refine bz ?_;refine aW ?_;refine RT.mv .none Y (tl Y) ?_;refine RT.Jc .none [(slc 4 (List.map eQ (p.rows.getD i [])))] (Int.natCast_nonneg i) (by rw[Int.toNat_natCast,List.getElem?_map,cY hi];rfl) Y Y (tl Y) ?_;refine RT.cD .none Y Y (tl Y) ?_;refine RT.yq .none Y (tl Y) ?_;refine RT.yq .none Y (tl Y) ?_;refine RT.done ?_;refine aV.n ?_;refine bz ?_;refine aW ?_;refine RT.oN .none (cs:=eQ ⟨⟨false,[]⟩,⟨false,[]⟩⟩) (by exact⟨au,aB,au,aB,aq⟩) Y (tl Y) Y Y ?_;refine RT.done ?_;refine aV.n ?_;refine bz ?_;refine bz ?_;refine aW ?_;refine RT.mv .none Y (tl Y) ?_;refine RT.ff .none Y (tl Y) Y ?_;refine RT.cD .none Y Y (tl Y) ?_;refine RT.len .none Y (tl Y) ?_;refine RT.lss .none (true) Y Y (tl Y) (by simp only[List.length_map];simp;omega) ?_;refine RT.done ?_;refine aV.n ?_;refine cw Y ?_;refine aW ?_;refine RT.ff .none Y (tl Y) Y ?_;refine RT.cD .none Y Y (tl Y) ?_;refine RT.mv .none Y (tl Y) ?_
  refine RT.Jc .none [az ((p.bounds.getD i (⟨⟨false,[]⟩,⟨false,[]⟩⟩:Qr)).num.neg),slc 1 ((p.bounds.getD i (⟨⟨false,[]⟩,⟨false,[]⟩⟩:Qr)).num.w.map aY),az ((p.bounds.getD i (⟨⟨false,[]⟩,⟨false,[]⟩⟩:Qr)).den.neg),slc 1 ((p.bounds.getD i (⟨⟨false,[]⟩,⟨false,[]⟩⟩:Qr)).den.w.map aY)] (Int.natCast_nonneg i) (by rw[Int.toNat_natCast,List.getElem?_map,cY hb];rfl) Y Y (tl Y) ?_;refine RT.nu .none Y (tl Y) (cs:=[az ((p.bounds.getD i (⟨⟨false,[]⟩,⟨false,[]⟩⟩:Qr)).num.neg),slc 1 ((p.bounds.getD i (⟨⟨false,[]⟩,⟨false,[]⟩⟩:Qr)).num.w.map aY),az ((p.bounds.getD i (⟨⟨false,[]⟩,⟨false,[]⟩⟩:Qr)).den.neg),slc 1 ((p.bounds.getD i (⟨⟨false,[]⟩,⟨false,[]⟩⟩:Qr)).den.w.map aY)]) Y Y ?_;refine RT.store .none Y Y Y Y Y ?_;refine RT.done ?_;refine aV.n ?_;refine bz ?_;refine aW ?_;refine RT.mv .none Y (tl Y) ?_;refine RT.mv .none Y (tl Y) ?_;refine RT.load .none Y Y (.k4 Y Y Y Y) Y (tl Y) ?_;refine RT.yield .none hr Y (λ_ h=>h) Y (i) Y Y hi (by exact⟨Y,Y,aq⟩) (tl Y) (λyb=>?_);cases yb
  ·
   refine RT.not .none Y (tl Y) true Y ?_;refine RT.done ?_;refine aV.n ?_;refine cw Y ?_;refine bf ?_;refine bw.r ?_;refine aV.r ?_;refine aV.r ?_;refine bw.r ?_;exact⟨.inr rfl,(λh=>by cases h)⟩
  refine RT.not .none Y (tl Y) false Y ?_;refine RT.done ?_;refine aV.n ?_;refine dm Y ?_;refine bp ?_;refine bw.n ?_;refine aV.n ?_;refine aW ?_;refine RT.add .none (((i:Nat):Int)+1) Y Y (tl Y) (jF (by omega)) ?_;refine RT.mv .none Y (tl Y) ?_;refine RT.done ?_;refine aV.n ?_;refine⟨⟨i+1,by omega⟩,(by dsimp only;omega),?_⟩
  try dsimp only
  exact c8 id Y Y Y Y Y ⟨.sv (by first|exact au|exact SV.aX (by omega)|exact SV.aX (by push_cast;omega)|exact SV.aX (by dsimp only;omega)|exact SV.imp_eq (by simp)),.sv (by first|exact au|exact SV.aX (by omega)|exact SV.aX (by push_cast;omega)|exact SV.aX (by dsimp only;omega)|exact SV.imp_eq (by simp)),.sv (by first|exact au|exact SV.aX (by omega)|exact SV.aX (by push_cast;omega)|exact SV.aX (by dsimp only;omega)|exact SV.imp_eq (by simp)),.sv (by first|exact au|exact SV.aX (by omega)|exact SV.aX (by push_cast;omega)|exact SV.aX (by dsimp only;omega)|exact SV.imp_eq (by simp)),.sv (by first|exact au|exact SV.aX (by omega)|exact SV.aX (by push_cast;omega)|exact SV.aX (by dsimp only;omega)|exact SV.imp_eq (by simp)),aq⟩ trivial trivial (λ_ _=>Y)
 ·
  refine bz ?_;refine aW ?_;refine RT.lss .none (true) Y Y (tl Y) (by simp;omega) ?_;refine RT.done ?_;refine aV.n ?_;refine bz ?_;refine cw Y ?_;refine bp ?_;refine aV.n ?_;refine bz ?_;refine bj ?_;refine bz ?_;refine aW ?_;refine RT.mv .none Y (tl Y) ?_;refine RT.Jc .none [(slc 4 (List.map eQ (p.rows.getD i [])))] (Int.natCast_nonneg i) (by rw[Int.toNat_natCast,List.getElem?_map,cY hi];rfl) Y Y (tl Y) ?_;refine RT.cD .none Y Y (tl Y) ?_;refine RT.yq .none Y (tl Y) ?_;refine RT.yq .none Y (tl Y) ?_;refine RT.done ?_;refine aV.n ?_;refine bz ?_;refine aW ?_;refine RT.oN .none (cs:=eQ ⟨⟨false,[]⟩,⟨false,[]⟩⟩) (by exact⟨au,aB,au,aB,aq⟩) Y (tl Y) Y Y ?_;refine RT.done ?_;refine aV.n ?_;refine bz ?_;refine bz ?_;refine aW ?_;refine RT.mv .none Y (tl Y) ?_;refine RT.ff .none Y (tl Y) Y ?_;refine RT.cD .none Y Y (tl Y) ?_;refine RT.len .none Y (tl Y) ?_;refine RT.lss .none (false) Y Y (tl Y) (by simp only[List.length_map];simp;omega) ?_;refine RT.done ?_;refine aV.n ?_;refine dm Y ?_;refine bp ?_;refine aV.n ?_;refine bz ?_;refine aW ?_;refine RT.mv .none Y (tl Y) ?_;refine RT.mv .none Y (tl Y) ?_;refine RT.load .none Y Y (.k4 Y Y Y Y) Y (tl Y) ?_
  refine RT.yield .none hr Y (λ_ h=>h) Y (i) Y Y hi (by exact⟨Y,(by show AV.sv _=AV.sv _;rw[eN hb]),aq⟩) (tl Y) (λyb=>?_);cases yb
  ·
   refine RT.not .none Y (tl Y) true Y ?_;refine RT.done ?_;refine aV.n ?_;refine cw Y ?_;refine bf ?_;refine bw.r ?_;refine aV.r ?_;refine aV.r ?_;refine bw.r ?_;exact⟨.inr rfl,(λh=>by cases h)⟩
  refine RT.not .none Y (tl Y) false Y ?_;refine RT.done ?_;refine aV.n ?_;refine dm Y ?_;refine bp ?_;refine bw.n ?_;refine aV.n ?_;refine aW ?_;refine RT.add .none (((i:Nat):Int)+1) Y Y (tl Y) (jF (by omega)) ?_;refine RT.mv .none Y (tl Y) ?_;refine RT.done ?_;refine aV.n ?_;refine⟨⟨i+1,by omega⟩,(by dsimp only;omega),?_⟩
  try dsimp only
  exact c8 id Y Y Y Y Y ⟨.sv (by first|exact au|exact SV.aX (by omega)|exact SV.aX (by push_cast;omega)|exact SV.aX (by dsimp only;omega)|exact SV.imp_eq (by simp)),.sv (by first|exact au|exact SV.aX (by omega)|exact SV.aX (by push_cast;omega)|exact SV.aX (by dsimp only;omega)|exact SV.imp_eq (by simp)),.sv (by first|exact au|exact SV.aX (by omega)|exact SV.aX (by push_cast;omega)|exact SV.aX (by dsimp only;omega)|exact SV.imp_eq (by simp)),.sv (by first|exact au|exact SV.aX (by omega)|exact SV.aX (by push_cast;omega)|exact SV.aX (by dsimp only;omega)|exact SV.imp_eq (by simp)),.sv (by first|exact au|exact SV.aX (by omega)|exact SV.aX (by push_cast;omega)|exact SV.aX (by dsimp only;omega)|exact SV.imp_eq (by simp)),aq⟩ trivial trivial (λ_ _=>Y)
 subst hi;refine bz ?_;refine aW ?_;refine RT.lss .none (false) Y Y (tl Y) (by simp) ?_;refine RT.done ?_;refine aV.n ?_;refine bz ?_;refine dm Y ?_;refine bP ?_;refine aV.x ?_;refine aV.x ?_;refine bw.x ?_;exact⟨.inl Y,(λ_=>Y)⟩
theorem nQ{x0:Lr}{r:Sz}(h:gO x0=some r):Pure ah 50 [.agg (Dl x0)] (.agg (eSz r)):=by
 obtain⟨bu,bt,bH,bT⟩:=x0;refine aZ Tryz.func50 Y (af Y) (λdy M vs hvs=>?_);unfold gO at h;refine sr<|bx Y<|al (cs:=[ay 0,ay 0,ay 0,ay 0]) (by exact⟨au,au,au,au,aq⟩) Y<|dn<|sr<|fa Y Y<|lV Y Y Y<|fa Y Y<|lV Y Y Y<|lE h λx7 h7 h=>ln Y h7<|fa Y Y<|lV Y Y Y<|lE h λec gD h=>ln Y gD<|fa Y Y ?_;refine lV Y Y Y<|lE h λjB mG h=>ln Y mG<|bI (cs:=[_,_,_,_]) (cs':=[ay bu,ay x7,ay ec,ay jB]) (.one Y (.one Y (.one Y (.one Y (.nil))))) ⟨au,au,au,au,aq⟩<|so Y Y Y<|dn<|bf ?_;obtain rfl:=O h;exact RZ (.agg Y Y (.k4 Y Y Y Y) Y (.nil))
theorem nH{x0:Lr}{r:Bool}(h:iB x0=some r):Pure ah 17 [.agg (Dl x0)] (az r):=by
 obtain⟨bu,bt,bH,bT⟩:=x0;refine aZ Tryz.func17 Y (af Y) (λdy M vs hvs=>?_);unfold iB at h;refine sr<|bx Y<|ag Y<|dn<|sr<|ld Y Y (.k4 Y Y Y Y) ?_;obtain⟨⟨wz,y7,uO,wA⟩,h5,h⟩:=bS h;refine cl (nQ h5) ⟨Y,aq⟩<|al (cs:=[ay 0,ay 0,ay 0,ay 0]) (by exact⟨au,au,au,au,aq⟩) Y<|so Y Y Y<|dn<|qq<|qq ?_;refine bB h (λPD=>AS.cu 48 [(1,.ptr 1 0),(3,.ptr 3 0),(23,aj PD)] [(3,⟨71,[ai wz,ai y7,ai uO,ai wA]⟩),(1,⟨26,[ai bu,.sv (slc 1 (List.map (eS 4 eQ) bt)),.sv (slc 1 (List.map (eS 4 eQ) bH)),.sv (slc 4 (List.map eQ bT))]⟩)] []) (λh=>?_) (λKo h=>?_);refine aW<|fa Y Y<|lV Y Y Y<|lE h λx8 h8 h=>ls _ Y Y h8<|mv Y<|bE h λKr MT h=>?_;cases x8;refine RT.fieldAddr (.some Y Y) Y T Y<|RT.q9 (.some Y Y) Y Y Y T<|lE (F MT) λdw fU MT=>gg _ Y Y fU ?_;obtain rfl:=O MT;refine pF Y<|mv Y<|bE h λZq MU h=>?_;cases dw;refine RT.fieldAddr (.some Y Y) Y T Y<|RT.q9 (.some Y Y) Y Y Y T<|lE (F MU) λfm k8 MU=>RT.lss (.some Y Y) _ Y Y T k8 ?_;obtain rfl:=O MU;refine pF Y<|mv Y<|bE h λZs MV h=>?_;cases fm;refine RT.fieldAddr (.some Y Y) Y T Y<|RT.q9 (.some Y Y) Y Y Y T<|lE (F MV) λiP n7 MV=>gg _ Y Y n7 ?_;obtain rfl:=O MV;exact pF Y<|dn<|⟨iP,h,wR []⟩;obtain rfl:=O (V MV);exact ww<|ww<|ww<|pT Y<|dn<|⟨true,h,wR []⟩
 obtain rfl:=O (V MU);refine ww<|ww<|ww<|pT Y<|mv Y<|bE h λZt Zu h=>?_;obtain rfl:=O (V Zu);exact ww<|ww<|ww<|pT Y<|dn<|⟨true,h,wR []⟩;obtain rfl:=O (V MT);refine ww<|ww<|ww<|pT Y<|mv Y<|bE h λFJ lp h=>?_;obtain rfl:=O (V lp);refine ww<|ww<|ww<|pT Y<|mv Y<|bE h λZv nh h=>?_;obtain rfl:=O (V nh);exact ww<|ww<|ww<|pT Y<|dn<|⟨true,h,wR []⟩
 try dsimp only
 refine aV.n ?_;cases Ko;refine fs<|qq<|qq ?_;refine bB (F h) (λJU=>AS.cu 48 [(1,.ptr 1 0),(3,.ptr 3 0),(33,aj JU)] [(3,⟨71,[ai wz,ai y7,ai uO,ai wA]⟩),(1,⟨26,[ai bu,.sv (slc 1 (List.map (eS 4 eQ) bt)),.sv (slc 1 (List.map (eS 4 eQ) bH)),.sv (slc 4 (List.map eQ bT))]⟩)] []) (λh=>?_) (λFI h=>?_);refine aW<|fa Y Y<|lV Y Y Y<|lE h λkV rT h=>gt _ Y Y rT<|mv Y<|bE h λKq yR h=>?_;cases kV;refine RT.fieldAddr (.some Y Y) Y T Y<|RT.q9 (.some Y Y) Y Y Y T<|RT.fieldAddr (.some Y Y) Y T Y<|RT.q9 (.some Y Y) Y Y Y T<|lE (F yR) λiQ nP yR=>gq _ Y Y (HU (p:=wA) (q:=uO) nP) ?_;obtain rfl:=O yR;exact pF Y<|dn<|⟨iQ,h,wR []⟩;obtain rfl:=O (V yR);exact ww<|ww<|ww<|ww<|ww<|pT Y<|dn<|⟨true,h,wR []⟩
 try dsimp only
 refine aV.n ?_;cases FI;refine fs<|qq ?_;refine bB (F h) (λYN=>AS.cu 48 [(2,aj YN)] [] []) (λh=>?_) (λPk h=>?_);refine bh mixed<|fa Y Y<|lV Y Y Y<|bE h λud wh h=>cl (xg wh) ⟨Y,aq⟩<|fa Y Y<|lV Y Y Y<|lE h λpL DG h=>RT.leq .none _ Y Y T DG<|mv Y<|bE h λKp rV h=>?_;cases pL;obtain rfl:=O (F rV);refine ww<|ww<|ww<|ww<|ww<|ww<|pF Y<|ag Y ?_;refine RT.done ⟨by kernel_rfl,?_⟩;exact aV.n<|⟨false,h,wR []⟩;refine RT.fieldAddr (.some Y Y) Y T Y<|RT.q9 (.some Y Y) Y Y Y T<|bE (V rV) λBQ IP rV=>gc (xg IP) ⟨Y,aq⟩<|RT.fieldAddr (.some Y Y) Y T Y<|RT.q9 (.some Y Y) Y Y Y T<|lE rV λqc h46 rV=>RT.leq (.some Y Y) _ Y Y T h46 ?_;obtain rfl:=O rV;refine pT Y<|ag Y ?_;refine RT.done ⟨by kernel_rfl,?_⟩;exact aV.n<|⟨qc,h,wR []⟩
 try dsimp only
 refine aV.n<|bf ?_;obtain rfl:=O h;exact R1 Y;refine cT<|sr<|ag Y<|dn<|bf<|aV.r ?_;obtain rfl:=O (V h);exact R1 Y;refine cT<|sr<|ag Y<|dn<|bf<|aV.r ?_;obtain rfl:=O (V h);exact R1 Y
theorem iC{x0:Lr}{x1:List Qr}{r:Bool}(h:dY x0 x1=some r):Pure ah 20 [.agg (Dl x0),slc 4 (List.map eQ x1)] (az r):=by
 obtain⟨bu,bt,bH,bT⟩:=x0;refine aZ Tryz.func20 Y (af Y) (λdy M vs hvs=>?_);unfold dY at h;refine sr<|bx Y<|RT.Bv .none (s:=.sv _) Y T Y Y<|ag Y<|dn<|Jx<|qq<|qq ?_;refine bB h (λj3=>AS.cu 42 [(2,.ptr 2 0),(3,.ptr 3 0),(19,aj j3)] [(3,⟨24,[.sv (slc 4 (List.map eQ x1))]⟩),(2,⟨26,[ai bu,.sv (slc 1 (List.map (eS 4 eQ) bt)),.sv (slc 1 (List.map (eS 4 eQ) bH)),.sv (slc 4 (List.map eQ bT))]⟩)] []) (λh=>?_) (λKs h=>?_);refine aW<|ld Y Y (.k4 Y Y Y Y)<|bE h λfV l6 h=>cl (nH l6) ⟨Y,aq⟩<|lE h λdw fU h=>nt Y _ fU<|mv Y<|bE h λKt Im h=>?_;cases dw;refine RT.q9 (.some Y Y) Y Y Y T<|lE (F Im) λdS iV Im=>gn Y iV<|RT.fieldAddr (.some Y Y) Y T Y<|RT.q9 (.some Y Y) Y Y Y T<|lE Im λfg j0 Im=>gg _ Y Y j0 ?_;obtain rfl:=O Im;exact pF Y<|dn<|⟨fg,h,wR []⟩;obtain rfl:=O (V Im);exact ww<|ww<|ww<|ww<|ww<|pT Y<|dn<|⟨true,h,wR []⟩
 try dsimp only
 refine aV.n ?_;cases Ks;refine fs<|qq<|sr<|lV Y Y Y<|lE (F h) λgG nf h=>ln Y nf<|mv Y<|dn<|bE h λe9 hl9 ho9=>?_;refine bJ (λ(Zw:Unit)=>AS.cu 42 [(2,.ptr 2 0),(3,.ptr 3 0)] [(3,⟨24,[.sv (slc 4 (List.map eQ x1))]⟩),(2,⟨26,[ai bu,.sv (slc 1 (List.map (eS 4 eQ) bt)),.sv (slc 1 (List.map (eS 4 eQ) bH)),.sv (slc 4 (List.map eQ bT))]⟩)] []) (λZw=>.inl Zw=e9) ?_ (λZw hx9=>?_);refine bj ?_;refine bK hl9 (λs9=>AS.cu 42 [(2,.ptr 2 0),(3,.ptr 3 0),(20,.sv (slc 4 (List.map eQ x1))),(21,ai gG),(22,ai s9)] [(3,⟨24,[.sv (slc 4 (List.map eQ x1))]⟩),(2,⟨26,[ai bu,.sv (slc 1 (List.map (eS 4 eQ) bt)),.sv (slc 1 (List.map (eS 4 eQ) bH)),.sv (slc 4 (List.map eQ bT))]⟩)] []) (wR []) (λGV y9 G9 h hG9 hE9=>?_)
 try dsimp only
 refine sr<|lE h λiI pM h=>ls _ Y Y pM<|dn<|qq ?_;cases iI;refine cF<|bP<|aV.x<|aV.x<|bw.x<|aV.n ?_;obtain rfl:=O (F h);exact⟨(),hE9 _ Y,wR []⟩;refine cT<|bp<|aV.n<|qq<|bj<|sr ?_;obtain⟨⟨⟨n9,oa⟩,⟨oc,oe⟩⟩,oD,h⟩:=bS (V h);refine ix Y Y oD<|RT.nu (cs:=[_,_,_,_]) .none Y T Y Y<|al (cs:=[az false,ax,az false,ax]) (by exact⟨au,aB,au,aB,aq⟩) Y<|so Y Y Y<|dn<|sr<|ld Y Y (.k4 Y Y Y Y)<|bE h λgy m9 h=>cl (l9 m9) ⟨Y,aq⟩<|lE h λkW tC h=>ls _ Y Y tC<|dn ?_;cases kW;refine cF<|bp<|bw.n<|aV.n<|aW<|lE (F h) λij m8 h=>ad _ Y Y m8<|mv Y<|RT.done ?_;obtain rfl:=O h;exact aV.n ⟨ij,hG9 _ Y,wR []⟩;refine cT<|sr<|ag Y<|dn<|bf<|bw.r<|aV.r ?_;obtain rfl:=O (V h);have he9:=hE9 _ Y;subst he9;refine aV.r<|bw.r<|aV.r<|aV.r<|MD.r ?_;obtain rfl:=O ho9;exact R1 Y;subst hx9
 try dsimp only
 refine aV.n<|sr<|al (cs:=[az false]) (by exact⟨au,aq⟩) Y<|RT.nK (cells:=[_]) .none (s:=.sv _) Y Y Y T Y<|dn<|qq<|Jy<|aV.n<|qq<|sr<|ld Y Y (.k4 Y Y Y Y)<|cl (nF ⟨bu,bt,bH,bT⟩) ⟨Y,aq⟩<|dn<|bj<|bE ho9 λL1 JX l8=>?_;obtain⟨m12,Zx,aet,Zy,Zz⟩:=vU JX;refine kK (nG ⟨bu,bt,bH,bT⟩) (λ_ _ _ _ _=>trivial) Y (λk=>AS.cu 42 [(3,.ptr 3 0),(7,.ptr 7 0),(31,.sv (oK 98 [ref [ay bu,slc 1 (List.map (eS 4 eQ) bt),slc 1 (List.map (eS 4 eQ) bH),slc 4 (List.map eQ bT)]]))] [(7,⟨4,[aj true]⟩),(3,⟨24,[.sv (slc 4 (List.map eQ x1))]⟩)] []) [7,3] Y (λ_=>⟨Y,Y⟩) (sS Y) (λ_=>Y) (sV Y) (by(try dsimp only);(try dsimp only);exact c8 id Y Y Y Y Y ⟨.ptr,.ptr,.sv au,aq⟩ ⟨⟨_,Y,⟨.sv au,aq⟩⟩,⟨_,Y,⟨.sv au,aq⟩⟩,aq⟩ trivial (λ_ _=>Y)) m12 (λk hk hkm D hD=>?_) (λhdn=>?_);obtain⟨y12,h,JY,JZ⟩:=Zy k hk hkm;dsimp only[AS.Mr,r6]
 try dsimp only at h
 refine lE h λp32 ZA h=>?_;rw[ZA];obtain⟨⟨⟨Pm,Pn⟩,⟨Po,Pp⟩⟩,ZB,h⟩:=bS h;rw[Option.some.inj ZB];refine sr<|ag Y<|dn<|aW<|al (cs:=[az false,ax,az false,ax]) (by exact⟨au,aB,au,aB,aq⟩) Y<|so Y Y Y<|RT.done ?_;refine aV.n ⟨Y,?_⟩;dsimp only[AS.BC];refine bj<|qq<|bh mixed<|mv Y<|lV Y Y Y ?_;obtain⟨⟨⟨qg,qh⟩,⟨DR,DS⟩⟩,wh,h⟩:=bS h;refine cl (oT wh) ⟨Y,Y,aq⟩<|ld Y Y (.k4 Y Y Y Y)<|bE h λua DE h=>cl (qH DE) ⟨Y,Y,aq⟩ ?_;refine RT.done ⟨by kernel_rfl,?_⟩;refine aV.n<|bj<|sr<|lE h λkU rA h=>eq _ Y Y (xy (p:=ua) (q:=1) rA)<|ag Y<|dn ?_;cases kU;refine cF<|bp<|bw.n<|bw.n ?_;obtain rfl:=O (F h);obtain⟨ZC,aeu⟩:=JY _ Y;exact⟨ZC,Y,Y,wR []⟩;refine cT<|sr<|RT.nK (cells:=[_]) .none (s:=.sv _) Y Y Y T Y<|dn<|bP<|bw.y (by decide)<|bw.y (by decide) ?_;obtain rfl:=O (V h);have ZD:=JZ _ Y;subst ZD;refine⟨Y,Y,?_⟩;refine bw.x<|aV.n<|sr<|lV Y Y Y<|ag Y<|dn<|bf<|MD.r ?_;obtain rfl:=O l8;exact R1 Y;have ZE:=Zz hdn;subst ZE;obtain⟨aev,UP⟩:∃q,Zx ((Lr.rows ⟨bu,bt,bH,bT⟩).length)=q:=⟨_,Y⟩;rw[UP]at l8
 try dsimp only
 refine bw.n<|aV.n<|sr<|lV Y Y Y<|ag Y<|dn<|bf<|MD.r ?_;obtain rfl:=O l8;exact R1 Y;refine cT<|sr<|ag Y<|dn<|bf<|aV.r<|MD.r ?_;obtain rfl:=O (V h);exact R1 Y
theorem jM{x0:Lr}{x1:List Qr}{r:List Qr}(h:eR x0 x1=some r):Pure ah 21 [.agg (Dl x0),slc 4 (List.map eQ x1)] (slc 4 (List.map eQ r)):=by
 obtain⟨bu,bt,bH,bT⟩:=x0;refine aZ Tryz.func21 Y (af Y) (λdy M vs hvs=>?_);unfold eR at h;refine sr<|bx Y<|aI Y (aB (n:=4) (e:=eQ))<|dn<|sr<|fa Y Y<|lV Y Y Y<|mv Y<|bE h λx8 h8 h=>cl (AE h8) ⟨Y,Y,aq⟩<|ag Y<|dn<|bf ?_;obtain rfl:=O h;exact R1 Y
theorem D4{x0:Lr}{x1:List Qr}{r:List Qr}(h:mL x0 x1=some r):Pure ah 39 [.agg (Dl x0),slc 4 (List.map eQ x1)] (slc 4 (List.map eQ r)):=by
 obtain⟨bu,bt,bH,bT⟩:=x0;refine aZ Tryz.func39 Y (af Y) (λdy M vs hvs=>?_);unfold mL at h;refine sr<|bx Y<|RT.Bv .none (s:=.sv _) Y T Y Y<|aI Y (aB (n:=4) (e:=eQ))<|dn<|sr<|RT.alloc .none T Y Y<|dn<|bO (rm 5 0 302 36 4 Y Y Y T)<|qq<|sr<|ld Y Y (.k4 Y Y Y Y)<|cl (nF ⟨bu,bt,bH,bT⟩) ⟨Y,aq⟩<|dn<|bj<|bE h λwB hl5 ho5=>?_;obtain⟨st5,hs5,ht5,hn5⟩:=n5 hl5;refine lZ (nG ⟨bu,bt,bH,bT⟩) (λ_ _ _ _ _=>trivial) Y (λk=>AS.cu 21 [(3,.ptr 3 0),(5,.ptr 5 0),(9,.sv (oK 98 [ref [ay bu,slc 1 (List.map (eS 4 eQ) bt),slc 1 (List.map (eS 4 eQ) bH),slc 4 (List.map eQ bT)]]))] [(5,⟨24,[.row 304]⟩),(3,⟨24,[.sv (slc 4 (List.map eQ x1))]⟩)] [(304,TR 36 4 eQ (st5 k))]) [5,3] Y (λ_=>⟨Y,Y⟩) (sS Y) (λ_=>Y) (sV Y) (by(try dsimp only);rw[hs5];(try dsimp only);exact c8 (λi=>bif Nat.beq i 304 then 302 else i) Y Y Y Y Y ⟨.ptr,.ptr,.sv au,aq⟩ ⟨⟨_,Y,⟨.row Y,aq⟩⟩,⟨_,Y,⟨.sv au,aq⟩⟩,aq⟩ ⟨⟨_,Y,eW.refl _⟩,aq⟩ (λi hi=>by rw[cA (show i≠304 by omega)];rfl)) (λk hk D hD=>?_) ?_;have h:=ht5 k hk;obtain⟨wB,Rb⟩:∃q,st5 k=q:=⟨_,Y⟩;rw[Rb]at h⊢;dsimp only[AS.Mr,r6]
 try dsimp only at h
 refine lE h λQN RA h=>?_;rw[RA];obtain⟨⟨⟨D0,D1⟩,⟨D2,D3⟩⟩,Kl,h⟩:=bS h;rw[Option.some.inj Kl];refine sr<|ag Y<|dn<|aW<|al (cs:=[az false,ax,az false,ax]) (by exact⟨au,aB,au,aB,aq⟩) Y<|so Y Y Y<|RT.done ?_;refine aV.n ⟨Y,?_⟩;dsimp only[AS.BC];refine bj<|bh mixed<|RT.nr .none (s:=.row _) Y Y Y T<|ld Y Y (.k4 Y Y Y Y)<|mv Y<|lV Y Y Y ?_;obtain⟨⟨⟨jo,jq⟩,⟨xb,xd⟩⟩,iW,h⟩:=bS h;refine cl (oT iW) ⟨Y,Y,aq⟩ ?_;obtain⟨⟨⟨nB,nC⟩,⟨pG,pH⟩⟩,k8,h⟩:=bS h;refine cl (DX k8) ⟨Y,Y,aq⟩<|bl (l:=[⟨⟨nB,nC⟩,⟨pG,pH⟩⟩]) (e:=eQ) (.agg Y (.nil)) Y Y Y Y Y Y<|bE h λkq nc h=>aR (k:=[⟨⟨nB,nC⟩,⟨pG,pH⟩⟩]) (e:=eQ) Y Y Y nc<|RT.pR (cells:=[_]) .none Y Y Y Y T Y ?_;refine RT.done ⟨by kernel_rfl,?_⟩;refine bw.n ?_;replace h:=Option.some.inj h;refine⟨aq,Y,Y,?_⟩
 try dsimp only
 rw[<-h]
 try dsimp only
 exact c8 (λi=>bif Nat.beq i 304 then 19 else i) Y Y Y Y Y ⟨.ptr,.ptr,.sv au,aq⟩ ⟨⟨_,Y,⟨.row Y,aq⟩⟩,⟨_,Y,⟨.sv au,aq⟩⟩,aq⟩ ⟨⟨_,Y,eW.refl _⟩,aq⟩ (λi hi=>by rw[cA (show i≠304 by omega)];rfl);rw[hn5]
 try dsimp only
 refine bw.n<|aV.n<|sr<|RT.nr .none (s:=.row _) Y Y Y T<|an (s:=.row _) Y<|dn<|bO (cC (i:=304) (E1:=36) (n:=4) (e:=eQ) (l:=wB) Y)<|bf ?_;obtain rfl:=O ho5;exact R1 Y
set_option maxHeartbeats 4000000 in
theorem tN{x0:Lr}{r:Lr×Int}(h:iK x0=some r):Pure ah 16 [.agg (Dl x0)] (.z9 [.agg (Dl r.1),ay r.2]):=by
 obtain⟨bu,bt,bH,bT⟩:=x0;refine aZ Tryz.func16 Y (af Y) (λdy M vs hvs=>?_);unfold iK at h;refine sr<|bx Y<|al (cs:=[ay 0,slc 1 (List.map (eS 4 eQ) []),slc 1 (List.map (eS 4 eQ) []),slc 4 (List.map eQ [])]) (by exact⟨au,aB,aB,aB,aq⟩) Y<|ag Y<|dn<|qq<|qq ?_;refine bB h (λj6=>AS.cu 76 [(1,.ptr 1 0),(2,.ptr 2 0),(23,aj j6)] [(2,⟨26,[ai 0,.sv (slc 1 (List.map (eS 4 eQ) [])),.sv (slc 1 (List.map (eS 4 eQ) [])),.sv (slc 4 (List.map eQ []))]⟩),(1,⟨26,[ai bu,.sv (slc 1 (List.map (eS 4 eQ) bt)),.sv (slc 1 (List.map (eS 4 eQ) bH)),.sv (slc 4 (List.map eQ bT))]⟩)] []) (λh=>?_) (λKu h=>?_);refine aW<|ld Y Y (.k4 Y Y Y Y)<|bE h λfV l6 h=>cl (nH l6) ⟨Y,aq⟩<|lE h λdw fU h=>nt Y _ fU<|mv Y<|bE h λKz tH h=>?_;cases dw;refine RT.fieldAddr (.some Y Y) Y T Y<|RT.q9 (.some Y Y) Y Y Y T<|lE (F tH) λfo iW tH=>gn Y iW<|lE tH λfm k8 tH=>gg _ Y Y k8 ?_;obtain rfl:=O tH;refine pF Y<|mv Y<|bE h λZF tJ h=>?_;cases fm;refine RT.fieldAddr (.some Y Y) Y T Y<|RT.q9 (.some Y Y) Y Y Y T<|lE (F tJ) λiP n7 tJ=>gg _ Y Y n7 ?_;obtain rfl:=O tJ;exact pF Y<|dn<|⟨iP,h,wR []⟩;obtain rfl:=O (V tJ);exact ww<|ww<|ww<|pT Y<|dn<|⟨true,h,wR []⟩;obtain rfl:=O (V tH);refine ww<|ww<|ww<|ww<|pT Y<|mv Y<|bE h λZG xA h=>?_
 obtain rfl:=O (V xA);exact ww<|ww<|ww<|pT Y<|dn<|⟨true,h,wR []⟩
 try dsimp only
 refine aV.n ?_;cases Ku;refine fs<|sr<|fa Y Y<|lV Y Y Y<|lE (F h) λgy m9 h=>ln Y m9<|ag Y<|dn<|sr ?_;obtain⟨⟨⟨Pq,Pr⟩,⟨Ps,Pt⟩⟩,tC,h⟩:=bS h;refine cl (nE tC) ⟨Y,aq⟩<|al (cs:=[az false,ax,az false,ax]) (by exact⟨au,aB,au,aB,aq⟩) Y<|so Y Y Y<|dn<|sr<|mv Y<|ld Y Y (.k4 Y Y Y Y)<|fa Y Y<|lV Y Y Y<|bE h λmu vI h=>cl (Cf vI) ⟨Y,Y,aq⟩<|bl (l:=[mu]) (e:=(eS 4 eQ)) (.one Y (.nil)) Y Y Y Y Y Y ?_;refine bI (cs:=[_,_,_,_]) (cs':=[ay gy,slc 1 (List.map (eS 4 eQ) [mu]),.v (.slice none 0 0),.v (.slice none 0 0)]) (.one Y (.one Y (.nil))) ⟨au,au,au,au,aq⟩<|al (cs:=[ay 0,slc 1 (List.map (eS 4 eQ) []),.v (.slice none 0 0),.v (.slice none 0 0)]) (by exact⟨au,aB,au,au,aq⟩) Y<|so Y Y Y<|dn<|bO (rm 6 2 303 24 1 Y Y Y T)<|bO (rm 6 3 304 36 4 Y Y Y T) ?_;refine qq<|sr<|fa Y Y<|lV Y Y Y<|mv Y<|dn<|bE h λZp ZH ZI=>?_;refine bJ (λ(Io:(List (List Qr))×(List Qr))=>AS.cu 76 [(2,.ptr 2 0),(6,.ptr 6 0)] [(6,⟨26,[ai gy,.sv (slc 1 (List.map (eS 4 eQ) [mu])),.row 307,.row 308]⟩),(2,⟨26,[ai 0,.sv (slc 1 (List.map (eS 4 eQ) [])),.sv (slc 1 (List.map (eS 4 eQ) [])),.sv (slc 4 (List.map eQ []))]⟩)] [(307,TR 24 1 (eS 4 eQ) Io.1),(308,TR 36 4 eQ Io.2)]) (λIo=>Io=Zp) ?_ (λIo ZJ=>?_);refine bj ?_
 refine bK ZH (λRF=>AS.cu 76 [(1,.ptr 1 0),(2,.ptr 2 0),(4,ai gy),(6,.ptr 6 0),(37,ai bu),(38,ai RF.1)] [(6,⟨26,[ai gy,.sv (slc 1 (List.map (eS 4 eQ) [mu])),.row 307,.row 308]⟩),(2,⟨26,[ai 0,.sv (slc 1 (List.map (eS 4 eQ) [])),.sv (slc 1 (List.map (eS 4 eQ) [])),.sv (slc 4 (List.map eQ []))]⟩),(1,⟨26,[ai bu,.sv (slc 1 (List.map (eS 4 eQ) bt)),.sv (slc 1 (List.map (eS 4 eQ) bH)),.sv (slc 4 (List.map eQ bT))]⟩)] [(307,TR 24 1 (eS 4 eQ) RF.2.1),(308,TR 36 4 eQ RF.2.2)]) (c8 (λi=>bif Nat.beq i 307 then 303 else bif Nat.beq i 308 then 304 else i) Y Y Y Y Y ⟨.ptr,.ptr,.sv au,.ptr,.sv au,.sv au,aq⟩ ⟨⟨_,Y,⟨.sv au,.sv au,.row Y,.row Y,aq⟩⟩,⟨_,Y,⟨.sv au,.sv au,.sv au,.sv au,aq⟩⟩,⟨_,Y,⟨.sv au,.sv au,.sv au,.sv au,aq⟩⟩,aq⟩ ⟨⟨_,Y,eW.refl _⟩,⟨_,Y,eW.refl _⟩,aq⟩ (λi hi=>by rw[cA (show i≠307 by omega)];rw[cA (show i≠308 by omega)];rfl)) (λRF y26 G26 h ZK ZL=>?_);obtain⟨oU,rC,rD⟩:=RF
 try dsimp only
 refine sr<|lE h λpL DG h=>ls _ Y Y DG<|dn<|qq ?_;cases pL;refine cF<|bP<|aV.x<|aV.x<|bw.x<|aV.n ?_;obtain rfl:=O (F h);exact⟨(rC,rD),ZL _ Y,wR []⟩;refine cT<|bp<|aV.n<|qq<|bj<|sr<|mv Y<|ag Y<|dn<|sr<|mv Y<|bE (V h) λqa BZ h=>RT.r8 (n:=4) (e:=eQ) .none Y Y T Y T (by rfl) (by decide) (by exact⟨au,aB,au,aB,aq⟩) BZ<|an (s:=.row _) Y<|dn<|qq<|sr<|mo (s:=.row _) Y<|lE h λuE DF h=>lL Y Y DF<|mv Y<|dn<|bE h λe34 ZM zA=>?_;refine bJ (λ(oV:(List Qr))=>AS.cu 76 [(1,.ptr 1 0),(2,.ptr 2 0),(4,ai gy),(6,.ptr 6 0),(7,ai oU),(8,.row 42),(37,ai bu),(38,ai oU)] [(6,⟨26,[ai gy,.sv (slc 1 (List.map (eS 4 eQ) [mu])),.row 307,.row 308]⟩),(2,⟨26,[ai 0,.sv (slc 1 (List.map (eS 4 eQ) [])),.sv (slc 1 (List.map (eS 4 eQ) [])),.sv (slc 4 (List.map eQ []))]⟩),(1,⟨26,[ai bu,.sv (slc 1 (List.map (eS 4 eQ) bt)),.sv (slc 1 (List.map (eS 4 eQ) bH)),.sv (slc 4 (List.map eQ bT))]⟩)] [(42,TR 36 4 eQ oV),(307,TR 24 1 (eS 4 eQ) rC),(308,TR 36 4 eQ rD)]) (λoV=>oV=e34) ?_ (λoV ZN=>?_);refine bj ?_
 refine bK ZM (λTb=>AS.cu 76 [(1,.ptr 1 0),(2,.ptr 2 0),(4,ai gy),(6,.ptr 6 0),(7,ai oU),(8,.row 42),(37,ai bu),(38,ai oU),(44,ai uE),(45,ai Tb.1)] [(6,⟨26,[ai gy,.sv (slc 1 (List.map (eS 4 eQ) [mu])),.row 307,.row 308]⟩),(2,⟨26,[ai 0,.sv (slc 1 (List.map (eS 4 eQ) [])),.sv (slc 1 (List.map (eS 4 eQ) [])),.sv (slc 4 (List.map eQ []))]⟩),(1,⟨26,[ai bu,.sv (slc 1 (List.map (eS 4 eQ) bt)),.sv (slc 1 (List.map (eS 4 eQ) bH)),.sv (slc 4 (List.map eQ bT))]⟩)] [(42,TR 36 4 eQ Tb.2),(307,TR 24 1 (eS 4 eQ) rC),(308,TR 36 4 eQ rD)]) (wR []) (λTb y34 G34 h ZO ZP=>?_);obtain⟨zx,zy⟩:=Tb
 try dsimp only
 refine sr<|lE h λqc h46 h=>ls _ Y Y h46<|dn<|qq ?_;cases qc;refine cF<|bP<|aV.x<|aV.x<|bw.x<|aV.n ?_;obtain rfl:=O (F h);exact⟨zy,ZP _ Y,wR []⟩;refine cT<|bp<|aV.n<|qq<|bj<|sr<|mv Y<|ag Y<|dn<|aW<|mo (s:=.row _) Y<|mv Y<|fa Y Y<|lV Y Y Y<|mv Y<|mv Y ?_;obtain⟨⟨⟨Pu,Pv⟩,⟨Pw,Px⟩⟩,EV,h⟩:=bS (V h);refine cl (Bd EV) ⟨Y,Y,Y,aq⟩ ?_;obtain⟨⟨⟨Kv,Kw⟩,⟨Kx,Ky⟩⟩,Uq,h⟩:=bS h;refine cl (w9 Uq) ⟨Y,aq⟩<|bE h λOq Rd h=>iR Y Y Y Rd<|bE h λZn UQ h=>sA ⟨⟨Kv,Kw⟩,⟨Kx,Ky⟩⟩ Y Y Y UQ<|RT.done<|bw.n<|aV.n<|aW<|lE h λMJ Un h=>ad _ Y Y Un<|mv Y<|RT.done ?_;obtain rfl:=O h;exact aV.n ⟨(MJ,Zn),ZO _ Y,wR []⟩;subst ZN
 try dsimp only
 refine aV.n<|qq<|bO (cC (i:=42) (E1:=36) (n:=4) (e:=eQ) (l:=oV) Y)<|aW<|fa Y Y<|RT.nr .none (s:=.row _) Y Y Y T<|mv Y<|bl (l:=[oV]) (e:=(eS 4 eQ)) (.one Y (.nil)) Y Y Y Y Y Y<|bE zA λZo Uv zA=>aR (k:=[oV]) (e:=(eS 4 eQ)) Y Y Y Uv<|fa Y Y<|RT.pR (cells:=[_,_,_,_]) .none Y Y Y Y T Y<|dn<|bh mixed<|fa Y Y<|RT.nr .none (s:=.row _) Y Y Y T ?_;refine fa Y Y<|lV Y Y Y<|mv Y ?_;obtain⟨⟨⟨Py,Pz⟩,⟨PA,PB⟩⟩,Ut,zA⟩:=bS zA;refine cl (Bd Ut) ⟨Y,Y,Y,aq⟩ ?_;obtain⟨⟨⟨GW,GX⟩,⟨GY,GZ⟩⟩,Yf,zA⟩:=bS zA;refine cl (w9 Yf) ⟨Y,aq⟩<|bl (l:=[⟨⟨GW,GX⟩,⟨GY,GZ⟩⟩]) (e:=eQ) (.agg Y (.nil)) Y Y Y Y Y Y<|bE zA λGQ Ri zA=>aR (k:=[⟨⟨GW,GX⟩,⟨GY,GZ⟩⟩]) (e:=eQ) Y Y Y Ri<|fa Y Y<|RT.pR (cells:=[_,_,_,_]) .none Y Y Y Y T Y ?_;refine RT.done ⟨by kernel_rfl,?_⟩;refine bw.n<|aV.n<|aW<|lE zA λMN Uw zA=>ad _ Y Y Uw<|mv Y<|RT.done ?_;obtain rfl:=O zA;exact aV.n ⟨(MN,Zo,GQ),ZK _ Y,c8 (λi=>bif Nat.beq i 307 then 62 else bif Nat.beq i 308 then 72 else i) Y Y Y Y Y ⟨.ptr,.ptr,.sv au,.ptr,.sv au,.sv au,aq⟩ ⟨⟨_,Y,⟨.sv au,.sv au,.row Y,.row Y,aq⟩⟩,⟨_,Y,⟨.sv au,.sv au,.sv au,.sv au,aq⟩⟩,⟨_,Y,⟨.sv au,.sv au,.sv au,.sv au,aq⟩⟩,aq⟩ ⟨⟨_,Y,eW.refl _⟩,⟨_,Y,eW.refl _⟩,aq⟩ (λi hi=>by rw[cA (show i≠307 by omega)];rw[cA (show i≠308 by omega)];rfl)⟩
 subst ZJ;obtain⟨Cg,Ch⟩:=Io
 try dsimp only
 refine aV.n<|qq<|bO (cC (i:=307) (E1:=24) (n:=1) (e:=(eS 4 eQ)) (l:=Cg) Y)<|bO (cC (i:=308) (E1:=36) (n:=4) (e:=eQ) (l:=Ch) Y)<|aW<|ld Y Y (.k4 Y Y Y Y)<|so Y Y Y<|ag Y<|dn<|bf ?_;obtain rfl:=O ZI;exact RZ (.agg Y Y (.k4 Y Y Y Y) Y (.tmp Y (.nil)));refine cT<|sr<|bI (cs:=[_,_,_,_]) (cs':=[ay 0,slc 1 (List.map (eS 4 eQ) []),slc 1 (List.map (eS 4 eQ) []),slc 4 (List.map eQ [])]) (.nil) ⟨au,aB,aB,aB,aq⟩<|so Y Y Y<|ag Y<|dn<|bf<|aV.r ?_;obtain rfl:=O (V h);exact RZ (.agg Y Y (.k4 Y Y Y Y) Y (.tmp Y (.nil)))
theorem D5{x0:Lr}{x1:Lr}{r:Bool}(h:mM x0 x1=some r):Pure ah 14 [.agg (Dl x0),.agg (Dl x1)] (az r):=by
 obtain⟨bu,bt,bH,bT⟩:=x0;obtain⟨cc,bX,gJ,gK⟩:=x1;refine aZ Tryz.func14 Y (af Y) (λdy M vs hvs=>?_);unfold mM at h;refine sr<|bx Y<|bx Y<|ag Y<|dn<|qq<|qq<|bh mixed<|ld Y Y (.k4 Y Y Y Y) ?_;obtain⟨⟨xG,xH,UJ,UL⟩,h6,h⟩:=bS h;refine cl (nQ h6) ⟨Y,aq⟩<|ld Y Y (.k4 Y Y Y Y) ?_;obtain⟨⟨qC,qD,UM,UN⟩,h8,h⟩:=bS h;refine cl (nQ h8) ⟨Y,aq⟩<|lE h λx9 h9 h=>RT.RB .none Y Y T h9 ?_;refine RT.done ⟨by kernel_rfl,?_⟩;refine aV.n ?_;cases x9;refine fs<|qq ?_;refine bB (F h) (λj6=>AS.cu 29 [(4,aj j6)] [] []) (λh=>?_) (λUO h=>?_);refine aW<|fa Y Y<|lV Y Y Y<|fa Y Y<|lV Y Y Y<|bE h λeK jC h=>cl (uT jC) ⟨Y,Y,aq⟩<|mv Y<|bE h λPC Wc h=>?_;cases eK;obtain rfl:=O (F Wc);refine ww<|ww<|ww<|ww<|ww<|pF Y<|mv Y<|bE h λac7 hg9 h=>?_;obtain rfl:=O (F hg9);exact ww<|ww<|ww<|ww<|ww<|pF Y<|ag Y<|dn<|⟨false,h,wR []⟩;refine RT.fieldAddr (.some Y Y) Y T Y<|RT.q9 (.some Y Y) Y Y Y T<|RT.fieldAddr (.some Y Y) Y T Y<|RT.q9 (.some Y Y) Y Y Y T<|bE (V Wc) λja oR Wc=>gc (uT oR) ⟨Y,Y,aq⟩ ?_;obtain rfl:=O Wc;refine pT Y<|mv Y<|bE h λac8 MR h=>?_;cases ja;obtain rfl:=O (F MR);exact ww<|ww<|ww<|ww<|ww<|pF Y<|ag Y<|dn<|⟨false,h,wR []⟩
 refine RT.fieldAddr (.some Y Y) Y T Y<|RT.q9 (.some Y Y) Y Y Y T<|RT.fieldAddr (.some Y Y) Y T Y<|RT.q9 (.some Y Y) Y Y Y T<|bE (V MR) λgy m9 MR=>gc (jL m9) ⟨Y,Y,aq⟩ ?_;obtain rfl:=O MR;exact pT Y<|ag Y<|dn<|⟨gy,h,wR []⟩
 try dsimp only
 refine aV.n<|bf ?_;obtain rfl:=O h;exact R1 Y;refine cT<|sr<|ag Y<|dn<|bf<|aV.r ?_;obtain rfl:=O (V h);exact R1 Y
end
section
open Go.Fw
noncomputable def cL(x0:List Int):Option (List Int):=(some (x0.length:Int)).bind λx5=>(cf (λ(uU:Int)=>(show Option ((Int)⊕(Int))from cj (λ(FK:Bool)=>(bif FK then(some (IntKind.i64.wrap (uU-1))).bind λfm=>some (.inl fm)else some (.inr uU))) λJB=>(some (decide ((0:Int)<uU))).bind λx7=>(bif x7 then(some (IntKind.i64.wrap (uU-1))).bind λfV=>(cX x0 fV).bind λdw=>(some (decide ((dw:Int)=0))).bind λeK=>some eK else some false).bind λKA=>JB KA)) x5).bind λFL=>(xx x0 0 FL).bind λja=>some ja
noncomputable def b7(x0:List Nat):Option (List Int):=(cf (λ(s6:Int×(List Int))=>match s6 with|⟨tO,oW⟩=>(show Option ((Int×(List Int))⊕((List Int)))from(some (x0.length:Int)).bind λx7=>(some (decide ((tO:Int)<x7))).bind λx8=>(bif x8 then(cX x0 tO).bind λeK=>(some (eK%65536)).bind λfo=>(some (IntKind.i64.wrap (fo:Int))).bind λfm=>(cX x0 tO).bind λja=>(some (ja/65536%4294967296)).bind λiP=>(some (IntKind.i64.wrap (iP:Int))).bind λiI=>(sW 8 oW [fm,iI]).bind λm6=>(some (IntKind.i64.wrap (tO+1))).bind λec=>some (.inl (ec,m6))else some (.inr oW)))) (0,[])).bind λgP=>(cL gP).bind λgy=>some gy
noncomputable def di(x0:List Int)(x1:Int):Option (Int):=(some (x0.length:Int)).bind λx7=>(some (decide ((x1:Int)<x7))).bind λx8=>(bif x8 then(cX x0 x1).bind λfV=>some fV else some 0)
noncomputable def dj(x0:Bool)(x1:List Int):Option (Zr):=(cL x1).bind λx8=>(cf (λ(s6:Int×(List Nat))=>match s6 with|⟨pN,oW⟩=>(show Option ((Int×(List Nat))⊕((List Nat)))from(some (x8.length:Int)).bind λfV=>(some (decide ((pN:Int)<fV))).bind λdw=>(bif dw then(di x8 pN).bind λfg=>(some ((fg%4294967296).toNat)).bind λkq=>(some (IntKind.i64.wrap (pN+1))).bind λiP=>(di x8 iP).bind λiI=>(some ((iI%4294967296).toNat)).bind λic=>(some ((ic*65536)%4294967296)).bind λm6=>(some ((kq+m6)%4294967296)).bind λkV=>(sW 4 oW [kV]).bind λkW=>(some (IntKind.i64.wrap (pN+2))).bind λeK=>some (.inl (eK,kW))else some (.inr oW)))) (0,[])).bind λgP=>cj (λ(KB:Bool)=>some ⟨KB,gP⟩) λK9=>(bif x0 then(some (gP.length:Int)).bind λiQ=>(some (decide ((0:Int)<iQ))).bind λmu=>some mu else some false).bind λKC=>K9 KC
noncomputable def fN(x0:Zr):Option (Zr):=match x0 with|⟨bu,bt⟩=>(b7 bt).bind λx7=>(dj bu x7).bind λ⟨qC,qD⟩=>some ⟨qC,qD⟩
noncomputable def fK(x0:Int):Option (Zr):=(some ((x0%18446744073709551616).toNat)).bind λx5=>(some (decide ((x0:Int)<0))).bind λx7=>cj (λ(Dx:Nat)=>(some (decide ((x0:Int)<0))).bind λfV=>(some (Dx%4294967296)).bind λjB=>(some (jB%4294967296)).bind λeK=>(some (Dx/4294967296%18446744073709551616)).bind λfo=>(some (fo%4294967296)).bind λfm=>(fN ⟨fV,[eK,fm]⟩).bind λ⟨DJ,DK⟩=>some ⟨DJ,DK⟩) λK2=>(bif x7 then(some (mE 18446744073709551616 0 x5)).bind λx9=>K2 x9 else K2 x5)
noncomputable def iD(x0:List Int)(x1:List Int):Option (Int):=(some (x0.length:Int)).bind λx7=>(some (x1.length:Int)).bind λx9=>(some (max (x7:Int) x9)).bind λec=>(some (IntKind.i64.wrap (ec-1))).bind λfV=>(cf (λ(lO:Int)=>(show Option ((Int)⊕((Unit)⊕(Int)))from(some (decide ((0:Int)<=lO))).bind λjB=>(bif jB then(di x0 lO).bind λfg=>(di x1 lO).bind λgG=>(some (decide ((fg:Int)<gG))).bind λiP=>(bif iP then some (.inr (.inr (-1)))else(di x0 lO).bind λm6=>(di x1 lO).bind λkW=>(some (decide ((kW:Int)<m6))).bind λij=>(bif ij then some (.inr (.inr 1))else(some (IntKind.i64.wrap (lO-1))).bind λdS=>some (.inl dS)))else some (.inr (.inl ()))))) fV).bind λe6=>match e6 with|.inr v6=>some v6|.inl _=>some 0
noncomputable def ju(x0:List Int)(x1:List Int):Option (List Int):=(cf (λ(KD:Int×Int×(List Int))=>match KD with|⟨MW,FM,zB⟩=>(show Option ((Int×Int×(List Int))⊕((List Int)))from cj (λ(FN:Bool)=>(bif FN then(di x0 FM).bind λgy=>(di x1 FM).bind λvX=>(some (IntKind.i64.wrap (gy+vX))).bind λpA=>(some (IntKind.i64.wrap (pA+MW))).bind λmu=>(some (Int.tmod mu 65536)).bind λud=>(sW 8 zB [ud]).bind λua=>(some (IntKind.i64.wrap (Int.tdiv mu 65536))).bind λkU=>(some (IntKind.i64.wrap (FM+1))).bind λic=>some (.inl (kU,ic,ua))else some (.inr zB))) λUR=>(some (x0.length:Int)).bind λfV=>(some (decide ((FM:Int)<fV))).bind λdw=>(bif dw then some true else(some (x1.length:Int)).bind λfo=>(some (decide ((FM:Int)<fo))).bind λfm=>some fm).bind λFJ=>(bif FJ then some true else(some (decide ((0:Int)<MW))).bind λgG=>some gG).bind λRI=>UR RI)) (0,0,[])).bind λoX=>(cL oX).bind λqa=>some qa
noncomputable def gA(x0:List Int)(x1:List Int):Option (List Int):=(cf (λ(s8:Int×Int×(List Int))=>match s8 with|⟨uB,Ip,nN⟩=>(show Option ((Int×Int×(List Int))⊕((List Int)))from(some (x0.length:Int)).bind λfV=>(some (decide ((Ip:Int)<fV))).bind λdw=>(bif dw then(di x0 Ip).bind λfm=>(di x1 Ip).bind λja=>(some (IntKind.i64.wrap (fm-ja))).bind λgG=>(some (IntKind.i64.wrap (gG-uB))).bind λiI=>(some (decide ((iI:Int)<0))).bind λm6=>cj (λ(PD:Int×Int)=>match PD with|⟨RJ,MX⟩=>(sW 8 nN [MX]).bind λpA=>(some (IntKind.i64.wrap (Ip+1))).bind λeK=>some (.inl (RJ,eK,pA))) λWb=>(bif m6 then(some (IntKind.i64.wrap (iI+65536))).bind λgy=>Wb (1,gy)else Wb (0,iI))else some (.inr nN)))) (0,0,[])).bind λnO=>(cL nO).bind λmu=>some mu
noncomputable def eT(x0:List Int):Option (Int):=(some (x0.length:Int)).bind λx6=>(some (IntKind.i64.wrap (x6-1))).bind λx7=>(cf (λ(s6:Int×Int)=>match s6 with|⟨lj,tO⟩=>(show Option ((Int×Int)⊕(Int))from(some (decide ((0:Int)<=tO))).bind λx9=>(bif x9 then(some (IntKind.i64.wrap (lj*65536))).bind λjB=>(cX x0 tO).bind λfo=>(some (IntKind.i64.wrap (jB+fo))).bind λfg=>(some (IntKind.i64.wrap (tO-1))).bind λfV=>some (.inl (fg,fV))else some (.inr lj)))) (0,x7)).bind λog=>some og
noncomputable def iL(x0:Int):Option (List Int):=(some (Int.tmod x0 65536)).bind λx4=>(some (IntKind.i64.wrap (Int.tdiv x0 65536))).bind λx6=>(some (Int.tmod x6 65536)).bind λx7=>(some (IntKind.i64.wrap (Int.tdiv x0 65536))).bind λx9=>(some (IntKind.i64.wrap (Int.tdiv x9 65536))).bind λec=>(cL [x4,x7,ec]).bind λdw=>some dw
noncomputable def eU(x0:List Int)(x1:Int):Option (List Int):=(cf (λ(A5:Int×Int×(List Int))=>match A5 with|⟨MY,KE,zC⟩=>(show Option ((Int×Int×(List Int))⊕((List Int)))from cj (λ(FO:Bool)=>(bif FO then(di x0 KE).bind λgG=>(some (IntKind.i64.wrap (gG*x1))).bind λiI=>(some (IntKind.i64.wrap (iI+MY))).bind λm6=>(some (Int.tmod m6 65536)).bind λkW=>(sW 8 zC [kW]).bind λvX=>(some (IntKind.i64.wrap (Int.tdiv m6 65536))).bind λiQ=>(some (IntKind.i64.wrap (KE+1))).bind λfg=>some (.inl (iQ,fg,vX))else some (.inr zC))) λJB=>(some (x0.length:Int)).bind λfV=>(some (decide ((KE:Int)<fV))).bind λdw=>(bif dw then some true else(some (decide ((0:Int)<MY))).bind λdS=>some dS).bind λKF=>JB KF)) (0,0,[])).bind λtQ=>(cL tQ).bind λm7=>some m7
noncomputable def jv(x0:List Int)(x1:List Int):Option ((List Int)×(List Int)):=cj (λ(KG:Bool)=>(bif KG then(eT x0).bind λiI=>(eT x1).bind λm6=>(pK iI m6).bind λkV=>(iL kV).bind λgy=>(eT x0).bind λij=>(eT x1).bind λpA=>(Aj ij pA).bind λiQ=>(iL iQ).bind λmu=>some (gy,mu)else(some (x0.length:Int)).bind λvG=>(C0 8 vG (0:Int)).bind λud=>(some (x1.length:Int)).bind λua=>(some (decide ((ua:Int)=1))).bind λpL=>(bif pL then(some (x0.length:Int)).bind λxP=>(some (IntKind.i64.wrap (xP-1))).bind λqa=>(cf (λ(RK:Int×Int×(List Int))=>match RK with|⟨G0,D6,zD⟩=>(show Option ((Int×Int×(List Int))⊕(Int×(List Int)))from(some (decide ((0:Int)<=D6))).bind λuE=>(bif uE then(some (IntKind.i64.wrap (G0*65536))).bind λxQ=>(cX x0 D6).bind λOo=>(some (IntKind.i64.wrap (xQ+Oo))).bind λRL=>(cX x1 0).bind λMM=>(pK RL MM).bind λHZ=>(cX x1 0).bind λOt=>(Aj RL Ot).bind λQX=>(r7 zD D6).bind λOu=>(stM zD Ou HZ).bind λZQ=>(some (IntKind.i64.wrap (D6-1))).bind λqc=>some (.inl (QX,qc,ZQ))else some (.inr (G0,zD))))) (0,qa,ud)).bind λZR=>match ZR with|⟨KH,FP⟩=>(cL FP).bind λL0=>(cL [KH]).bind λUS=>some (L0,US)else(some (x0.length:Int)).bind λTc=>(some (IntKind.i64.wrap (Tc-1))).bind λMN=>(cf (λ(RM:(List Int)×Int×(List Int))=>match RM with|⟨D7,oY,oZ⟩=>(show Option (((List Int)×Int×(List Int))⊕((List Int)×(List Int)))from(some (decide ((0:Int)<=oY))).bind λZS=>(bif ZS then(cX x0 oY).bind λZT=>(sW 8 [ZT] D7).bind λT4=>(cL T4).bind λEU=>(some (EU.length:Int)).bind λTd=>(some (x1.length:Int)).bind λT5=>(some (decide ((Td:Int)<T5))).bind λQ1=>cj (λ(KI:Int)=>(cf (λ(PE:Int×Int)=>match PE with|⟨jN,mN⟩=>(show Option ((Int×Int)⊕(Int))from(some (IntKind.i64.wrap (mN-jN))).bind λx94=>(some (decide ((1:Int)<x94))).bind λZU=>(bif ZU then(some (IntKind.i64.wrap (jN+mN))).bind λx98=>(some (IntKind.i64.wrap (Int.tdiv x98 2))).bind λTe=>(eU x1 Te).bind λAq=>(iD Aq EU).bind λFq=>(some (decide ((Fq:Int)<=0))).bind λAr=>cj (λ(Tf:Int×Int)=>match Tf with|⟨FR,FU⟩=>some (.inl (FR,FU))) λK56=>(bif Ar then K56 (Te,mN)else K56 (jN,Te))else some (.inr jN)))) (0,KI)).bind λqL=>(eU x1 qL).bind λFs=>(gA EU Fs).bind λKJ=>(r7 oZ oY).bind λMZ=>(stM oZ MZ qL).bind λUT=>(some (IntKind.i64.wrap (oY-1))).bind λTg=>some (.inl (KJ,Tg,UT))) λK46=>(bif Q1 then K46 1 else K46 65536)else some (.inr (D7,oZ))))) ([],MN,ud)).bind λZV=>match ZV with|⟨PF,FV⟩=>(cL FV).bind λUU=>some (UU,PF)))) λK3=>(some (x0.length:Int)).bind λdS=>(some (decide ((dS:Int)<=3))).bind λfo=>(bif fo then(some (x1.length:Int)).bind λkq=>(some (decide ((kq:Int)<=3))).bind λja=>some ja else some false).bind λKK=>K3 KK
noncomputable def dH(x0:Zr):Option (Int):=match x0 with|⟨bu,bt⟩=>(b7 bt).bind λx5=>(some (x5.length:Int)).bind λx6=>(some (decide ((x6:Int)=0))).bind λx7=>(bif x7 then some 0 else(bif bu then some (-1)else some 1))
noncomputable def lu(x0:Zr)(x1:Zr):Option (Int):=match x0 with|⟨bu,bt⟩=>match x1 with|⟨cc,bX⟩=>(dH ⟨bu,bt⟩).bind λx7=>(dH ⟨cc,bX⟩).bind λx9=>(some (decide ((x7:Int)≠x9))).bind λec=>(bif ec then(dH ⟨bu,bt⟩).bind λdw=>(dH ⟨cc,bX⟩).bind λeK=>(some (decide ((dw:Int)<eK))).bind λdS=>(bif dS then some (-1)else some 1)else(b7 bt).bind λfg=>(b7 bX).bind λgG=>(iD fg gG).bind λiP=>(dH ⟨bu,bt⟩).bind λic=>(some (decide ((ic:Int)<0))).bind λm6=>(bif m6 then(some (IntKind.i64.wrap (0-iP))).bind λgy=>some gy else some iP))
noncomputable def lz(x0:Zr):Option (Zr):=match x0 with|⟨bu,bt⟩=>(some (!bu)).bind λx5=>(b7 bt).bind λx8=>(dj x5 x8).bind λ⟨KL,KM⟩=>some ⟨KL,KM⟩
noncomputable def lB(x0:Zr):Option (Zr):=match x0 with|⟨bu,bt⟩=>(b7 bt).bind λx5=>(dj false x5).bind λ⟨xG,xH⟩=>some ⟨xG,xH⟩
noncomputable def jw(x0:Zr)(x1:Zr):Option (Zr×Zr×Int):=match x0 with|⟨bu,bt⟩=>match x1 with|⟨cc,bX⟩=>(b7 bt).bind λjB=>(b7 bX).bind λfo=>(some (fo.length:Int)).bind λfg=>(some (decide ((fg:Int)=0))).bind λkq=>(bif kq then some (⟨false,[]⟩,⟨false,[]⟩,7)else(jv jB fo).bind λ⟨yO,BT⟩=>cj (λ(j3:Bool×Bool)=>match j3 with|⟨KN,tB⟩=>cj (λ(j5:(List Int)×(List Int))=>match j5 with|⟨JN,DB⟩=>(some (!(tB==cc))).bind λES=>(dj ES JN).bind λ⟨Dy,Dz⟩=>(dj false DB).bind λ⟨DC,DD⟩=>some (⟨Dy,Dz⟩,⟨DC,DD⟩,0)) λK5=>(bif KN then(ju yO [1]).bind λxz=>(gA fo BT).bind λkU=>K5 (xz,kU)else K5 (yO,BT))) λK3=>(bif bu then(some (BT.length:Int)).bind λiQ=>(some (decide ((0:Int)<iQ))).bind λmu=>some mu else some false).bind λPG=>K3 (PG,bu))
noncomputable def lC(x0:Zr)(x1:Zr):Option (Zr):=match x0 with|⟨bu,bt⟩=>match x1 with|⟨cc,bX⟩=>(b7 bt).bind λfV=>(b7 bX).bind λeK=>(cf (λ(s6:(List Int)×(List Int))=>match s6 with|⟨lO,pN⟩=>(show Option (((List Int)×(List Int))⊕((List Int)))from(some (pN.length:Int)).bind λfo=>(some (decide ((0:Int)<fo))).bind λfm=>(bif fm then(jv lO pN).bind λ⟨ZW,RN⟩=>some (.inl (pN,RN))else some (.inr lO)))) (fV,eK)).bind λrW=>(dj false rW).bind λ⟨uI,sn⟩=>some ⟨uI,sn⟩
end
section
open Go.Fw Go.Fw.Z Go.RowKit
theorem dz{x0:List Int}{r:List Int}(h:cL x0=some r):Pure ah 144 [slc 1 (List.map bG x0)] (slc 1 (List.map bG r)):=by
 refine aZ Tryz.func144 Y (af Y) (λdy M vs hvs=>?_);unfold cL at h;refine sr<|aI Y (aB (n:=1) (e:=bG))<|dn<|sr<|mv Y<|lE h λx5 h5 h=>ln Y h5<|ag Y<|dn<|qq<|bE h λJS BV rR=>?_;refine bJ (λ(FL:Int)=>AS.cu 21 [(0,.sv (slc 1 (List.map bG x0))),(3,ai FL)] [] []) (λFL=>FL=JS) ?_ (λFL BW=>?_);refine bj ?_;refine bK BV (λA5=>AS.cu 21 [(0,.sv (slc 1 (List.map bG x0))),(3,ai A5)] [] []) (wR []) (λuU V4 V5 h BX yP=>?_)
 try dsimp only
 refine qq<|qq ?_;refine bB h (λJU=>AS.cu 21 [(0,.sv (slc 1 (List.map bG x0))),(3,ai uU),(15,aj JU)] [] []) (λh=>?_) (λFK h=>?_);refine aW<|mv Y<|lE h λx7 h7 h=>gt _ Y Y h7<|mv Y<|bE h λKA eH h=>?_;cases x7;obtain rfl:=O (F eH);exact ww<|ww<|ww<|ww<|ww<|ww<|pF Y<|dn<|⟨false,h,wR []⟩;refine gm Y<|gm Y<|lE (V eH) λfV l6 eH=>RT.sub (.some Y Y) _ Y Y T l6<|bE eH λdw fU eH=>RT.Om (.some Y Y) Y Y T fU<|gr Y Y<|lE eH λeK jC eH=>S0 _ Y Y (xy (p:=dw) (q:=0) jC) ?_;obtain rfl:=O eH;exact pT Y<|dn<|⟨eK,h,wR []⟩
 try dsimp only
 refine aV.n ?_;cases FK;refine cF<|bP<|aV.x<|aV.x<|bw.x<|aV.n ?_;obtain rfl:=O (F h);exact⟨uU,yP _ Y,wR []⟩;refine cT<|bp<|aV.n<|bj<|aW<|mv Y<|lE (V h) λfm k8 h=>sb _ Y Y k8<|ag Y<|RT.done<|bw.n ?_;obtain rfl:=O h;exact aV.n ⟨fm,BX _ Y,wR []⟩;subst BW
 try dsimp only
 refine aV.n<|sr<|mv Y<|mv Y<|bE rR λja oR rR=>RT.vT .none 0 FL Y Y ⟨_,Y⟩ T oR<|ag Y<|dn<|bf ?_;obtain rfl:=O rR;exact R1 Y
theorem cW{x0:List Nat}{r:List Int}(h:b7 x0=some r):Pure ah 119 [slc 1 (List.map aY x0)] (slc 1 (List.map bG r)):=by
 refine aZ Tryz.func119 Y (af Y) (λdy M vs hvs=>?_);unfold b7 at h;refine sr<|aI Y (aB (n:=1) (e:=bG))<|dn<|sr<|ag Y<|dn<|bO (gj 3 304 3 1 Y Y T)<|qq<|sr<|ag Y<|dn<|bE h λe6 Au jt=>?_;refine bJ (λ(gP:(List Int))=>AS.cu 28 [(3,.row 306)] [] [(306,TR 3 1 bG gP)]) (λgP=>gP=e6) ?_ (λgP Av=>?_);refine bj ?_;refine bK Au (λs6=>AS.cu 28 [(0,.sv (slc 1 (List.map aY x0))),(3,.row 306),(4,ai s6.1)] [] [(306,TR 3 1 bG s6.2)]) (c8 (λi=>bif Nat.beq i 306 then 304 else i) Y Y Y Y Y ⟨.sv au,.row Y,.sv au,aq⟩ trivial ⟨⟨_,Y,eW.refl _⟩,aq⟩ (λi hi=>by rw[cA (show i≠306 by omega)];rfl)) (λs6 y6 G6 h Aw v8=>?_);obtain⟨tO,oW⟩:=s6
 try dsimp only
 refine qq<|sr<|mv Y<|mv Y<|lE h λx7 h7 h=>ln Y h7<|lE h λx8 h8 h=>ls _ Y Y h8<|dn ?_;cases x8;refine cF<|bP<|aV.x<|aV.x<|bw.x<|aV.n ?_;obtain rfl:=O (F h);exact⟨oW,v8 _ Y,wR []⟩;refine cT<|bp<|aV.n<|qq<|bj<|bh mixed<|mo (s:=.row _) Y<|mv Y<|mv Y<|bE (V h) λeK jC h=>ix Y Y jC<|lr Y Y<|lE h λfo iW h=>RT.rem .none _ Y Y T (by decide) (Ol (a:=eK) (b:=65536) iW)<|lE h λfm k8 h=>cv _ Y k8<|mv Y<|mv Y<|bE h λja oR h=>ix Y Y oR<|lr Y Y<|lE h λiP n7 h=>RT.quo .none _ Y Y T (by decide) (UK.TJ (a:=ja) (b:=65536) n7) ?_;refine lE h λiI pM h=>cv _ Y pM<|bl (l:=[fm,iI]) (e:=bG) (.one Y (.one Y (.nil))) Y Y Y Y Y Y<|bE h λm6 oS h=>aR (k:=[fm,iI]) (e:=bG) Y Y Y oS<|an (s:=.row _) Y ?_;refine RT.done ⟨by kernel_rfl,?_⟩;refine bw.n<|aV.n<|aW<|mv Y<|lE h λec gD h=>ad _ Y Y gD<|ag Y<|RT.done ?_;obtain rfl:=O h;exact aV.n ⟨(ec,m6),Aw _ Y,c8 (λi=>bif Nat.beq i 306 then 25 else i) Y Y Y Y Y ⟨.sv au,.row Y,.sv au,aq⟩ trivial ⟨⟨_,Y,eW.refl _⟩,aq⟩ (λi hi=>by rw[cA (show i≠306 by omega)];rfl)⟩;subst Av
 try dsimp only
 refine aV.n<|qq<|bO (cC (i:=306) (E1:=3) (n:=1) (e:=bG) (l:=gP) Y)<|aW<|mv Y<|bE jt λgy m9 jt=>cl (dz m9) ⟨Y,aq⟩<|ag Y<|dn<|bf ?_;obtain rfl:=O jt;exact R1 Y
theorem ep{x0:List Int}{x1:Int}{r:Int}(h:di x0 x1=some r):Pure ah 145 [slc 1 (List.map bG x0),ay x1] (ay r):=by
 refine aZ Tryz.func145 Y (af Y) (λdy M vs hvs=>?_);unfold di at h;refine sr<|ag Y<|dn<|qq<|sr<|mv Y<|mv Y<|lE h λx7 h7 h=>ln Y h7<|lE h λx8 h8 h=>ls _ Y Y h8<|dn ?_;cases x8;refine fs<|sr<|ag Y<|dn<|bf ?_;obtain rfl:=O (F h);exact R1 Y;refine cT<|sr<|mv Y<|mv Y<|bE (V h) λfV l6 h=>ix Y Y l6<|lr Y Y<|ag Y<|dn<|bf<|aV.r ?_;obtain rfl:=O h;exact R1 Y
theorem jx{x0:Bool}{x1:List Int}{r:Zr}(h:dj x0 x1=some r):Pure ah 118 [az x0,slc 1 (List.map bG x1)] (.agg (eZ r)):=by
 refine aZ Tryz.func118 Y (af Y) (λdy M vs hvs=>?_);unfold dj at h;refine sr<|al (cs:=[az false,ax]) (by exact⟨au,aB,aq⟩) Y<|dn<|sr<|mv Y<|bE h λx8 h8 h=>cl (dz h8) ⟨Y,aq⟩<|ag Y<|dn<|sr<|ag Y<|dn<|bO (gj 5 304 106 1 Y Y T)<|qq<|sr<|ag Y<|dn<|bE h λe6 Au jt=>?_;refine bJ (λ(gP:(List Nat))=>AS.cu 37 [(0,aj x0),(4,.ptr 4 0),(5,.row 306)] [(4,⟨34,[aj false,.sv ax]⟩)] [(306,TR 106 1 aY gP)]) (λgP=>gP=e6) ?_ (λgP Av=>?_);refine bj ?_;refine bK Au (λs6=>AS.cu 37 [(0,aj x0),(1,.sv (slc 1 (List.map bG x8))),(4,.ptr 4 0),(5,.row 306),(6,ai s6.1)] [(4,⟨34,[aj false,.sv ax]⟩)] [(306,TR 106 1 aY s6.2)]) (c8 (λi=>bif Nat.beq i 306 then 304 else i) Y Y Y Y Y ⟨.sv au,.sv au,.ptr,.row Y,.sv au,aq⟩ ⟨⟨_,Y,⟨.sv au,.sv au,aq⟩⟩,aq⟩ ⟨⟨_,Y,eW.refl _⟩,aq⟩ (λi hi=>by rw[cA (show i≠306 by omega)];rfl)) (λs6 y6 G6 h Aw v8=>?_);obtain⟨pN,oW⟩:=s6
 try dsimp only
 refine qq<|sr<|mv Y<|mv Y<|lE h λfV l6 h=>ln Y l6<|lE h λdw fU h=>ls _ Y Y fU<|dn ?_;cases dw;refine cF<|bP<|aV.x<|aV.x<|bw.x<|aV.n ?_;obtain rfl:=O (F h);exact⟨oW,v8 _ Y,wR []⟩;refine cT<|bp<|aV.n<|qq<|bj<|aW<|mo (s:=.row _) Y<|mv Y<|mv Y<|bE (V h) λfg j0 h=>cl (ep j0) ⟨Y,Y,aq⟩<|lE h λkq nc h=>cv _ Y (UK.conv nc)<|mv Y<|mv Y<|lE h λiP n7 h=>ad _ Y Y n7<|bE h λiI pM h=>cl (ep pM) ⟨Y,Y,aq⟩<|lE h λic oD h=>cv _ Y (UK.conv oD)<|lE h λm6 oS h=>RT.mul .none _ Y Y T (UK.mul (a:=ic) (b:=65536) oS) ?_;refine lE h λkV rT h=>ad _ Y Y (UK.add (a:=kq) (b:=m6) rT)<|bl (l:=[kV]) (e:=aY) (.one Y (.nil)) Y Y Y Y Y Y<|bE h λkW tC h=>aR (k:=[kV]) (e:=aY) Y Y Y tC<|an (s:=.row _) Y<|RT.done<|bw.n<|aV.n<|aW<|mv Y<|lE h λeK jC h=>ad _ Y Y jC<|ag Y<|RT.done ?_;obtain rfl:=O h;exact aV.n ⟨(eK,kW),Aw _ Y,c8 (λi=>bif Nat.beq i 306 then 28 else i) Y Y Y Y Y ⟨.sv au,.sv au,.ptr,.row Y,.sv au,aq⟩ ⟨⟨_,Y,⟨.sv au,.sv au,aq⟩⟩,aq⟩ ⟨⟨_,Y,eW.refl _⟩,aq⟩ (λi hi=>by rw[cA (show i≠306 by omega)];rfl)⟩;subst Av
 try dsimp only
 refine aV.n<|qq ?_;refine bB jt (λj9=>AS.cu 37 [(4,.ptr 4 0)] [(4,⟨34,[aj j9,.sv (slc 1 (List.map aY gP))]⟩)] []) (λjt=>?_) (λKB jt=>?_);refine bO (cC (i:=306) (E1:=106) (n:=1) (e:=aY) (l:=gP) Y)<|aW<|mv Y<|mv Y<|bE jt λKC Iq jt=>?_;cases x0;obtain rfl:=O (F Iq);exact ww<|ww<|ww<|pF Y<|mv Y<|bI (cs:=[_,_]) (cs':=[az false,slc 1 (List.map aY gP)]) (.one Y (.one Y (.nil))) ⟨au,au,aq⟩<|so Y Y Y<|dn<|⟨false,jt,wR []⟩;refine gm Y<|lE (V Iq) λiQ nP Iq=>gn Y nP<|lE Iq λmu vI Iq=>gg _ Y Y vI ?_;obtain rfl:=O Iq;exact pT Y<|mv Y<|bI (cs:=[_,_]) (cs':=[az mu,slc 1 (List.map aY gP)]) (.one Y (.one Y (.nil))) ⟨au,au,aq⟩<|so Y Y Y<|dn<|⟨mu,jt,wR []⟩
 try dsimp only
 refine aV.n<|bf ?_;obtain rfl:=O jt;exact RZ (.agg Y Y (.k2 Y Y) Y (.nil))
theorem qM{x0:Zr}{r:Zr}(h:fN x0=some r):Pure ah 89 [.agg (eZ x0)] (.agg (eZ r)):=by
 obtain⟨bu,bt⟩:=x0;refine aZ Tryz.func89 Y (af Y) (λdy M vs hvs=>?_);unfold fN at h;refine sr<|bx Y<|al (cs:=[az false,ax]) (by exact⟨au,aB,aq⟩) Y<|dn<|qq<|bh mixed<|fa Y Y<|lV Y Y Y<|fa Y Y<|lV Y Y Y<|bE h λx7 h7 h=>cl (cW h7) ⟨Y,aq⟩ ?_;obtain⟨⟨qC,qD⟩,h8,h⟩:=bS h;refine cl (jx h8) ⟨Y,Y,aq⟩<|so Y Y Y ?_;refine RT.done ⟨by kernel_rfl,?_⟩;refine aV.n<|bf ?_;obtain rfl:=O h;exact RZ (.agg Y Y (.k2 Y Y) Y (.nil))
theorem kN{x0:Int}{r:Zr}(h:fK x0=some r):Pure ah 49 [ay x0] (.agg (eZ r)):=by
 refine aZ Tryz.func49 Y (af Y) (λdy M vs hvs=>?_);unfold fK at h;refine sr<|al (cs:=[az false,ax]) (by exact⟨au,aB,aq⟩) Y<|dn<|sr<|mv Y<|lE h λx5 h5 h=>cv _ Y (UK.conv h5)<|ag Y<|dn<|qq<|sr<|mv Y<|lE h λx7 h7 h=>ls _ Y Y h7<|dn ?_;refine bB h (λj2=>AS.cu 21 [(0,ai x0),(2,.ptr 2 0),(3,.sv (.v (.int .u64 ((j2:Nat):Int))))] [(2,⟨34,[aj false,.sv ax]⟩)] []) (λh=>?_) (λDx h=>?_);cases x7;exact fs<|⟨x5,(F h),wR []⟩;exact cT<|aW<|mv Y<|lE (V h) λx9 h9 h=>RT.neg .none _ Y T (UK.neg h9)<|ag Y<|dn<|⟨x9,h,wR []⟩
 try dsimp only
 refine aV.n<|sr<|mv Y<|lE h λfV l6 h=>ls _ Y Y l6<|mv Y<|lE h λjB mG h=>RT.rem .none _ Y Y T (by decide) (Ol (a:=Dx) (b:=4294967296) mG)<|lE h λeK jC h=>cv _ Y (UK.nat jC)<|mv Y<|lE h λfo iW h=>RT.quo .none _ Y Y T (by decide) (UK.TJ (a:=Dx) (b:=4294967296) iW)<|lE h λfm k8 h=>cv _ Y (UK.nat k8)<|bl (l:=[eK,fm]) (e:=aY) (.one Y (.one Y (.nil))) Y Y Y Y Y Y<|bI (cs:=[_,_]) (cs':=[az fV,slc 1 (List.map aY [eK,fm])]) (.one Y (.one Y (.nil))) ⟨au,au,aq⟩ ?_;obtain⟨⟨DJ,DK⟩,oR,h⟩:=bS h;refine cl (qM oR) ⟨Y,aq⟩<|so Y Y Y<|dn<|bf ?_;obtain rfl:=O h;exact RZ (.agg Y Y (.k2 Y Y) Y (.nil))
end
section
open Go.Fw Go.Fw.Z Go.RowKit
theorem uV{x0:List Int}{x1:List Int}{r:Int}(h:iD x0 x1=some r):Pure ah 154 [slc 1 (List.map bG x0),slc 1 (List.map bG x1)] (ay r):=by
 refine aZ Tryz.func154 Y (af Y) (λdy M vs hvs=>?_);unfold iD at h;refine sr<|ag Y<|dn<|qq<|sr<|mv Y<|lE h λx7 h7 h=>ln Y h7<|mv Y<|lE h λx9 h9 h=>ln Y h9<|lE h λec gD h=>RT.max .none _ Y Y T (Mw (p:=x7) (q:=x9) gD)<|lE h λfV l6 h=>sb _ Y Y l6<|ag Y<|dn<|bE h λe6 Au jt=>?_;refine bJ (λ(Fx:Unit)=>AS.cu 30 [] [] []) (λFx=>.inl Fx=e6) ?_ (λFx Av=>?_);refine bj ?_;refine bK Au (λs6=>AS.cu 30 [(0,.sv (slc 1 (List.map bG x0))),(1,.sv (slc 1 (List.map bG x1))),(5,ai s6)] [] []) (wR []) (λlO y6 G6 h Aw v8=>?_)
 try dsimp only
 refine qq<|sr<|mv Y<|lE h λjB mG h=>ge _ Y Y mG<|dn ?_;cases jB;refine cF<|bP<|aV.x<|aV.x<|bw.x<|aV.n ?_;obtain rfl:=O (F h);exact⟨(),v8 _ Y,wR []⟩;refine cT<|bp<|aV.n<|qq<|bj<|qq<|sr<|mv Y<|mv Y<|bE (V h) λfg j0 h=>cl (ep j0) ⟨Y,Y,aq⟩<|mv Y<|mv Y<|bE h λgG nf h=>cl (ep nf) ⟨Y,Y,aq⟩<|lE h λiP n7 h=>ls _ Y Y n7<|dn ?_;cases iP;refine fs<|sr<|mv Y<|mv Y<|bE (F h) λm6 oS h=>cl (ep oS) ⟨Y,Y,aq⟩<|mv Y<|mv Y<|bE h λkW tC h=>cl (ep tC) ⟨Y,Y,aq⟩<|lE h λij m8 h=>gt _ Y Y m8<|dn ?_;cases ij;refine cF<|bp<|bw.n<|aV.n<|aW<|mv Y<|lE (F h) λdS iV h=>sb _ Y Y iV<|ag Y<|RT.done ?_;obtain rfl:=O h;exact aV.n ⟨dS,Aw _ Y,wR []⟩;refine cT<|sr<|ag Y<|dn<|bf<|bw.r<|aV.r ?_;obtain rfl:=O (V h);have JV:=v8 _ Y;subst JV;refine aV.r<|bw.r<|aV.r<|aV.r ?_;obtain rfl:=O jt;exact R1 Y;refine cT<|sr<|ag Y<|dn<|bf<|aV.r<|bw.r<|aV.r ?_;obtain rfl:=O (V h);have JV:=v8 _ Y;subst JV;refine aV.r<|bw.r<|aV.r<|aV.r ?_;obtain rfl:=O jt;exact R1 Y;subst Av
 try dsimp only
 refine aV.n<|sr<|ag Y<|dn<|bf ?_;obtain rfl:=O jt;exact R1 Y
theorem Ci{x0:List Int}{x1:List Int}{r:List Int}(h:ju x0 x1=some r):Pure ah 152 [slc 1 (List.map bG x0),slc 1 (List.map bG x1)] (slc 1 (List.map bG r)):=by
 refine aZ Tryz.func152 Y (af Y) (λdy M vs hvs=>?_);unfold ju at h;refine sr<|aI Y (aB (n:=1) (e:=bG))<|dn<|sr<|ag Y<|dn<|bO (gj 5 304 3 1 Y Y T)<|sr<|ag Y<|dn<|qq<|sr<|ag Y<|dn<|bE h λM1 FW Cj=>?_;refine bJ (λ(oX:(List Int))=>AS.cu 43 [(5,.row 306)] [] [(306,TR 3 1 bG oX)]) (λoX=>oX=M1) ?_ (λoX Ck=>?_);refine bj ?_;refine bK FW (λKD=>AS.cu 43 [(0,.sv (slc 1 (List.map bG x0))),(1,.sv (slc 1 (List.map bG x1))),(5,.row 306),(6,ai KD.1),(7,ai KD.2.1)] [] [(306,TR 3 1 bG KD.2.2)]) (c8 (λi=>bif Nat.beq i 306 then 304 else i) Y Y Y Y Y ⟨.sv au,.sv au,.row Y,.sv au,.sv au,aq⟩ trivial ⟨⟨_,Y,eW.refl _⟩,aq⟩ (λi hi=>by rw[cA (show i≠306 by omega)];rfl)) (λKD y16 G16 h KO FX=>?_);obtain⟨MW,FM,zB⟩:=KD
 try dsimp only
 refine qq<|qq ?_;refine bB h (λUW=>AS.cu 43 [(0,.sv (slc 1 (List.map bG x0))),(1,.sv (slc 1 (List.map bG x1))),(5,.row 306),(6,ai MW),(7,ai FM),(22,aj UW)] [] [(306,TR 3 1 bG zB)]) (λh=>?_) (λFN h=>?_);refine aW<|mv Y<|mv Y<|lE h λfV l6 h=>ln Y l6<|lE h λdw fU h=>ls _ Y Y fU<|mv Y<|bE h λFJ lp h=>?_;cases dw;refine gm Y<|gm Y<|lE (F lp) λfo iW lp=>gn Y iW<|lE lp λfm k8 lp=>RT.lss (.some Y Y) _ Y Y T k8 ?_;obtain rfl:=O lp;refine pF Y<|mv Y<|bE h λZX nh h=>?_;cases fm;refine gm Y<|lE (F nh) λgG nf nh=>gg _ Y Y nf ?_;obtain rfl:=O nh;exact pF Y<|dn<|⟨gG,h,wR []⟩;obtain rfl:=O (V nh);exact ww<|ww<|pT Y<|dn<|⟨true,h,wR []⟩;obtain rfl:=O (V lp);refine ww<|ww<|ww<|ww<|pT Y<|mv Y<|bE h λZY KP h=>?_;obtain rfl:=O (V KP);exact ww<|ww<|pT Y<|dn<|⟨true,h,wR []⟩
 try dsimp only
 refine aV.n ?_;cases FN;refine cF<|bP<|aV.x<|aV.x<|bw.x<|aV.n ?_;obtain rfl:=O (F h);exact⟨zB,FX _ Y,wR []⟩;refine cT<|bp<|aV.n<|qq<|bj<|sr<|mv Y<|mv Y<|bE (V h) λgy m9 h=>cl (ep m9) ⟨Y,Y,aq⟩<|mv Y<|mv Y<|bE h λvX Ax h=>cl (ep Ax) ⟨Y,Y,aq⟩<|lE h λpA xS h=>ad _ Y Y xS<|mv Y<|lE h λmu vI h=>ad _ Y Y vI<|ag Y<|dn<|sr<|mo (s:=.row _) Y<|mv Y<|lE h λud wh h=>?_;refine RT.rem .none _ Y Y T (by decide) wh<|bl (l:=[ud]) (e:=bG) (.one Y (.nil)) Y Y Y Y Y Y<|bE h λua DE h=>aR (k:=[ud]) (e:=bG) Y Y Y DE<|an (s:=.row _) Y<|dn<|aW<|mv Y<|lE h λkU rA h=>RT.quo .none _ Y Y T (by decide) rA<|ag Y<|RT.done<|bw.n<|aV.n<|aW<|mv Y<|lE h λic oD h=>ad _ Y Y oD<|ag Y<|RT.done ?_;obtain rfl:=O h;exact aV.n ⟨(kU,ic,ua),KO _ Y,c8 (λi=>bif Nat.beq i 306 then 38 else i) Y Y Y Y Y ⟨.sv au,.sv au,.row Y,.sv au,.sv au,aq⟩ trivial ⟨⟨_,Y,eW.refl _⟩,aq⟩ (λi hi=>by rw[cA (show i≠306 by omega)];rfl)⟩;subst Ck
 try dsimp only
 refine aV.n<|qq<|bO (cC (i:=306) (E1:=3) (n:=1) (e:=bG) (l:=oX) Y)<|aW<|mv Y<|bE Cj λqa BZ Cj=>cl (dz BZ) ⟨Y,aq⟩<|ag Y<|dn<|bf ?_;obtain rfl:=O Cj;exact R1 Y
theorem uW{x0:List Int}{x1:List Int}{r:List Int}(h:gA x0 x1=some r):Pure ah 153 [slc 1 (List.map bG x0),slc 1 (List.map bG x1)] (slc 1 (List.map bG r)):=by
 refine aZ Tryz.func153 Y (af Y) (λdy M vs hvs=>?_);unfold gA at h;refine sr<|aI Y (aB (n:=1) (e:=bG))<|dn<|sr<|ag Y<|dn<|bO (gj 5 304 3 1 Y Y T)<|sr<|ag Y<|dn<|qq<|sr<|ag Y<|dn<|bE h λe8 B0 tD=>?_;refine bJ (λ(nO:(List Int))=>AS.cu 34 [(5,.row 306)] [] [(306,TR 3 1 bG nO)]) (λnO=>nO=e8) ?_ (λnO B3=>?_);refine bj ?_;refine bK B0 (λs8=>AS.cu 34 [(0,.sv (slc 1 (List.map bG x0))),(1,.sv (slc 1 (List.map bG x1))),(5,.row 306),(6,ai s8.1),(7,ai s8.2.1)] [] [(306,TR 3 1 bG s8.2.2)]) (c8 (λi=>bif Nat.beq i 306 then 304 else i) Y Y Y Y Y ⟨.sv au,.sv au,.row Y,.sv au,.sv au,aq⟩ trivial ⟨⟨_,Y,eW.refl _⟩,aq⟩ (λi hi=>by rw[cA (show i≠306 by omega)];rfl)) (λs8 y8 G8 h B4 B5=>?_);obtain⟨uB,Ip,nN⟩:=s8
 try dsimp only
 refine qq<|sr<|mv Y<|mv Y<|lE h λfV l6 h=>ln Y l6<|lE h λdw fU h=>ls _ Y Y fU<|dn ?_;cases dw;refine cF<|bP<|aV.x<|aV.x<|bw.x<|aV.n ?_;obtain rfl:=O (F h);exact⟨nN,B5 _ Y,wR []⟩;refine cT<|bp<|aV.n<|qq<|bj<|sr<|mv Y<|mv Y<|bE (V h) λfm k8 h=>cl (ep k8) ⟨Y,Y,aq⟩<|mv Y<|mv Y<|bE h λja oR h=>cl (ep oR) ⟨Y,Y,aq⟩<|lE h λgG nf h=>sb _ Y Y nf<|mv Y<|lE h λiI pM h=>sb _ Y Y pM<|ag Y<|dn<|sr<|ag Y<|dn<|qq<|sr<|mv Y<|lE h λm6 oS h=>?_;refine ls _ Y Y oS<|dn ?_;refine bB h (λPD=>AS.cu 34 [(0,.sv (slc 1 (List.map bG x0))),(1,.sv (slc 1 (List.map bG x1))),(5,.row 306),(6,ai PD.1),(7,ai Ip),(8,ai PD.2)] [] [(306,TR 3 1 bG nN)]) (λh=>?_) (λPD h=>?_);cases m6;exact fs<|⟨(0,iI),(F h),wR []⟩;exact cT<|sr<|mv Y<|lE (V h) λgy m9 h=>ad _ Y Y m9<|ag Y<|dn<|aW<|ag Y<|dn<|⟨(1,gy),h,wR []⟩;obtain⟨RJ,MX⟩:=PD
 try dsimp only
 refine aV.n<|aW<|mo (s:=.row _) Y<|mv Y<|bl (l:=[MX]) (e:=bG) (.one Y (.nil)) Y Y Y Y Y Y<|bE h λpA xS h=>aR (k:=[MX]) (e:=bG) Y Y Y xS<|an (s:=.row _) Y<|RT.done<|bw.n<|aV.n<|aW<|mv Y<|lE h λeK jC h=>ad _ Y Y jC<|ag Y<|RT.done ?_;obtain rfl:=O h;exact aV.n ⟨(RJ,eK,pA),B4 _ Y,c8 (λi=>bif Nat.beq i 306 then 31 else i) Y Y Y Y Y ⟨.sv au,.sv au,.row Y,.sv au,.sv au,aq⟩ trivial ⟨⟨_,Y,eW.refl _⟩,aq⟩ (λi hi=>by rw[cA (show i≠306 by omega)];rfl)⟩;subst B3
 try dsimp only
 refine aV.n<|qq<|bO (cC (i:=306) (E1:=3) (n:=1) (e:=bG) (l:=nO) Y)<|aW<|mv Y<|bE tD λmu vI tD=>cl (dz vI) ⟨Y,aq⟩<|ag Y<|dn<|bf ?_;obtain rfl:=O tD;exact R1 Y
theorem jO{x0:List Int}{r:Int}(h:eT x0=some r):Pure ah 162 [slc 1 (List.map bG x0)] (ay r):=by
 refine aZ Tryz.func162 Y (af Y) (λdy M vs hvs=>?_);unfold eT at h;refine sr<|ag Y<|dn<|sr<|ag Y<|dn<|qq<|sr<|mv Y<|lE h λx6 h6 h=>ln Y h6<|lE h λx7 h7 h=>sb _ Y Y h7<|ag Y<|dn<|bE h λe6 Au jt=>?_;refine bJ (λ(og:Int)=>AS.cu 20 [(3,ai og)] [] []) (λog=>og=e6) ?_ (λog Av=>?_);refine bj ?_;refine bK Au (λs6=>AS.cu 20 [(0,.sv (slc 1 (List.map bG x0))),(3,ai s6.1),(4,ai s6.2)] [] []) (wR []) (λs6 y6 G6 h Aw v8=>?_);obtain⟨lj,tO⟩:=s6
 try dsimp only
 refine qq<|sr<|mv Y<|lE h λx9 h9 h=>ge _ Y Y h9<|dn ?_;cases x9;refine cF<|bP<|aV.x<|aV.x<|bw.x<|aV.n ?_;obtain rfl:=O (F h);exact⟨lj,v8 _ Y,wR []⟩;refine cT<|bp<|aV.n<|qq<|bj<|aW<|mv Y<|lE (V h) λjB mG h=>RT.mul .none _ Y Y T mG<|mv Y<|mv Y<|bE h λfo iW h=>ix Y Y iW<|lr Y Y<|lE h λfg j0 h=>ad _ Y Y j0<|ag Y<|RT.done<|bw.n<|aV.n<|aW<|mv Y<|lE h λfV l6 h=>sb _ Y Y l6<|ag Y<|RT.done ?_;obtain rfl:=O h;exact aV.n ⟨(fg,fV),Aw _ Y,wR []⟩;subst Av
 try dsimp only
 refine aV.n<|sr<|mv Y<|ag Y<|dn<|bf ?_;obtain rfl:=O jt;exact R1 Y
theorem sJ{x0:Int}{r:List Int}(h:iL x0=some r):Pure ah 161 [ay x0] (slc 1 (List.map bG r)):=by
 refine aZ Tryz.func161 Y (af Y) (λdy M vs hvs=>?_);unfold iL at h;refine sr<|aI Y (aB (n:=1) (e:=bG))<|dn<|sr<|mv Y<|lE h λx4 h4 h=>RT.rem .none _ Y Y T (by decide) h4<|mv Y<|lE h λx6 h6 h=>RT.quo .none _ Y Y T (by decide) h6<|lE h λx7 h7 h=>RT.rem .none _ Y Y T (by decide) h7<|mv Y<|lE h λx9 h9 h=>RT.quo .none _ Y Y T (by decide) h9<|lE h λec gD h=>RT.quo .none _ Y Y T (by decide) gD<|bl (l:=[x4,x7,ec]) (e:=bG) (.one Y (.one Y (.one Y (.nil)))) Y Y Y Y Y Y ?_;refine bE h λdw fU h=>cl (dz fU) ⟨Y,aq⟩<|ag Y<|dn<|bf ?_;obtain rfl:=O h;exact R1 Y
theorem qN{x0:List Int}{x1:Int}{r:List Int}(h:eU x0 x1=some r):Pure ah 163 [slc 1 (List.map bG x0),ay x1] (slc 1 (List.map bG r)):=by
 refine aZ Tryz.func163 Y (af Y) (λdy M vs hvs=>?_);unfold eU at h;refine sr<|aI Y (aB (n:=1) (e:=bG))<|dn<|sr<|ag Y<|dn<|bO (gj 5 304 3 1 Y Y T)<|sr<|ag Y<|dn<|qq<|sr<|ag Y<|dn<|bE h λJS BV rR=>?_;refine bJ (λ(tQ:(List Int))=>AS.cu 35 [(5,.row 306)] [] [(306,TR 3 1 bG tQ)]) (λtQ=>tQ=JS) ?_ (λtQ BW=>?_);refine bj ?_;refine bK BV (λA5=>AS.cu 35 [(0,.sv (slc 1 (List.map bG x0))),(1,ai x1),(5,.row 306),(6,ai A5.1),(7,ai A5.2.1)] [] [(306,TR 3 1 bG A5.2.2)]) (c8 (λi=>bif Nat.beq i 306 then 304 else i) Y Y Y Y Y ⟨.sv au,.sv au,.row Y,.sv au,.sv au,aq⟩ trivial ⟨⟨_,Y,eW.refl _⟩,aq⟩ (λi hi=>by rw[cA (show i≠306 by omega)];rfl)) (λA5 V4 V5 h BX yP=>?_);obtain⟨MY,KE,zC⟩:=A5
 try dsimp only
 refine qq<|qq ?_;refine bB h (λJU=>AS.cu 35 [(0,.sv (slc 1 (List.map bG x0))),(1,ai x1),(5,.row 306),(6,ai MY),(7,ai KE),(16,aj JU)] [] [(306,TR 3 1 bG zC)]) (λh=>?_) (λFO h=>?_);refine aW<|mv Y<|mv Y<|lE h λfV l6 h=>ln Y l6<|lE h λdw fU h=>ls _ Y Y fU<|mv Y<|bE h λKF eH h=>?_;cases dw;refine gm Y<|lE (F eH) λdS iV eH=>gg _ Y Y iV ?_;obtain rfl:=O eH;exact pF Y<|dn<|⟨dS,h,wR []⟩;obtain rfl:=O (V eH);exact ww<|ww<|pT Y<|dn<|⟨true,h,wR []⟩
 try dsimp only
 refine aV.n ?_;cases FO;refine cF<|bP<|aV.x<|aV.x<|bw.x<|aV.n ?_;obtain rfl:=O (F h);exact⟨zC,yP _ Y,wR []⟩;refine cT<|bp<|aV.n<|qq<|bj<|sr<|mv Y<|mv Y<|bE (V h) λgG nf h=>cl (ep nf) ⟨Y,Y,aq⟩<|mv Y<|lE h λiI pM h=>RT.mul .none _ Y Y T pM<|mv Y<|lE h λm6 oS h=>ad _ Y Y oS<|ag Y<|dn<|sr<|mo (s:=.row _) Y<|mv Y<|lE h λkW tC h=>RT.rem .none _ Y Y T (by decide) tC<|bl (l:=[kW]) (e:=bG) (.one Y (.nil)) Y Y Y Y Y Y ?_;refine bE h λvX Ax h=>aR (k:=[kW]) (e:=bG) Y Y Y Ax<|an (s:=.row _) Y<|dn<|aW<|mv Y<|lE h λiQ nP h=>RT.quo .none _ Y Y T (by decide) nP<|ag Y<|RT.done<|bw.n<|aV.n<|aW<|mv Y<|lE h λfg j0 h=>ad _ Y Y j0<|ag Y<|RT.done ?_;obtain rfl:=O h;exact aV.n ⟨(iQ,fg,vX),BX _ Y,c8 (λi=>bif Nat.beq i 306 then 30 else i) Y Y Y Y Y ⟨.sv au,.sv au,.row Y,.sv au,.sv au,aq⟩ trivial ⟨⟨_,Y,eW.refl _⟩,aq⟩ (λi hi=>by rw[cA (show i≠306 by omega)];rfl)⟩;subst BW
 try dsimp only
 refine aV.n<|qq<|bO (cC (i:=306) (E1:=3) (n:=1) (e:=bG) (l:=tQ) Y)<|aW<|mv Y<|bE rR λm7 rS rR=>cl (dz rS) ⟨Y,aq⟩<|ag Y<|dn<|bf ?_;obtain rfl:=O rR;exact R1 Y
set_option maxHeartbeats 4000000 in
theorem uX{x0:List Int}{x1:List Int}{r:(List Int)×(List Int)}(h:jv x0 x1=some r):Pure ah 151 [slc 1 (List.map bG x0),slc 1 (List.map bG x1)] (.z9 [slc 1 (List.map bG r.1),slc 1 (List.map bG r.2)]):=by
 refine aZ Tryz.func151 Y (af Y) (λdy M vs hvs=>?_);unfold jv at h;refine sr<|aI Y (aB (n:=1) (e:=bG))<|aI Y (aB (n:=1) (e:=bG))<|dn<|qq<|qq ?_;refine bB h (λj3=>AS.cu 120 [(0,.sv (slc 1 (List.map bG x0))),(1,.sv (slc 1 (List.map bG x1))),(21,aj j3)] [] []) (λh=>?_) (λKG h=>?_);refine aW<|mv Y<|lE h λdS iV h=>ln Y iV<|lE h λfo iW h=>RT.leq .none _ Y Y T iW<|mv Y<|bE h λKK D8 h=>?_;cases fo;obtain rfl:=O (F D8);exact ww<|ww<|ww<|pF Y<|dn<|⟨false,h,wR []⟩;refine gm Y<|lE (V D8) λkq nc D8=>gn Y nc<|lE D8 λja oR D8=>RT.leq (.some Y Y) _ Y Y T oR ?_;obtain rfl:=O D8;exact pT Y<|dn<|⟨ja,h,wR []⟩
 try dsimp only
 refine aV.n ?_;cases KG;refine fs<|sr<|mv Y<|lE (F h) λvG BY h=>ln Y BY<|bE h λud wh h=>RT.r8 (n:=1) (e:=bG) .none Y Y T Y T (by rfl) (by decide) (by exact⟨au,aq⟩) wh<|an (s:=.row _) Y<|dn<|qq<|sr<|mv Y<|lE h λua DE h=>ln Y DE<|lE h λpL DG h=>eq _ Y Y (xy (p:=ua) (q:=1) DG)<|dn ?_;cases pL;refine fs<|sr<|aI Y (aB (n:=1) (e:=bG))<|dn<|qq<|sr<|mv Y<|lE (F h) λTc ZZ h=>ln Y ZZ<|lE h λMN Uw h=>sb _ Y Y Uw<|ag Y<|dn<|bE h λZV Z0 RO=>?_;refine bJ (λ(Ir:(List Int)×(List Int))=>AS.cu 120 [(6,.row 36),(9,.sv (slc 1 (List.map bG Ir.1)))] [] [(36,TR 3 1 bG Ir.2)]) (λIr=>Ir=ZV) ?_ (λIr Z1=>?_);refine bj ?_;refine bK Z0 (λRM=>AS.cu 120 [(0,.sv (slc 1 (List.map bG x0))),(1,.sv (slc 1 (List.map bG x1))),(6,.row 36),(9,.sv (slc 1 (List.map bG RM.1))),(10,ai RM.2.1)] [] [(36,TR 3 1 bG RM.2.2)]) (wR []) (λRM y44 G44 h Z2 Z3=>?_);obtain⟨D7,oY,oZ⟩:=RM
 try dsimp only
 refine qq<|sr<|mv Y<|lE h λZS h76 h=>ge _ Y Y h76<|dn ?_;cases ZS;refine cF<|bP<|aV.x<|aV.x<|bw.x<|aV.n ?_;obtain rfl:=O (F h);exact⟨(D7,oZ),Z3 _ Y,wR []⟩;refine cT<|bp<|aV.n<|qq<|bj<|sr<|mv Y<|mv Y<|bE (V h) λZT h81 h=>ix Y Y h81<|lr Y Y<|RT.BI (l:=[ZT]) (e:=bG) .none (.one Y (.nil)) T Y T Y Y Y Y Y Y<|mv Y<|bE h λT4 Yl h=>RT.Mz (k:=D7) (e:=bG) .none Y Y Y T Y T Yl<|bE h λEU Ux h=>cl (dz Ux) ⟨Y,aq⟩<|ag Y<|dn<|sr<|ag Y<|ag Y ?_;refine dn<|qq<|sr<|mv Y<|lE h λTd Z4 h=>ln Y Z4<|mv Y<|lE h λT5 Yn h=>ln Y Yn<|lE h λQ1 Yo h=>ls _ Y Y Yo<|dn ?_;refine bB h (λj46=>AS.cu 120 [(0,.sv (slc 1 (List.map bG x0))),(1,.sv (slc 1 (List.map bG x1))),(6,.row 36),(9,.sv (slc 1 (List.map bG EU))),(10,ai oY),(11,ai 0),(12,ai j46)] [] [(36,TR 3 1 bG oZ)]) (λh=>?_) (λKI h=>?_);cases Q1;exact fs<|⟨65536,(F h),wR []⟩;exact cT<|aW<|ag Y<|dn<|⟨1,(V h),wR []⟩
 try dsimp only
 refine aV.n<|qq<|bE h λe54 Z5 zE=>?_;refine bJ (λ(qL:Int)=>AS.cu 120 [(0,.sv (slc 1 (List.map bG x0))),(1,.sv (slc 1 (List.map bG x1))),(6,.row 36),(9,.sv (slc 1 (List.map bG EU))),(10,ai oY),(11,ai qL)] [] [(36,TR 3 1 bG oZ)]) (λqL=>qL=e54) ?_ (λqL Z6=>?_);refine bj ?_;refine bK Z5 (λPE=>AS.cu 120 [(0,.sv (slc 1 (List.map bG x0))),(1,.sv (slc 1 (List.map bG x1))),(6,.row 36),(9,.sv (slc 1 (List.map bG EU))),(10,ai oY),(11,ai PE.1),(12,ai PE.2)] [] [(36,TR 3 1 bG oZ)]) (wR []) (λPE y54 G54 h Z7 Z8=>?_);obtain⟨jN,mN⟩:=PE
 try dsimp only
 refine qq<|sr<|mv Y<|mv Y<|lE h λx94 h94 h=>sb _ Y Y h94<|lE h λZU h95 h=>gt _ Y Y h95<|dn ?_;cases ZU;refine cF<|bP<|aV.x<|aV.x<|bw.x<|aV.n ?_;obtain rfl:=O (F h);exact⟨jN,Z8 _ Y,wR []⟩;refine cT<|bp<|aV.n<|bj<|sr<|mv Y<|mv Y<|lE (V h) λx98 h98 h=>ad _ Y Y h98<|lE h λTe Z9 h=>RT.quo .none _ Y Y T (by decide) Z9<|ag Y<|dn<|sr<|mv Y<|mv Y<|bE h λAq J0 h=>cl (qN J0) ⟨Y,Y,aq⟩<|mv Y<|bE h λFq Rk h=>cl (uV Rk) ⟨Y,Y,aq⟩<|lE h λAr J1 h=>RT.leq .none _ Y Y T J1<|dn ?_;refine bB h (λTf=>AS.cu 120 [(0,.sv (slc 1 (List.map bG x0))),(1,.sv (slc 1 (List.map bG x1))),(6,.row 36),(9,.sv (slc 1 (List.map bG EU))),(10,ai oY),(11,ai Tf.1),(12,ai Tf.2)] [] [(36,TR 3 1 bG oZ)]) (λh=>?_) (λTf h=>?_);cases Ar;exact cF<|aW<|mv Y<|ag Y<|dn<|⟨(jN,Te),(F h),wR []⟩;exact cT<|aW<|mv Y<|ag Y<|dn<|⟨(Te,mN),(V h),wR []⟩;obtain⟨FR,FU⟩:=Tf
 try dsimp only
 refine bw.n ?_;obtain rfl:=O h;exact aV.n ⟨(FR,FU),Z7 _ Y,wR []⟩;subst Z6
 try dsimp only
 refine aV.n<|aW<|mo (s:=.row _) Y<|mv Y<|mv Y<|mv Y<|mv Y<|mv Y<|bE zE λFs Rl zE=>cl (qN Rl) ⟨Y,Y,aq⟩<|bE zE λKJ aaa zE=>cl (uW aaa) ⟨Y,Y,aq⟩<|bE zE λMZ aab zE=>iR Y Y Y aab<|bE zE λUT UX zE=>sR qL Y Y Y Y UX<|ag Y<|RT.done<|bw.n<|aV.n<|aW<|mv Y<|lE zE λTg h78 zE=>?_;refine sb _ Y Y h78<|ag Y<|RT.done ?_;obtain rfl:=O zE;exact aV.n ⟨(KJ,Tg,UT),Z2 _ Y,wR []⟩;subst Z1;obtain⟨PF,FV⟩:=Ir
 try dsimp only
 refine aV.n<|qq<|bO (cC (i:=36) (E1:=3) (n:=1) (e:=bG) (l:=FV) Y)<|aW<|mv Y<|bE RO λUU aad RO=>cl (dz aad) ⟨Y,aq⟩<|mv Y<|ag Y<|ag Y<|dn<|bf ?_;obtain rfl:=O RO;exact R2 Y Y;refine cT<|sr<|ag Y<|dn<|qq<|sr<|mv Y<|lE (V h) λxP Ic h=>ln Y Ic<|lE h λqa BZ h=>sb _ Y Y BZ<|ag Y<|dn<|bE h λZR aae KQ=>?_;refine bJ (λ(Is:Int×(List Int))=>AS.cu 120 [(6,.row 36),(7,ai Is.1)] [] [(36,TR 3 1 bG Is.2)]) (λIs=>Is=ZR) ?_ (λIs aaf=>?_);refine bj ?_;refine bK aae (λRK=>AS.cu 120 [(0,.sv (slc 1 (List.map bG x0))),(1,.sv (slc 1 (List.map bG x1))),(6,.row 36),(7,ai RK.1),(8,ai RK.2.1)] [] [(36,TR 3 1 bG RK.2.2)]) (wR []) (λRK y18 G18 h aag aah=>?_);obtain⟨G0,D6,zD⟩:=RK
 try dsimp only
 refine qq<|sr<|mv Y<|lE h λuE DF h=>ge _ Y Y DF<|dn ?_;cases uE;refine cF<|bP<|aV.x<|aV.x<|bw.x<|aV.n ?_;obtain rfl:=O (F h);exact⟨(G0,zD),aah _ Y,wR []⟩;refine cT<|bp<|aV.n<|qq<|bj<|sr<|mv Y<|lE (V h) λxQ h48 h=>RT.mul .none _ Y Y T h48<|mv Y<|mv Y<|bE h λOo Rc h=>ix Y Y Rc<|lr Y Y<|lE h λRL Rh h=>ad _ Y Y Rh<|ag Y<|dn<|bh mixed<|mo (s:=.row _) Y<|mv Y<|mv Y<|mv Y<|bE h λMM Ur h=>ix Y Y Ur<|lr Y Y<|bE h λHZ OJ h=>?_;refine RT.quo .none _ Y Y T (TK OJ) (Jr OJ)<|mv Y<|mv Y<|bE h λOt h63 h=>ix Y Y h63<|lr Y Y<|bE h λQX V6 h=>RT.rem .none _ Y Y T (QE V6) (QF V6)<|bE h λOu X8 h=>iR Y Y Y X8<|bE h λZQ UY h=>sR HZ Y Y Y Y UY<|ag Y ?_;refine RT.done ⟨by kernel_rfl,?_⟩;refine bw.n<|aV.n<|aW<|mv Y<|lE h λqc h46 h=>sb _ Y Y h46<|ag Y<|RT.done ?_;obtain rfl:=O h;exact aV.n ⟨(QX,qc,ZQ),aag _ Y,wR []⟩;subst aaf;obtain⟨KH,FP⟩:=Is
 try dsimp only
 refine aV.n<|qq<|bO (cC (i:=36) (E1:=3) (n:=1) (e:=bG) (l:=FP) Y)<|aW<|mv Y<|bE KQ λL0 Us KQ=>cl (dz Us) ⟨Y,aq⟩<|mv Y<|bl (l:=[KH]) (e:=bG) (.one Y (.nil)) Y Y Y Y Y Y<|bE KQ λUS h71 KQ=>cl (dz h71) ⟨Y,aq⟩<|ag Y<|ag Y<|dn<|bf<|aV.r ?_;obtain rfl:=O KQ;exact R2 Y Y;refine cT<|sr<|mv Y<|bE (V h) λiI pM h=>cl (jO pM) ⟨Y,aq⟩<|mv Y<|bE h λm6 oS h=>cl (jO oS) ⟨Y,aq⟩<|bE h λkV rT h=>RT.quo .none _ Y Y T (TK rT) (Jr rT)<|bE h λgy m9 h=>cl (sJ m9) ⟨Y,aq⟩<|mv Y<|bE h λij m8 h=>cl (jO m8) ⟨Y,aq⟩<|mv Y<|bE h λpA xS h=>cl (jO xS) ⟨Y,aq⟩ ?_;refine bE h λiQ nP h=>RT.rem .none _ Y Y T (QE nP) (QF nP)<|bE h λmu vI h=>cl (sJ vI) ⟨Y,aq⟩<|ag Y<|ag Y<|dn<|bf<|aV.r ?_;obtain rfl:=O h;exact R2 Y Y
end
section
open Go.Fw Go.Fw.Z Go.RowKit
theorem fO{x0:Zr}{r:Int}(h:dH x0=some r):Pure ah 138 [.agg (eZ x0)] (ay r):=by
 obtain⟨bu,bt⟩:=x0;refine aZ Tryz.func138 Y (af Y) (λdy M vs hvs=>?_);unfold dH at h;refine sr<|bx Y<|ag Y<|dn<|qq<|sr<|fa Y Y<|lV Y Y Y<|bE h λx5 h5 h=>cl (cW h5) ⟨Y,aq⟩<|lE h λx6 h6 h=>ln Y h6<|lE h λx7 h7 h=>eq _ Y Y (xy (p:=x6) (q:=0) h7)<|dn ?_;cases x7;refine fs<|qq<|sr<|fa Y Y<|lV Y Y Y<|dn ?_;replace h:=F h;cases bu;refine fs<|sr<|ag Y<|dn<|bf ?_;obtain rfl:=O (F h);exact R1 Y;refine cT<|sr<|ag Y<|dn<|bf<|aV.r ?_;obtain rfl:=O (V h);exact R1 Y;refine cT<|sr<|ag Y<|dn<|bf<|aV.r ?_;obtain rfl:=O (V h);exact R1 Y
theorem Cm{x0:Zr}{x1:Zr}{r:Int}(h:lu x0 x1=some r):Pure ah 136 [.agg (eZ x0),.agg (eZ x1)] (ay r):=by
 obtain⟨bu,bt⟩:=x0;obtain⟨cc,bX⟩:=x1;refine aZ Tryz.func136 Y (af Y) (λdy M vs hvs=>?_);unfold lu at h;refine sr<|bx Y<|bx Y<|ag Y<|dn<|qq<|qq<|bh mixed<|ld Y Y (.k2 Y Y)<|bE h λx7 h7 h=>cl (fO h7) ⟨Y,aq⟩<|ld Y Y (.k2 Y Y)<|bE h λx9 h9 h=>cl (fO h9) ⟨Y,aq⟩<|lE h λec gD h=>ne _ Y Y (HU (p:=x7) (q:=x9) gD) ?_;refine RT.done ⟨by kernel_rfl,?_⟩;refine aV.n ?_;cases ec;refine fs<|qq<|bh mixed<|fa Y Y<|lV Y Y Y<|bE (F h) λfg j0 h=>cl (cW j0) ⟨Y,aq⟩<|fa Y Y<|lV Y Y Y<|bE h λgG nf h=>cl (cW nf) ⟨Y,aq⟩<|bE h λiP n7 h=>cl (uV n7) ⟨Y,Y,aq⟩<|ag Y ?_;refine RT.done ⟨by kernel_rfl,?_⟩;refine aV.n<|qq<|sr<|ld Y Y (.k2 Y Y)<|bE h λic oD h=>cl (fO oD) ⟨Y,aq⟩<|lE h λm6 oS h=>ls _ Y Y oS<|dn ?_;cases m6;refine fs<|sr<|mv Y<|ag Y<|dn<|bf ?_;obtain rfl:=O (F h);exact R1 Y;refine cT<|sr<|mv Y<|lE (V h) λgy m9 h=>RT.neg .none _ Y T m9<|ag Y<|dn<|bf<|aV.r ?_;obtain rfl:=O h;exact R1 Y;refine cT<|qq<|qq<|bh mixed<|ld Y Y (.k2 Y Y)<|bE (V h) λdw fU h=>cl (fO fU) ⟨Y,aq⟩<|ld Y Y (.k2 Y Y)<|bE h λeK jC h=>cl (fO jC) ⟨Y,aq⟩<|lE h λdS iV h=>ls _ Y Y iV ?_;refine RT.done ⟨by kernel_rfl,?_⟩;refine aV.n ?_;cases dS;refine fs<|sr<|ag Y<|dn<|bf<|aV.r ?_;obtain rfl:=O (F h);exact R1 Y
 refine cT<|sr<|ag Y<|dn<|bf<|aV.r<|aV.r ?_;obtain rfl:=O (V h);exact R1 Y
theorem Cn{x0:Zr}{r:Zr}(h:lz x0=some r):Pure ah 107 [.agg (eZ x0)] (.agg (eZ r)):=by
 obtain⟨bu,bt⟩:=x0;refine aZ Tryz.func107 Y (af Y) (λdy M vs hvs=>?_);unfold lz at h;refine sr<|bx Y<|al (cs:=[az false,ax]) (by exact⟨au,aB,aq⟩) Y<|dn<|qq<|bh mixed<|fa Y Y<|lV Y Y Y<|lE h λx5 h5 h=>nt Y _ h5<|fa Y Y<|lV Y Y Y<|bE h λx8 h8 h=>cl (cW h8) ⟨Y,aq⟩ ?_;obtain⟨⟨KL,KM⟩,h9,h⟩:=bS h;refine cl (jx h9) ⟨Y,Y,aq⟩<|so Y Y Y ?_;refine RT.done ⟨by kernel_rfl,?_⟩;refine aV.n<|bf ?_;obtain rfl:=O h;exact RZ (.agg Y Y (.k2 Y Y) Y (.nil))
theorem Co{x0:Zr}{r:Zr}(h:lB x0=some r):Pure ah 139 [.agg (eZ x0)] (.agg (eZ r)):=by
 obtain⟨bu,bt⟩:=x0;refine aZ Tryz.func139 Y (af Y) (λdy M vs hvs=>?_);unfold lB at h;refine sr<|bx Y<|al (cs:=[az false,ax]) (by exact⟨au,aB,aq⟩) Y<|dn<|sr<|fa Y Y<|lV Y Y Y<|bE h λx5 h5 h=>cl (cW h5) ⟨Y,aq⟩ ?_;obtain⟨⟨xG,xH⟩,h6,h⟩:=bS h;refine cl (jx h6) ⟨Y,Y,aq⟩<|so Y Y Y<|dn<|bf ?_;obtain rfl:=O h;exact RZ (.agg Y Y (.k2 Y Y) Y (.nil))
theorem uY{x0:Zr}{x1:Zr}{r:Zr×Zr×Int}(h:jw x0 x1=some r):Pure ah 135 [.agg (eZ x0),.agg (eZ x1)] (.z9 [.agg (eZ r.1),.agg (eZ r.2.1),ay r.2.2]):=by
 obtain⟨bu,bt⟩:=x0;obtain⟨cc,bX⟩:=x1;refine aZ Tryz.func135 Y (af Y) (λdy M vs hvs=>?_);unfold jw at h;refine sr<|bx Y<|bx Y<|al (cs:=[az false,ax]) (by exact⟨au,aB,aq⟩) Y<|al (cs:=[az false,ax]) (by exact⟨au,aB,aq⟩) Y<|ag Y<|dn<|qq<|bh mixed<|fa Y Y<|lV Y Y Y<|bE h λjB mG h=>cl (cW mG) ⟨Y,aq⟩<|fa Y Y ?_;refine lV Y Y Y<|bE h λfo iW h=>cl (cW iW) ⟨Y,aq⟩<|ag Y<|ag Y ?_;refine RT.done ⟨by kernel_rfl,?_⟩;refine aV.n<|qq<|sr<|mv Y<|lE h λfg j0 h=>ln Y j0<|lE h λkq nc h=>eq _ Y Y (xy (p:=fg) (q:=0) nc)<|dn ?_;cases kq;refine fs<|sr<|mv Y<|mv Y ?_;obtain⟨⟨yO,BT⟩,oS,h⟩:=bS (F h);refine cl (uX oS) ⟨Y,Y,aq⟩<|mv Y<|ex Y Y<|ex Y Y<|ag Y<|ag Y<|dn<|qq<|qq ?_;refine bB h (λj3=>AS.cu 50 [(2,.ptr 2 0),(3,.ptr 3 0),(4,.ptr 4 0),(5,.ptr 5 0),(8,.sv (slc 1 (List.map bG fo))),(9,.sv (slc 1 (List.map bG yO))),(10,.sv (slc 1 (List.map bG BT))),(34,aj j3.1)] [(5,⟨34,[aj false,.sv ax]⟩),(4,⟨34,[aj false,.sv ax]⟩),(3,⟨34,[aj cc,.sv (slc 1 (List.map aY bX))]⟩),(2,⟨34,[aj j3.2,.sv (slc 1 (List.map aY bt))]⟩)] []) (λh=>?_) (λj3 h=>?_);refine aW<|fa Y Y<|lV Y Y Y<|mv Y<|bE h λPG wY h=>?_;cases bu;obtain rfl:=O (F wY);exact ww<|ww<|ww<|pF Y<|dn<|⟨(false,false),h,wR []⟩
 refine gm Y<|lE (V wY) λiQ nP wY=>gn Y nP<|lE wY λmu vI wY=>gg _ Y Y vI ?_;obtain rfl:=O wY;exact pT Y<|dn<|⟨(mu,true),h,wR []⟩;obtain⟨KN,tB⟩:=j3
 try dsimp only
 refine aV.n ?_;refine bB h (λj5=>AS.cu 50 [(2,.ptr 2 0),(3,.ptr 3 0),(4,.ptr 4 0),(5,.ptr 5 0),(9,.sv (slc 1 (List.map bG j5.1))),(10,.sv (slc 1 (List.map bG j5.2)))] [(5,⟨34,[aj false,.sv ax]⟩),(4,⟨34,[aj false,.sv ax]⟩),(3,⟨34,[aj cc,.sv (slc 1 (List.map aY bX))]⟩),(2,⟨34,[aj tB,.sv (slc 1 (List.map aY bt))]⟩)] []) (λh=>?_) (λj5 h=>?_);cases KN;exact fs<|⟨(yO,BT),(F h),wR []⟩;exact cT<|sr<|mv Y<|bl (l:=[1]) (e:=bG) (.one Y (.nil)) Y Y Y Y Y Y<|bE (V h) λxz Fz h=>cl (Ci Fz) ⟨Y,Y,aq⟩<|ag Y<|dn<|aW<|mv Y<|mv Y<|bE h λkU rA h=>cl (uW rA) ⟨Y,Y,aq⟩<|ag Y<|dn<|⟨(xz,kU),h,wR []⟩;obtain⟨JN,DB⟩:=j5
 try dsimp only
 refine aV.n<|sr<|fa Y Y<|lV Y Y Y<|fa Y Y<|lV Y Y Y<|lE h λES MP h=>RT.Ma .none _ Y Y T MP<|mv Y ?_;obtain⟨⟨Dy,Dz⟩,yQ,h⟩:=bS h;refine cl (jx yQ) ⟨Y,Y,aq⟩<|mv Y ?_;obtain⟨⟨DC,DD⟩,MQ,h⟩:=bS h;refine cl (jx MQ) ⟨Y,Y,aq⟩<|so Y Y Y<|so Y Y Y<|ag Y<|dn<|bf ?_;obtain rfl:=O h;exact RZ (.agg Y Y (.k2 Y Y) Y (.agg Y Y (.k2 Y Y) Y (.tmp Y (.nil))));refine cT<|sr<|bI (cs:=[_,_]) (cs':=[az false,ax]) (.nil) ⟨au,aB,aq⟩<|bI (cs:=[_,_]) (cs':=[az false,ax]) (.nil) ⟨au,aB,aq⟩<|so Y Y Y<|so Y Y Y<|ag Y<|dn<|bf<|aV.r ?_;obtain rfl:=O (V h);exact RZ (.agg Y Y (.k2 Y Y) Y (.agg Y Y (.k2 Y Y) Y (.tmp Y (.nil))))
theorem Cp{x0:Zr}{x1:Zr}{r:Zr}(h:lC x0 x1=some r):Pure ah 134 [.agg (eZ x0),.agg (eZ x1)] (.agg (eZ r)):=by
 obtain⟨bu,bt⟩:=x0;obtain⟨cc,bX⟩:=x1;refine aZ Tryz.func134 Y (af Y) (λdy M vs hvs=>?_);unfold lC at h;refine sr<|bx Y<|bx Y<|al (cs:=[az false,ax]) (by exact⟨au,aB,aq⟩) Y<|dn<|qq<|bh mixed<|fa Y Y<|lV Y Y Y<|bE h λfV l6 h=>cl (cW l6) ⟨Y,aq⟩<|fa Y Y<|lV Y Y Y<|bE h λeK jC h=>cl (cW jC) ⟨Y,aq⟩<|ag Y<|ag Y ?_;refine RT.done ⟨by kernel_rfl,?_⟩;refine aV.n<|qq<|bE h λe6 Au jt=>?_;refine bJ (λ(rW:(List Int))=>AS.cu 28 [(4,.ptr 4 0),(5,.sv (slc 1 (List.map bG rW)))] [(4,⟨34,[aj false,.sv ax]⟩)] []) (λrW=>rW=e6) ?_ (λrW Av=>?_);refine bj ?_;refine bK Au (λs6=>AS.cu 28 [(4,.ptr 4 0),(5,.sv (slc 1 (List.map bG s6.1))),(6,.sv (slc 1 (List.map bG s6.2)))] [(4,⟨34,[aj false,.sv ax]⟩)] []) (wR []) (λs6 y6 G6 h Aw v8=>?_);obtain⟨lO,pN⟩:=s6
 try dsimp only
 refine qq<|sr<|mv Y<|lE h λfo iW h=>ln Y iW<|lE h λfm k8 h=>gt _ Y Y k8<|dn ?_;cases fm;refine cF<|bP<|aV.x<|aV.x<|bw.x<|aV.n ?_;obtain rfl:=O (F h);exact⟨lO,v8 _ Y,wR []⟩;refine cT<|bp<|aV.n<|bj<|sr<|mv Y<|mv Y ?_;obtain⟨⟨ZW,RN⟩,nf,h⟩:=bS (V h);refine cl (uX nf) ⟨Y,Y,aq⟩<|mv Y<|ex Y Y<|ex Y Y<|ag Y<|ag Y<|dn<|aW<|mv Y<|mv Y<|ag Y<|ag Y<|RT.done<|bw.n ?_;obtain rfl:=O h;exact aV.n ⟨(pN,RN),Aw _ Y,wR []⟩;subst Av
 try dsimp only
 refine aV.n<|sr<|mv Y ?_;obtain⟨⟨uI,sn⟩,m9,jt⟩:=bS jt;refine cl (jx m9) ⟨Y,Y,aq⟩<|so Y Y Y<|dn<|bf ?_;obtain rfl:=O jt;exact RZ (.agg Y Y (.k2 Y Y) Y (.nil))
end
section
open Go.Fw
noncomputable def jy:Option (Zr):=(fK 1).bind λ⟨cc,bX⟩=>some ⟨cc,bX⟩
noncomputable def lD(x0:Qr):Option (Zr):=match x0 with|⟨⟨bu,bt⟩,⟨bH,bT⟩⟩=>(dH ⟨bH,bT⟩).bind λx5=>(some (decide ((x5:Int)=0))).bind λx6=>(bif x6 then(jy).bind λ⟨tu,tw⟩=>some ⟨tu,tw⟩else(lB ⟨bH,bT⟩).bind λ⟨qi,qj⟩=>some ⟨qi,qj⟩)
noncomputable def lF(x0:Qr):Option (Zr):=match x0 with|⟨⟨bu,bt⟩,⟨bH,bT⟩⟩=>(dH ⟨bH,bT⟩).bind λx5=>(some (decide ((x5:Int)<0))).bind λx6=>(bif x6 then(lz ⟨bu,bt⟩).bind λ⟨KL,KM⟩=>some ⟨KL,KM⟩else(fN ⟨bu,bt⟩).bind λ⟨ia,gU⟩=>some ⟨ia,gU⟩)
noncomputable def jP(x0:Zr)(x1:Zr):Option (Qr):=match x0 with|⟨bu,bt⟩=>match x1 with|⟨cc,bX⟩=>(lC ⟨bu,bt⟩ ⟨cc,bX⟩).bind λ⟨yW,yX⟩=>(jw ⟨bu,bt⟩ ⟨yW,yX⟩).bind λ⟨⟨gL,gM⟩,⟨jI,jJ⟩,aaj⟩=>(jw ⟨cc,bX⟩ ⟨yW,yX⟩).bind λ⟨⟨Cq,Cr⟩,⟨RQ,RR⟩,aak⟩=>(jy).bind λ⟨uJ,uK⟩=>(lu ⟨Cq,Cr⟩ ⟨uJ,uK⟩).bind λpA=>(some (decide ((pA:Int)=0))).bind λiQ=>(bif iQ then some ⟨⟨gL,gM⟩,⟨false,[]⟩⟩else some ⟨⟨gL,gM⟩,⟨Cq,Cr⟩⟩)
noncomputable def iY(x0:Qr):Option (Qr):=match x0 with|⟨⟨bu,bt⟩,⟨bH,bT⟩⟩=>(lF ⟨⟨bu,bt⟩,⟨bH,bT⟩⟩).bind λ⟨AB,AD⟩=>(lD ⟨⟨bu,bt⟩,⟨bH,bT⟩⟩).bind λ⟨xG,xH⟩=>(jP ⟨AB,AD⟩ ⟨xG,xH⟩).bind λ⟨⟨tu,tw⟩,⟨Cs,Ct⟩⟩=>some ⟨⟨tu,tw⟩,⟨Cs,Ct⟩⟩
noncomputable def lG(x0:Int):Option (Qr):=(fK x0).bind λ⟨AB,AD⟩=>some ⟨⟨AB,AD⟩,⟨false,[]⟩⟩
noncomputable def mO(x0:Int)(x1:Int):Option (Qr):=(fK x0).bind λ⟨xG,xH⟩=>(fK x1).bind λ⟨qC,qD⟩=>(iY ⟨⟨xG,xH⟩,⟨qC,qD⟩⟩).bind λ⟨⟨qi,qj⟩,⟨DT,DU⟩⟩=>some ⟨⟨qi,qj⟩,⟨DT,DU⟩⟩
end
section
open Go.Fw Go.Fw.Z Go.RowKit
theorem uZ{r:Zr}(h:jy=some r):Pure ah 137 [] (.agg (eZ r)):=by
 refine aZ Tryz.func137 Y (af Y) (λdy M vs hvs=>?_);unfold jy at h;refine sr<|al (cs:=[az false,ax]) (by exact⟨au,aB,aq⟩) Y<|dn<|sr ?_;obtain⟨⟨cc,bX⟩,h1,h⟩:=bS h;refine cl (kN h1) ⟨Y,aq⟩<|so Y Y Y<|dn<|bf ?_;obtain rfl:=O h;exact RZ (.agg Y Y (.k2 Y Y) Y (.nil))
theorem Cu{x0:Qr}{r:Zr}(h:lD x0=some r):Pure ah 109 [.agg (eQ x0)] (.agg (eZ r)):=by
 obtain⟨⟨bu,bt⟩,⟨bH,bT⟩⟩:=x0;refine aZ Tryz.func109 Y (af Y) (λdy M vs hvs=>?_);unfold lD at h;refine sr<|bx Y<|al (cs:=[az false,ax]) (by exact⟨au,aB,aq⟩) Y<|dn<|qq<|sr<|fa Y Y<|ld Y Y (.k2 Y Y)<|bE h λx5 h5 h=>cl (fO h5) ⟨Y,aq⟩<|lE h λx6 h6 h=>eq _ Y Y (xy (p:=x5) (q:=0) h6)<|dn ?_;cases x6;refine fs<|sr<|fa Y Y<|ld Y Y (.k2 Y Y) ?_;obtain⟨⟨qi,qj⟩,gD,h⟩:=bS (F h);refine cl (Co gD) ⟨Y,aq⟩<|so Y Y Y<|dn<|bf ?_;obtain rfl:=O h;exact RZ (.agg Y Y (.k2 Y Y) Y (.nil));refine cT<|sr ?_;obtain⟨⟨tu,tw⟩,h7,h⟩:=bS (V h);refine cl (uZ h7) trivial<|so Y Y Y<|dn<|bf<|aV.r ?_;obtain rfl:=O h;exact RZ (.agg Y Y (.k2 Y Y) Y (.nil))
theorem Cv{x0:Qr}{r:Zr}(h:lF x0=some r):Pure ah 108 [.agg (eQ x0)] (.agg (eZ r)):=by
 obtain⟨⟨bu,bt⟩,⟨bH,bT⟩⟩:=x0;refine aZ Tryz.func108 Y (af Y) (λdy M vs hvs=>?_);unfold lF at h;refine sr<|bx Y<|al (cs:=[az false,ax]) (by exact⟨au,aB,aq⟩) Y<|dn<|qq<|sr<|fa Y Y<|ld Y Y (.k2 Y Y)<|bE h λx5 h5 h=>cl (fO h5) ⟨Y,aq⟩<|lE h λx6 h6 h=>ls _ Y Y h6<|dn ?_;cases x6;refine fs<|sr<|fa Y Y<|ld Y Y (.k2 Y Y) ?_;obtain⟨⟨ia,gU⟩,fU,h⟩:=bS (F h);refine cl (qM fU) ⟨Y,aq⟩<|so Y Y Y<|dn<|bf ?_;obtain rfl:=O h;exact RZ (.agg Y Y (.k2 Y Y) Y (.nil));refine cT<|sr<|fa Y Y<|ld Y Y (.k2 Y Y) ?_;obtain⟨⟨KL,KM⟩,h9,h⟩:=bS (V h);refine cl (Cn h9) ⟨Y,aq⟩<|so Y Y Y<|dn<|bf<|aV.r ?_;obtain rfl:=O h;exact RZ (.agg Y Y (.k2 Y Y) Y (.nil))
theorem AF{x0:Zr}{x1:Zr}{r:Qr}(h:jP x0 x1=some r):Pure ah 106 [.agg (eZ x0),.agg (eZ x1)] (.agg (eQ r)):=by
 obtain⟨bu,bt⟩:=x0;obtain⟨cc,bX⟩:=x1;refine aZ Tryz.func106 Y (af Y) (λdy M vs hvs=>?_);unfold jP at h;refine sr<|bx Y<|bx Y<|al (cs:=[az false,ax,az false,ax]) (by exact⟨au,aB,au,aB,aq⟩) Y<|dn<|sr<|ld Y Y (.k2 Y Y)<|ld Y Y (.k2 Y Y) ?_;obtain⟨⟨yW,yX⟩,jC,h⟩:=bS h;refine cl (Cp jC) ⟨Y,Y,aq⟩<|al (cs:=[az false,ax]) (by exact⟨au,aB,aq⟩) Y<|so Y Y Y<|dn<|sr<|ld Y Y (.k2 Y Y)<|ld Y Y (.k2 Y Y) ?_;obtain⟨⟨⟨gL,gM⟩,⟨jI,jJ⟩,aaj⟩,j0,h⟩:=bS h;refine cl (uY j0) ⟨Y,Y,aq⟩<|mv Y<|ex Y Y<|ex Y Y<|ex Y Y<|al (cs:=[az false,ax]) (by exact⟨au,aB,aq⟩) Y<|al (cs:=[az false,ax]) (by exact⟨au,aB,aq⟩) Y<|so Y Y Y<|so Y Y Y<|ag Y<|dn<|sr<|ld Y Y (.k2 Y Y) ?_;refine ld Y Y (.k2 Y Y) ?_;obtain⟨⟨⟨Cq,Cr⟩,⟨RQ,RR⟩,aak⟩,oS,h⟩:=bS h;refine cl (uY oS) ⟨Y,Y,aq⟩<|mv Y<|ex Y Y<|ex Y Y<|ex Y Y<|al (cs:=[az false,ax]) (by exact⟨au,aB,aq⟩) Y<|al (cs:=[az false,ax]) (by exact⟨au,aB,aq⟩) Y<|so Y Y Y<|so Y Y Y<|ag Y<|dn<|qq<|qq<|bh mixed<|ld Y Y (.k2 Y Y) ?_;obtain⟨⟨uJ,uK⟩,Ax,h⟩:=bS h;refine cl (uZ Ax) trivial<|bE h λpA xS h=>cl (Cm xS) ⟨Y,Y,aq⟩<|lE h λiQ nP h=>eq _ Y Y (xy (p:=pA) (q:=0) nP) ?_;refine RT.done ⟨by kernel_rfl,?_⟩;refine aV.n ?_;cases iQ
 refine fs<|sr<|ld Y Y (.k2 Y Y)<|ld Y Y (.k2 Y Y)<|bI (cs:=[_,_,_,_]) (cs':=[az gL,slc 1 (List.map aY gM),az Cq,slc 1 (List.map aY Cr)]) (.agg Y (.agg Y (.nil))) ⟨au,au,au,au,aq⟩<|so Y Y Y<|dn<|bf ?_;obtain rfl:=O (F h);exact RZ (.agg Y Y (.k4 Y Y Y Y) Y (.nil));refine cT<|sr<|ld Y Y (.k2 Y Y)<|bI (cs:=[_,_,_,_]) (cs':=[az gL,slc 1 (List.map aY gM),az false,ax]) (.agg Y (.nil)) ⟨au,au,au,aB,aq⟩<|so Y Y Y<|dn<|bf<|aV.r ?_;obtain rfl:=O (V h);exact RZ (.agg Y Y (.k4 Y Y Y Y) Y (.nil))
theorem zF{x0:Qr}{r:Qr}(h:iY x0=some r):Pure ah 76 [.agg (eQ x0)] (.agg (eQ r)):=by
 obtain⟨⟨bu,bt⟩,⟨bH,bT⟩⟩:=x0;refine aZ Tryz.func76 Y (af Y) (λdy M vs hvs=>?_);unfold iY at h;refine sr<|bx Y<|al (cs:=[az false,ax,az false,ax]) (by exact⟨au,aB,au,aB,aq⟩) Y<|dn<|qq<|bh mixed<|ld Y Y (.k4 Y Y Y Y) ?_;obtain⟨⟨AB,AD⟩,h4,h⟩:=bS h;refine cl (Cv h4) ⟨Y,aq⟩<|ld Y Y (.k4 Y Y Y Y) ?_;obtain⟨⟨xG,xH⟩,h6,h⟩:=bS h;refine cl (Cu h6) ⟨Y,aq⟩ ?_;obtain⟨⟨⟨tu,tw⟩,⟨Cs,Ct⟩⟩,h7,h⟩:=bS h;refine cl (AF h7) ⟨Y,Y,aq⟩<|so Y Y Y ?_;refine RT.done ⟨by kernel_rfl,?_⟩;refine aV.n<|bf ?_;obtain rfl:=O h;exact RZ (.agg Y Y (.k4 Y Y Y Y) Y (.nil))
theorem Cw{x0:Int}{r:Qr}(h:lG x0=some r):Pure ah 13 [ay x0] (.agg (eQ r)):=by
 refine aZ Tryz.func13 Y (af Y) (λdy M vs hvs=>?_);unfold lG at h;refine sr<|al (cs:=[az false,ax,az false,ax]) (by exact⟨au,aB,au,aB,aq⟩) Y<|dn<|sr<|mv Y ?_;obtain⟨⟨AB,AD⟩,h4,h⟩:=bS h;refine cl (kN h4) ⟨Y,aq⟩<|bI (cs:=[_,_,_,_]) (cs':=[az AB,slc 1 (List.map aY AD),az false,ax]) (.agg Y (.nil)) ⟨au,au,au,aB,aq⟩<|so Y Y Y<|dn<|bf ?_;obtain rfl:=O h;exact RZ (.agg Y Y (.k4 Y Y Y Y) Y (.nil))
theorem D9{x0:Int}{x1:Int}{r:Qr}(h:mO x0 x1=some r):Pure ah 43 [ay x0,ay x1] (.agg (eQ r)):=by
 refine aZ Tryz.func43 Y (af Y) (λdy M vs hvs=>?_);unfold mO at h;refine sr<|al (cs:=[az false,ax,az false,ax]) (by exact⟨au,aB,au,aB,aq⟩) Y<|dn<|sr<|mv Y ?_;obtain⟨⟨xG,xH⟩,h6,h⟩:=bS h;refine cl (kN h6) ⟨Y,aq⟩<|mv Y ?_;obtain⟨⟨qC,qD⟩,h8,h⟩:=bS h;refine cl (kN h8) ⟨Y,aq⟩<|bI (cs:=[_,_,_,_]) (cs':=[az xG,slc 1 (List.map aY xH),az qC,slc 1 (List.map aY qD)]) (.agg Y (.agg Y (.nil))) ⟨au,au,au,au,aq⟩ ?_;obtain⟨⟨⟨qi,qj⟩,⟨DT,DU⟩⟩,gD,h⟩:=bS h;refine cl (zF gD) ⟨Y,aq⟩<|so Y Y Y<|dn<|bf ?_;obtain rfl:=O h;exact RZ (.agg Y Y (.k4 Y Y Y Y) Y (.nil))
end
section
open Go.Fw
noncomputable def jQ(x0:List (List Qr)):Option (Int):=(cf (λ(s6:Int×Int)=>match s6 with|⟨lj,tO⟩=>(show Option ((Int×Int)⊕(Int))from(some (x0.length:Int)).bind λx7=>(some (decide ((tO:Int)<x7))).bind λx8=>(bif x8 then(cX x0 tO).bind λeK=>(some (eK.length:Int)).bind λfo=>(some (max (lj:Int) fo)).bind λfm=>(some (IntKind.i64.wrap (tO+1))).bind λec=>some (.inl (fm,ec))else some (.inr lj)))) (0,0)).bind λog=>some og
end
section
open Go.Fw Go.Fw.Z Go.RowKit
theorem AG{x0:List (List Qr)}{r:Int}(h:jQ x0=some r):Pure ah 86 [slc 1 (List.map (eS 4 eQ) x0)] (ay r):=by
 refine aZ Tryz.func86 Y (af Y) (λdy M vs hvs=>?_);unfold jQ at h;refine sr<|ag Y<|dn<|sr<|ag Y<|dn<|qq<|sr<|ag Y<|dn<|bE h λe6 Au jt=>?_;refine bJ (λ(og:Int)=>AS.cu 19 [(3,ai og)] [] []) (λog=>og=e6) ?_ (λog Av=>?_);refine bj ?_;refine bK Au (λs6=>AS.cu 19 [(0,.sv (slc 1 (List.map (eS 4 eQ) x0))),(3,ai s6.1),(4,ai s6.2)] [] []) (wR []) (λs6 y6 G6 h Aw v8=>?_);obtain⟨lj,tO⟩:=s6
 try dsimp only
 refine qq<|sr<|mv Y<|mv Y<|lE h λx7 h7 h=>ln Y h7<|lE h λx8 h8 h=>ls _ Y Y h8<|dn ?_;cases x8;refine cF<|bP<|aV.x<|aV.x<|bw.x<|aV.n ?_;obtain rfl:=O (F h);exact⟨lj,v8 _ Y,wR []⟩;refine cT<|bp<|aV.n<|qq<|bj<|aW<|mv Y<|mv Y<|mv Y<|bE (V h) λeK jC h=>ix Y Y jC<|lr Y Y<|lE h λfo iW h=>ln Y iW<|lE h λfm k8 h=>RT.max .none _ Y Y T (Mw (p:=lj) (q:=fo) k8)<|ag Y<|RT.done<|bw.n<|aV.n<|aW<|mv Y<|lE h λec gD h=>ad _ Y Y gD<|ag Y<|RT.done ?_;obtain rfl:=O h;exact aV.n ⟨(fm,ec),Aw _ Y,wR []⟩;subst Av
 try dsimp only
 refine aV.n<|sr<|mv Y<|ag Y<|dn<|bf ?_;obtain rfl:=O jt;exact R1 Y
end
section
open Go.Fw
noncomputable def jR(x0:List Zr):Option (Bool):=(cf (λ(lj:Int)=>(show Option ((Int)⊕((Unit)⊕(Bool)))from(some (x0.length:Int)).bind λx6=>(some (decide ((lj:Int)<x6))).bind λx7=>(bif x7 then(cX x0 lj).bind λ⟨ia,gU⟩=>(some (gU.length:Int)).bind λdS=>(some (decide ((12:Int)<dS))).bind λfo=>(bif fo then some (.inr (.inr true))else(some (IntKind.i64.wrap (lj+1))).bind λx9=>some (.inl x9))else some (.inr (.inl ()))))) 0).bind λe6=>match e6 with|.inr v6=>some v6|.inl _=>some false
end
section
open Go.Fw Go.Fw.Z Go.RowKit
theorem AH{x0:List Zr}{r:Bool}(h:jR x0=some r):Pure ah 68 [slc 2 (List.map eZ x0)] (az r):=by
 refine aZ Tryz.func68 Y (af Y) (λdy M vs hvs=>?_);unfold jR at h;refine sr<|ag Y<|dn<|qq<|sr<|ag Y<|dn<|bE h λe6 Au jt=>?_;refine bJ (λ(Fx:Unit)=>AS.cu 17 [] [] []) (λFx=>.inl Fx=e6) ?_ (λFx Av=>?_);refine bj ?_;refine bK Au (λs6=>AS.cu 17 [(0,.sv (slc 2 (List.map eZ x0))),(3,ai s6)] [] []) (wR []) (λlj y6 G6 h Aw v8=>?_)
 try dsimp only
 refine qq<|sr<|mv Y<|mv Y<|lE h λx6 h6 h=>ln Y h6<|lE h λx7 h7 h=>ls _ Y Y h7<|dn ?_;cases x7;refine cF<|bP<|aV.x<|aV.x<|bw.x<|aV.n ?_;obtain rfl:=O (F h);exact⟨(),v8 _ Y,wR []⟩;refine cT<|bp<|aV.n<|qq<|bj<|sr<|mv Y<|mv Y ?_;obtain⟨⟨ia,gU⟩,fU,h⟩:=bS (V h);refine ix Y Y fU<|RT.ff .none Y T Y<|lr Y Y<|lE h λdS iV h=>ln Y iV<|lE h λfo iW h=>gt _ Y Y iW<|dn ?_;cases fo;refine cF<|bp<|bw.n<|aV.n<|aW<|mv Y<|lE (F h) λx9 h9 h=>ad _ Y Y h9<|ag Y<|RT.done ?_;obtain rfl:=O h;exact aV.n ⟨x9,Aw _ Y,wR []⟩;refine cT<|sr<|ag Y<|dn<|bf<|bw.r<|aV.r ?_;obtain rfl:=O (V h);have JV:=v8 _ Y;subst JV;refine aV.r<|bw.r<|aV.r<|aV.r ?_;obtain rfl:=O jt;exact R1 Y;subst Av
 try dsimp only
 refine aV.n<|sr<|ag Y<|dn<|bf ?_;obtain rfl:=O jt;exact R1 Y
end
section
open Go.Fw
noncomputable def jS(x0:List Qr):Option (Bool):=(cf (λ(rX:Int)=>(show Option ((Int)⊕((Unit)⊕(Bool)))from(some (x0.length:Int)).bind λx6=>(some (decide ((rX:Int)<x6))).bind λx7=>(bif x7 then cj (λ(FY:Bool)=>(bif FY then some (.inr (.inr true))else(some (IntKind.i64.wrap (rX+1))).bind λx9=>some (.inl x9))) λUR=>(cX x0 rX).bind λ⟨⟨ia,gU⟩,⟨GS,GU⟩⟩=>(cX x0 rX).bind λ⟨⟨nB,nC⟩,⟨pG,pH⟩⟩=>(jR [⟨ia,gU⟩,⟨pG,pH⟩]).bind λgG=>(bif gG then some true else(cX x0 rX).bind λ⟨⟨pB,n6⟩,⟨Ea,Eb⟩⟩=>(some (n6.length:Int)).bind λij=>(some (decide ((6:Int)<ij))).bind λvX=>some vX).bind λKR=>(bif KR then some true else(cX x0 rX).bind λ⟨⟨UZ,U0⟩,⟨U1,PI⟩⟩=>(some (PI.length:Int)).bind λpL=>(some (decide ((6:Int)<pL))).bind λkU=>some kU).bind λRU=>UR RU else some (.inr (.inl ()))))) 0).bind λM1=>match M1 with|.inr ni=>some ni|.inl _=>some false
end
section
open Go.Fw Go.Fw.Z Go.RowKit
theorem AI{x0:List Qr}{r:Bool}(h:jS x0=some r):Pure ah 24 [slc 4 (List.map eQ x0)] (az r):=by
 refine aZ Tryz.func24 Y (af Y) (λdy M vs hvs=>?_);unfold jS at h;refine sr<|ag Y<|dn<|qq<|sr<|ag Y<|dn<|bE h λM1 FW Cj=>?_;refine bJ (λ(FZ:Unit)=>AS.cu 42 [] [] []) (λFZ=>.inl FZ=M1) ?_ (λFZ Ck=>?_);refine bj ?_;refine bK FW (λKD=>AS.cu 42 [(0,.sv (slc 4 (List.map eQ x0))),(3,ai KD)] [] []) (wR []) (λrX y16 G16 h KO FX=>?_)
 try dsimp only
 refine qq<|sr<|mv Y<|mv Y<|lE h λx6 h6 h=>ln Y h6<|lE h λx7 h7 h=>ls _ Y Y h7<|dn ?_;cases x7;refine cF<|bP<|aV.x<|aV.x<|bw.x<|aV.n ?_;obtain rfl:=O (F h);exact⟨(),FX _ Y,wR []⟩;refine cT<|bp<|aV.n<|qq<|bj<|qq ?_;refine bB (V h) (λUW=>AS.cu 42 [(0,.sv (slc 4 (List.map eQ x0))),(3,ai rX),(41,aj UW)] [] []) (λh=>?_) (λFY h=>?_);refine bh mixed<|mv Y<|mv Y ?_;obtain⟨⟨⟨ia,gU⟩,⟨GS,GU⟩⟩,fU,h⟩:=bS h;refine ix Y Y fU<|RT.ff .none Y T Y<|RT.nu (cs:=[_,_]) .none Y T Y Y<|mv Y<|mv Y ?_;obtain⟨⟨⟨nB,nC⟩,⟨pG,pH⟩⟩,k8,h⟩:=bS h;refine ix Y Y k8<|RT.ff .none Y T Y<|RT.nu (cs:=[_,_]) .none Y T Y Y<|bl (l:=[⟨ia,gU⟩,⟨pG,pH⟩]) (e:=eZ) (.agg Y (.agg Y (.nil))) Y Y Y Y Y Y<|bE h λgG nf h=>cl (AH nf) ⟨Y,aq⟩<|mv Y<|bE h λKR lp h=>?_;cases gG;refine gm Y<|gm Y ?_;obtain⟨⟨⟨pB,n6⟩,⟨Ea,Eb⟩⟩,oS,lp⟩:=bS (F lp);refine RT.Om (.some Y Y) Y Y T oS<|RT.ff (.some Y Y) Y T Y<|RT.ff (.some Y Y) Y T Y<|gr Y Y<|lE lp λij m8 lp=>gn Y m8<|lE lp λvX Ax lp=>gg _ Y Y Ax ?_;obtain rfl:=O lp;refine pF Y<|mv Y<|bE h λaal nh h=>?_;cases vX;refine gm Y<|gm Y ?_;obtain⟨⟨⟨UZ,U0⟩,⟨U1,PI⟩⟩,BY,nh⟩:=bS (F nh)
 refine RT.Om (.some Y Y) Y Y T BY<|RT.ff (.some Y Y) Y T Y<|RT.ff (.some Y Y) Y T Y<|gr Y Y<|lE nh λpL DG nh=>gn Y DG<|lE nh λkU rA nh=>gg _ Y Y rA ?_;obtain rfl:=O nh;refine pF Y ?_;refine RT.done ⟨by kernel_rfl,?_⟩;exact aV.n<|⟨kU,h,wR []⟩;obtain rfl:=O (V nh);refine ww<|ww<|ww<|ww<|ww<|ww<|ww<|ww<|pT Y ?_;refine RT.done ⟨by kernel_rfl,?_⟩;exact aV.n<|⟨true,h,wR []⟩;obtain rfl:=O (V lp);refine ww<|ww<|ww<|ww<|ww<|ww<|ww<|ww<|pT Y<|mv Y<|bE h λaam KP h=>?_;obtain rfl:=O (V KP);refine ww<|ww<|ww<|ww<|ww<|ww<|ww<|ww<|pT Y ?_;refine RT.done ⟨by kernel_rfl,?_⟩;exact aV.n<|⟨true,h,wR []⟩
 try dsimp only
 refine aV.n ?_;cases FY;refine cF<|bp<|bw.n<|aV.n<|aW<|mv Y<|lE (F h) λx9 h9 h=>ad _ Y Y h9<|ag Y<|RT.done ?_;obtain rfl:=O h;exact aV.n ⟨x9,KO _ Y,wR []⟩;refine cT<|sr<|ag Y<|dn<|bf<|bw.r<|aV.r ?_;obtain rfl:=O (V h);have RV:=FX _ Y;subst RV;refine aV.r<|bw.r<|aV.r<|aV.r ?_;obtain rfl:=O Cj;exact R1 Y;subst Ck
 try dsimp only
 refine aV.n<|sr<|ag Y<|dn<|bf ?_;obtain rfl:=O Cj;exact R1 Y
end
section
open Go.Fw
noncomputable def gQ(x0:List (List Qr)):Option (Bool):=(cf (λ(uU:Int)=>(show Option ((Int)⊕((Unit)⊕(Bool)))from(some (x0.length:Int)).bind λx6=>(some (decide ((uU:Int)<x6))).bind λx7=>(bif x7 then cj (λ(F0:Bool)=>(bif F0 then some (.inr (.inr true))else(some (IntKind.i64.wrap (uU+1))).bind λx9=>some (.inl x9))) λJB=>(cX x0 uU).bind λdw=>(some (dw.length:Int)).bind λeK=>(some (decide ((20:Int)<eK))).bind λdS=>(bif dS then some true else(cX x0 uU).bind λkq=>(jS kq).bind λgG=>some gG).bind λKS=>JB KS else some (.inr (.inl ()))))) 0).bind λJS=>match JS with|.inr v10=>some v10|.inl _=>some false
noncomputable def iM(x0:List (List (List Qr))):Option (Bool):=(cf (λ(rX:Int)=>(show Option ((Int)⊕((Unit)⊕(Bool)))from(some (x0.length:Int)).bind λx6=>(some (decide ((rX:Int)<x6))).bind λx7=>(bif x7 then cj (λ(F1:Bool)=>(bif F1 then some (.inr (.inr true))else(some (IntKind.i64.wrap (rX+1))).bind λx9=>some (.inl x9))) λUR=>(cX x0 rX).bind λdw=>(some (dw.length:Int)).bind λeK=>(some (decide ((8:Int)<eK))).bind λdS=>(bif dS then some true else(cX x0 rX).bind λkq=>(jQ kq).bind λgG=>(some (decide ((8:Int)<gG))).bind λiP=>some iP).bind λKT=>(bif KT then some true else(cX x0 rX).bind λgy=>(gQ gy).bind λij=>some ij).bind λRW=>UR RW else some (.inr (.inl ()))))) 0).bind λM1=>match M1 with|.inr ni=>some ni|.inl _=>some false
noncomputable def kO:Option (Lr):=(ek [[3,5]]).bind λx3=>(ek [[1,0],[0,2],[3,2]]).bind λx8=>(cU [4,12,18]).bind λec=>some ⟨2,x3,x8,ec⟩
noncomputable def eV:Option (Bool):=(kO).bind λ⟨tu,tw,Cs,Ct⟩=>(iK ⟨tu,tw,Cs,Ct⟩).bind λ⟨⟨Cx,Cy,Cz,CA⟩,Ih⟩=>(ek [[(-4),(-12),(-18)]]).bind λdS=>(ek [[(-1),0,(-3)],[0,(-2),(-2)]]).bind λkq=>(cU [(-3),(-5)]).bind λgG=>(cU [2,6]).bind λic=>(mO 3 2).bind λ⟨⟨sF,sG⟩,⟨sH,sI⟩⟩=>(lG 1).bind λ⟨⟨uI,sn⟩,⟨G1,G2⟩⟩=>cj (λ(PJ:Bool)=>some PJ) λK36=>(iB ⟨tu,tw,Cs,Ct⟩).bind λvX=>(bif vX then(dY ⟨tu,tw,Cs,Ct⟩ ic).bind λm7=>some m7 else some false).bind λKU=>(bif KU then(eR ⟨tu,tw,Cs,Ct⟩ ic).bind λpL=>(cU [36]).bind λxP=>(ej pL xP).bind λqa=>some qa else some false).bind λRX=>(bif RX then(mL ⟨tu,tw,Cs,Ct⟩ ic).bind λuc=>(cU [2,0,0]).bind λMI=>(ej uc MI).bind λAa=>some Aa else some false).bind λRY=>(bif RY then(some (decide ((Ih:Int)=0))).bind λAt=>some At else some false).bind λKV=>(bif KV then(mM ⟨Cx,Cy,Cz,CA⟩ ⟨3,dS,kq,gG⟩).bind λJD=>some JD else some false).bind λR3=>(bif R3 then(dY ⟨Cx,Cy,Cz,CA⟩ [⟨⟨false,[]⟩,⟨false,[]⟩⟩,⟨⟨sF,sG⟩,⟨sH,sI⟩⟩,⟨⟨uI,sn⟩,⟨G1,G2⟩⟩]).bind λR4=>some R4 else some false).bind λR5=>(bif R5 then(eR ⟨Cx,Cy,Cz,CA⟩ [⟨⟨false,[]⟩,⟨false,[]⟩⟩,⟨⟨sF,sG⟩,⟨sH,sI⟩⟩,⟨⟨uI,sn⟩,⟨G1,G2⟩⟩]).bind λS4=>(cU [(-36)]).bind λUS=>(ej S4 US).bind λGQ=>some GQ else some false).bind λR6=>K36 R6
noncomputable def jT(x0:List (List Qr)):Option (Bool):=(cf (λ(lj:Int)=>(show Option ((Int)⊕((Unit)⊕(Bool)))from(some (x0.length:Int)).bind λx6=>(some (decide ((lj:Int)<x6))).bind λx7=>(bif x7 then(cX x0 lj).bind λdw=>(some (dw.length:Int)).bind λeK=>(some (decide ((0:Int)<eK))).bind λdS=>(bif dS then some (.inr (.inr false))else(some (IntKind.i64.wrap (lj+1))).bind λx9=>some (.inl x9))else some (.inr (.inl ()))))) 0).bind λe6=>match e6 with|.inr v6=>some v6|.inl _=>some true
noncomputable def lH(x0:List Qr):Option (List Qr):=(some (x0.length:Int)).bind λx5=>(some (min (x5:Int) 20)).bind λx6=>(xx x0 0 x6).bind λx7=>some x7
noncomputable def jU(x0:Lr):Option (Bool):=match x0 with|⟨bu,bt,bH,bT⟩=>cj (λ(PK:Bool)=>some PK) λK59=>(some (bt.length:Int)).bind λx5=>(some (decide ((6:Int)<x5))).bind λx6=>(bif x6 then some true else(some (bH.length:Int)).bind λec=>(some (decide ((140:Int)<ec))).bind λfV=>some fV).bind λKW=>(bif KW then some true else(some (bT.length:Int)).bind λfo=>(some (decide ((140:Int)<fo))).bind λfm=>some fm).bind λM3=>(bif M3 then some true else(some (bH.length:Int)).bind λiP=>(some (decide ((8:Int)<iP))).bind λiI=>(bif iI then(jT bH).bind λgy=>(some (!gy)).bind λkW=>some kW else some false).bind λM4=>some M4).bind λM5=>(bif M5 then some true else(some (bH.length:Int)).bind λm7=>(some (decide ((m7:Int)<=8))).bind λvG=>(bif vG then(iM [bH]).bind λkU=>some kU else some false).bind λM6=>some M6).bind λM7=>(bif M7 then some true else(iM [bt]).bind λuc=>some uc).bind λM8=>(bif M8 then some true else(lH bT).bind λAo=>(gQ [Ao]).bind λAt=>some At).bind λM9=>K59 M9
noncomputable def iN(x0:Lr)(x1:List Qr):Option (Lr×(List Qr)):=match x0 with|⟨bu,bt,bH,bT⟩=>(kM x1 bu).bind λdw=>(cf (λ(s8:Int×(List Qr))=>match s8 with|⟨uB,xh⟩=>(show Option ((Int×(List Qr))⊕((List Qr)))from(some (xh.length:Int)).bind λdS=>(some (decide ((uB:Int)<dS))).bind λfo=>(bif fo then(r7 xh uB).bind λiI=>(xh[iI]?).bind λ⟨⟨n9,oa⟩,⟨oc,oe⟩⟩=>(mJ ⟨⟨n9,oa⟩,⟨oc,oe⟩⟩).bind λ⟨⟨pB,n6⟩,⟨Ea,Eb⟩⟩=>(r7 xh uB).bind λkV=>(stM xh kV ⟨⟨pB,n6⟩,⟨Ea,Eb⟩⟩).bind λth=>(some (IntKind.i64.wrap (uB+1))).bind λfg=>some (.inl (fg,th))else some (.inr xh)))) (0,dw)).bind λqO=>(cf (λ(Th:Int×(List Qr))=>match Th with|⟨zG,u0⟩=>(show Option ((Int×(List Qr))⊕((List Qr)))from cj (λ(F2:Bool)=>(bif F2 then(cX bT zG).bind λ⟨⟨PL,PM⟩,⟨PN,PO⟩⟩=>(cX bH zG).bind λMM=>(dR MM qO).bind λ⟨⟨PR,PS⟩,⟨PT,PU⟩⟩=>(kF ⟨⟨PL,PM⟩,⟨PN,PO⟩⟩ ⟨⟨PR,PS⟩,⟨PT,PU⟩⟩).bind λ⟨⟨G3,G4⟩,⟨G5,G7⟩⟩=>(sW 64 u0 [⟨⟨G3,G4⟩,⟨G5,G7⟩⟩]).bind λR4=>(some (IntKind.i64.wrap (zG+1))).bind λuc=>some (.inl (uc,R4))else some (.inr u0))) λV8=>(some (bH.length:Int)).bind λxz=>(some (decide ((zG:Int)<xz))).bind λua=>(bif ua then(some (bT.length:Int)).bind λBQ=>(some (decide ((zG:Int)<BQ))).bind λuE=>some uE else some false).bind λKX=>V8 KX)) (0,[])).bind λo3=>some (⟨bu,bt,bH,o3⟩,qO)
noncomputable def fy(x0:Lr)(x1:List Qr)(x2:List Qr):Option (Bool):=match x0 with|⟨bu,bt,bH,bT⟩=>cj (λ(KY:Bool)=>(bif KY then(eV).bind λgy=>some gy else(iN ⟨bu,bt,bH,bT⟩ x1).bind λ⟨⟨F3,CB,F4,F5⟩,It⟩=>(iK ⟨F3,CB,F4,F5⟩).bind λ⟨⟨F6,F7,F8,F9⟩,KZ⟩=>(some (decide ((KZ:Int)≠0))).bind λkU=>(bif kU then cj (λ(PV:Bool)=>some PV) λK11=>(some (decide ((KZ:Int)=1))).bind λqa=>(bif qa then(eV).bind λuE=>some uE else some false).bind λK0=>K11 K0 else cj (λ(Ga:Bool)=>(bif Ga then some false else(iN ⟨F6,F7,F8,F9⟩ x2).bind λ⟨⟨zH,zI,zJ,zK⟩,Na⟩=>(iK ⟨zH,zI,zJ,zK⟩).bind λ⟨⟨CC,CD,CE,CF⟩,R7⟩=>cj (λ(Gb:Bool)=>(bif Gb then some false else(eR ⟨CC,CD,CE,CF⟩ It).bind λWd=>(eR ⟨zH,zI,zJ,zK⟩ Na).bind λEU=>cj (λ(Gc:Bool)=>(bif Gc then some false else cj (λ(PW:Bool)=>some PW) λK27=>(cX Wd 0).bind λ⟨⟨PX,PY⟩,⟨PZ,P0⟩⟩=>(cX EU 0).bind λ⟨⟨P1,P2⟩,⟨P3,P4⟩⟩=>(jh ⟨⟨PX,PY⟩,⟨PZ,P0⟩⟩ ⟨⟨P1,P2⟩,⟨P3,P4⟩⟩).bind λ⟨⟨K1,La⟩,⟨Lb,Lc⟩⟩=>(gz ⟨⟨K1,La⟩,⟨Lb,Lc⟩⟩).bind λAq=>(some (decide ((Aq:Int)<=0))).bind λH8=>(bif H8 then(eV).bind λAr=>some Ar else some false).bind λHe=>K27 He)) λV7=>(some (Wd.length:Int)).bind λTd=>(some (decide ((Td:Int)≠1))).bind λQ0=>(bif Q0 then some true else(some (EU.length:Int)).bind λS8=>(some (decide ((S8:Int)≠1))).bind λQ2=>some Q2).bind λLd=>V7 Ld)) λYU=>(some (decide ((R7:Int)≠0))).bind λL0=>(bif L0 then some true else(dY ⟨zH,zI,zJ,zK⟩ Na).bind λGQ=>(some (!GQ)).bind λTc=>some Tc).bind λLe=>(bif Le then some true else(dY ⟨CC,CD,CE,CF⟩ It).bind λTg=>(some (!Tg)).bind λS7=>some S7).bind λR8=>YU R8)) λK15=>(dY ⟨F3,CB,F4,F5⟩ It).bind λxQ=>(some (!xQ)).bind λMI=>(bif MI then some true else(some (CB.length:Int)).bind λRL=>(some (decide ((RL:Int)=0))).bind λAt=>some At).bind λLf=>K15 Lf))) λK6=>(jU ⟨bu,bt,bH,bT⟩).bind λdS=>(bif dS then some true else(gQ [x1,x2]).bind λja=>some ja).bind λLg=>(bif Lg then some true else(iB ⟨bu,bt,bH,bT⟩).bind λic=>(some (!ic)).bind λm6=>some m6).bind λR9=>K6 R9
end
section
open Go.Fw Go.Fw.Z Go.RowKit
theorem gY{x0:List (List Qr)}{r:Bool}(h:gQ x0=some r):Pure ah 18 [slc 1 (List.map (eS 4 eQ) x0)] (az r):=by
 refine aZ Tryz.func18 Y (af Y) (λdy M vs hvs=>?_);unfold gQ at h;refine sr<|ag Y<|dn<|qq<|sr<|ag Y<|dn<|bE h λJS BV rR=>?_;refine bJ (λ(Sa:Unit)=>AS.cu 23 [] [] []) (λSa=>.inl Sa=JS) ?_ (λSa BW=>?_);refine bj ?_;refine bK BV (λA5=>AS.cu 23 [(0,.sv (slc 1 (List.map (eS 4 eQ) x0))),(3,ai A5)] [] []) (wR []) (λuU V4 V5 h BX yP=>?_)
 try dsimp only
 refine qq<|sr<|mv Y<|mv Y<|lE h λx6 h6 h=>ln Y h6<|lE h λx7 h7 h=>ls _ Y Y h7<|dn ?_;cases x7;refine cF<|bP<|aV.x<|aV.x<|bw.x<|aV.n ?_;obtain rfl:=O (F h);exact⟨(),yP _ Y,wR []⟩;refine cT<|bp<|aV.n<|qq<|bj<|qq ?_;refine bB (V h) (λJU=>AS.cu 23 [(0,.sv (slc 1 (List.map (eS 4 eQ) x0))),(3,ai uU),(22,aj JU)] [] []) (λh=>?_) (λF0 h=>?_);refine aW<|mv Y<|mv Y<|bE h λdw fU h=>ix Y Y fU<|lr Y Y<|lE h λeK jC h=>ln Y jC<|lE h λdS iV h=>gt _ Y Y iV<|mv Y<|bE h λKS eH h=>?_;cases dS;refine gm Y<|gm Y<|bE (F eH) λkq nc eH=>RT.Om (.some Y Y) Y Y T nc<|gr Y Y<|bE eH λgG nf eH=>gc (AI nf) ⟨Y,aq⟩ ?_;obtain rfl:=O eH;exact pF Y<|dn<|⟨gG,h,wR []⟩;obtain rfl:=O (V eH);exact ww<|ww<|ww<|ww<|ww<|pT Y<|dn<|⟨true,h,wR []⟩
 try dsimp only
 refine aV.n ?_;cases F0;refine cF<|bp<|bw.n<|aV.n<|aW<|mv Y<|lE (F h) λx9 h9 h=>ad _ Y Y h9<|ag Y<|RT.done ?_;obtain rfl:=O h;exact aV.n ⟨x9,BX _ Y,wR []⟩;refine cT<|sr<|ag Y<|dn<|bf<|bw.r<|aV.r ?_;obtain rfl:=O (V h);have aan:=yP _ Y;subst aan;refine aV.r<|bw.r<|aV.r<|aV.r ?_;obtain rfl:=O rR;exact R1 Y;subst BW
 try dsimp only
 refine aV.n<|sr<|ag Y<|dn<|bf ?_;obtain rfl:=O rR;exact R1 Y
theorem gZ{x0:List (List (List Qr))}{r:Bool}(h:iM x0=some r):Pure ah 45 [slc 1 (List.map (eS 1 (eS 4 eQ)) x0)] (az r):=by
 refine aZ Tryz.func45 Y (af Y) (λdy M vs hvs=>?_);unfold iM at h;refine sr<|ag Y<|dn<|qq<|sr<|ag Y<|dn<|bE h λM1 FW Cj=>?_;refine bJ (λ(FZ:Unit)=>AS.cu 31 [] [] []) (λFZ=>.inl FZ=M1) ?_ (λFZ Ck=>?_);refine bj ?_;refine bK FW (λKD=>AS.cu 31 [(0,.sv (slc 1 (List.map (eS 1 (eS 4 eQ)) x0))),(3,ai KD)] [] []) (wR []) (λrX y16 G16 h KO FX=>?_)
 try dsimp only
 refine qq<|sr<|mv Y<|mv Y<|lE h λx6 h6 h=>ln Y h6<|lE h λx7 h7 h=>ls _ Y Y h7<|dn ?_;cases x7;refine cF<|bP<|aV.x<|aV.x<|bw.x<|aV.n ?_;obtain rfl:=O (F h);exact⟨(),FX _ Y,wR []⟩;refine cT<|bp<|aV.n<|qq<|bj<|qq ?_;refine bB (V h) (λUW=>AS.cu 31 [(0,.sv (slc 1 (List.map (eS 1 (eS 4 eQ)) x0))),(3,ai rX),(30,aj UW)] [] []) (λh=>?_) (λF1 h=>?_);refine aW<|mv Y<|mv Y<|bE h λdw fU h=>ix Y Y fU<|lr Y Y<|lE h λeK jC h=>ln Y jC<|lE h λdS iV h=>gt _ Y Y iV<|mv Y<|bE h λKT lp h=>?_;cases dS;refine gm Y<|gm Y<|bE (F lp) λkq nc lp=>RT.Om (.some Y Y) Y Y T nc<|gr Y Y<|bE lp λgG nf lp=>gc (AG nf) ⟨Y,aq⟩<|lE lp λiP n7 lp=>gg _ Y Y n7 ?_;obtain rfl:=O lp;refine pF Y<|mv Y<|bE h λaao nh h=>?_;cases iP;refine gm Y<|gm Y<|bE (F nh) λgy m9 nh=>RT.Om (.some Y Y) Y Y T m9<|gr Y Y<|bE nh λij m8 nh=>gc (gY m8) ⟨Y,aq⟩ ?_;obtain rfl:=O nh;exact pF Y<|dn<|⟨ij,h,wR []⟩;obtain rfl:=O (V nh);exact ww<|ww<|ww<|ww<|ww<|pT Y<|dn<|⟨true,h,wR []⟩;obtain rfl:=O (V lp);refine ww<|ww<|ww<|ww<|ww<|ww<|pT Y<|mv Y<|bE h λaap KP h=>?_;obtain rfl:=O (V KP);exact ww<|ww<|ww<|ww<|ww<|pT Y<|dn<|⟨true,h,wR []⟩
 try dsimp only
 refine aV.n ?_;cases F1;refine cF<|bp<|bw.n<|aV.n<|aW<|mv Y<|lE (F h) λx9 h9 h=>ad _ Y Y h9<|ag Y<|RT.done ?_;obtain rfl:=O h;exact aV.n ⟨x9,KO _ Y,wR []⟩;refine cT<|sr<|ag Y<|dn<|bf<|bw.r<|aV.r ?_;obtain rfl:=O (V h);have RV:=FX _ Y;subst RV;refine aV.r<|bw.r<|aV.r<|aV.r ?_;obtain rfl:=O Cj;exact R1 Y;subst Ck
 try dsimp only
 refine aV.n<|sr<|ag Y<|dn<|bf ?_;obtain rfl:=O Cj;exact R1 Y
theorem zL{r:Lr}(h:kO=some r):Pure ah 40 [] (.agg (Dl r)):=by
 refine aZ Tryz.func40 Y (af Y) (λdy M vs hvs=>?_);unfold kO at h;refine sr<|al (cs:=[ay 0,slc 1 (List.map (eS 4 eQ) []),slc 1 (List.map (eS 4 eQ) []),slc 4 (List.map eQ [])]) (by exact⟨au,aB,aB,aB,aq⟩) Y<|dn<|sr<|bl (l:=[3,5]) (e:=bG) (.one Y (.one Y (.nil))) Y Y Y Y Y Y<|bl (l:=[[3,5]]) (e:=(eS 1 bG)) (.one Y (.nil)) Y Y Y Y Y Y<|bE h λx3 h3 h=>cl (jc h3) ⟨Y,aq⟩<|bl (l:=[1,0]) (e:=bG) (.one Y (.one Y (.nil))) Y Y Y Y Y Y ?_;refine bl (l:=[0,2]) (e:=bG) (.one Y (.one Y (.nil))) Y Y Y Y Y Y<|bl (l:=[3,2]) (e:=bG) (.one Y (.one Y (.nil))) Y Y Y Y Y Y<|bl (l:=[[1,0],[0,2],[3,2]]) (e:=(eS 1 bG)) (.one Y (.one Y (.one Y (.nil)))) Y Y Y Y Y Y<|bE h λx8 h8 h=>cl (jc h8) ⟨Y,aq⟩<|bl (l:=[4,12,18]) (e:=bG) (.one Y (.one Y (.one Y (.nil)))) Y Y Y Y Y Y<|bE h λec gD h=>cl (eF gD) ⟨Y,aq⟩ ?_;refine bI (cs:=[_,_,_,_]) (cs':=[ay 2,slc 1 (List.map (eS 4 eQ) x3),slc 1 (List.map (eS 4 eQ) x8),slc 4 (List.map eQ ec)]) (.one Y (.one Y (.one Y (.one Y (.nil))))) ⟨au,au,au,au,aq⟩<|so Y Y Y<|dn<|bf ?_;obtain rfl:=O h;exact RZ (.agg Y Y (.k4 Y Y Y Y) Y (.nil))
set_option maxHeartbeats 4000000 in
theorem mP{r:Bool}(h:eV=some r):Pure ah 9 [] (az r):=by
 refine aZ Tryz.func9 Y (af Y) (λdy M vs hvs=>?_);unfold eV at h;refine sr<|ag Y<|dn<|sr ?_;obtain⟨⟨tu,tw,Cs,Ct⟩,h7,h⟩:=bS h;refine cl (zL h7) trivial<|al (cs:=[ay 0,slc 1 (List.map (eS 4 eQ) []),slc 1 (List.map (eS 4 eQ) []),slc 4 (List.map eQ [])]) (by exact⟨au,aB,aB,aB,aq⟩) Y<|so Y Y Y<|dn<|sr<|ld Y Y (.k4 Y Y Y Y) ?_;obtain⟨⟨⟨Cx,Cy,Cz,CA⟩,Ih⟩,gD,h⟩:=bS h;refine cl (tN gD) ⟨Y,aq⟩<|mv Y<|ex Y Y<|ex Y Y<|al (cs:=[ay 0,slc 1 (List.map (eS 4 eQ) []),slc 1 (List.map (eS 4 eQ) []),slc 4 (List.map eQ [])]) (by exact⟨au,aB,aB,aB,aq⟩) Y<|so Y Y Y<|ag Y<|dn<|sr<|bl (l:=[(-4),(-12),(-18)]) (e:=bG) (.one Y (.one Y (.one Y (.nil)))) Y Y Y Y Y Y<|bl (l:=[[(-4),(-12),(-18)]]) (e:=(eS 1 bG)) (.one Y (.nil)) Y Y Y Y Y Y ?_;refine bE h λdS iV h=>cl (jc iV) ⟨Y,aq⟩<|bl (l:=[(-1),0,(-3)]) (e:=bG) (.one Y (.one Y (.one Y (.nil)))) Y Y Y Y Y Y<|bl (l:=[0,(-2),(-2)]) (e:=bG) (.one Y (.one Y (.one Y (.nil)))) Y Y Y Y Y Y<|bl (l:=[[(-1),0,(-3)],[0,(-2),(-2)]]) (e:=(eS 1 bG)) (.one Y (.one Y (.nil))) Y Y Y Y Y Y<|bE h λkq nc h=>cl (jc nc) ⟨Y,aq⟩<|bl (l:=[(-3),(-5)]) (e:=bG) (.one Y (.one Y (.nil))) Y Y Y Y Y Y ?_
 refine bE h λgG nf h=>cl (eF nf) ⟨Y,aq⟩<|bI (cs:=[_,_,_,_]) (cs':=[ay 3,slc 1 (List.map (eS 4 eQ) dS),slc 1 (List.map (eS 4 eQ) kq),slc 4 (List.map eQ gG)]) (.one Y (.one Y (.one Y (.one Y (.nil))))) ⟨au,au,au,au,aq⟩<|al (cs:=[ay 0,slc 1 (List.map (eS 4 eQ) []),slc 1 (List.map (eS 4 eQ) []),slc 4 (List.map eQ [])]) (by exact⟨au,aB,aB,aB,aq⟩) Y<|so Y Y Y ?_;refine dn<|sr<|bl (l:=[2,6]) (e:=bG) (.one Y (.one Y (.nil))) Y Y Y Y Y Y<|bE h λic oD h=>cl (eF oD) ⟨Y,aq⟩<|bI (cs:=[_,_,_,_]) (cs':=[az false,ax,az false,ax]) (.nil) ⟨au,aB,au,aB,aq⟩ ?_;obtain⟨⟨⟨sF,sG⟩,⟨sH,sI⟩⟩,rT,h⟩:=bS h;refine cl (D9 rT) ⟨Y,Y,aq⟩ ?_;obtain⟨⟨⟨uI,sn⟩,⟨G1,G2⟩⟩,m9,h⟩:=bS h;refine cl (Cw m9) ⟨Y,aq⟩<|bl (l:=[⟨⟨false,[]⟩,⟨false,[]⟩⟩,⟨⟨sF,sG⟩,⟨sH,sI⟩⟩,⟨⟨uI,sn⟩,⟨G1,G2⟩⟩]) (e:=eQ) (.agg Y (.agg Y (.agg Y (.nil)))) Y Y Y Y Y Y<|ag Y<|ag Y<|dn<|qq ?_;refine bB h (λj36=>AS.cu 74 [(0,aj j36)] [] []) (λh=>?_) (λPJ h=>?_);refine aW<|ld Y Y (.k4 Y Y Y Y)<|bE h λvX Ax h=>cl (nH Ax) ⟨Y,aq⟩<|mv Y<|bE h λKU tH h=>?_;cases vX;obtain rfl:=O (F tH);refine ww<|ww<|ww<|pF Y<|mv Y<|bE h λaaq D8 h=>?_;obtain rfl:=O (F D8);refine ww<|ww<|ww<|ww<|ww<|ww<|pF Y<|mv Y<|bE h λaar Ec h=>?_;obtain rfl:=O (F Ec)
 refine ww<|ww<|ww<|ww<|ww<|ww<|pF Y<|mv Y<|bE h λaas Ed h=>?_;obtain rfl:=O (F Ed);refine ww<|ww<|pF Y<|mv Y<|bE h λaat zM h=>?_;obtain rfl:=O (F zM);refine ww<|ww<|ww<|pF Y<|mv Y<|bE h λaau Ee h=>?_;obtain rfl:=O (F Ee);refine ww<|ww<|ww<|pF Y<|mv Y<|bE h λaav zN h=>?_;obtain rfl:=O (F zN);exact ww<|ww<|ww<|ww<|ww<|ww<|pF Y<|ag Y<|dn<|⟨false,h,wR []⟩;refine gl Y Y (.k4 Y Y Y Y)<|gm Y<|bE (V tH) λm7 rS tH=>gc (iC rS) ⟨Y,Y,aq⟩ ?_;obtain rfl:=O tH;refine pT Y<|mv Y<|bE h λaaw tJ h=>?_;cases m7;obtain rfl:=O (F tJ);refine ww<|ww<|ww<|ww<|ww<|ww<|pF Y<|mv Y<|bE h λaax aay h=>?_;obtain rfl:=O (F aay);refine ww<|ww<|ww<|ww<|ww<|ww<|pF Y<|mv Y<|bE h λaaz aaA h=>?_;obtain rfl:=O (F aaA);refine ww<|ww<|pF Y<|mv Y<|bE h λaaB aaC h=>?_;obtain rfl:=O (F aaC);refine ww<|ww<|ww<|pF Y<|mv Y<|bE h λaaD aaE h=>?_;obtain rfl:=O (F aaE);refine ww<|ww<|ww<|pF Y<|mv Y<|bE h λaaF aaG h=>?_;obtain rfl:=O (F aaG);exact ww<|ww<|ww<|ww<|ww<|ww<|pF Y<|ag Y<|dn<|⟨false,h,wR []⟩;refine gl Y Y (.k4 Y Y Y Y)<|gm Y<|bE (V tJ) λpL DG tJ=>gc (jM DG) ⟨Y,Y,aq⟩<|RT.gE (l:=[36]) (e:=bG) (.some Y Y) (.one Y (.nil)) T Y Y Y Y Y Y<|bE tJ λxP Ic tJ=>gc (eF Ic) ⟨Y,aq⟩<|bE tJ λqa BZ tJ=>gc (jL BZ) ⟨Y,Y,aq⟩ ?_
 obtain rfl:=O tJ;refine pT Y<|mv Y<|bE h λaaH xA h=>?_;cases qa;obtain rfl:=O (F xA);refine ww<|ww<|ww<|ww<|ww<|ww<|pF Y<|mv Y<|bE h λaaI aaJ h=>?_;obtain rfl:=O (F aaJ);refine ww<|ww<|pF Y<|mv Y<|bE h λaaK aaL h=>?_;obtain rfl:=O (F aaL);refine ww<|ww<|ww<|pF Y<|mv Y<|bE h λaaM aaN h=>?_;obtain rfl:=O (F aaN);refine ww<|ww<|ww<|pF Y<|mv Y<|bE h λaaO aaP h=>?_;obtain rfl:=O (F aaP);exact ww<|ww<|ww<|ww<|ww<|ww<|pF Y<|ag Y<|dn<|⟨false,h,wR []⟩;refine gl Y Y (.k4 Y Y Y Y)<|gm Y<|bE (V xA) λuc yQ xA=>gc (D4 yQ) ⟨Y,Y,aq⟩<|RT.gE (l:=[2,0,0]) (e:=bG) (.some Y Y) (.one Y (.one Y (.one Y (.nil)))) T Y Y Y Y Y Y<|bE xA λMI MQ xA=>gc (eF MQ) ⟨Y,aq⟩<|bE xA λAa JW xA=>gc (jL JW) ⟨Y,Y,aq⟩ ?_;obtain rfl:=O xA;refine pT Y<|mv Y<|bE h λaaQ Ik h=>?_;cases Aa;obtain rfl:=O (F Ik);refine ww<|ww<|pF Y<|mv Y<|bE h λaaR aaS h=>?_;obtain rfl:=O (F aaS);refine ww<|ww<|ww<|pF Y<|mv Y<|bE h λaaT aaU h=>?_;obtain rfl:=O (F aaU);refine ww<|ww<|ww<|pF Y<|mv Y<|bE h λaaV aaW h=>?_;obtain rfl:=O (F aaW);exact ww<|ww<|ww<|ww<|ww<|ww<|pF Y<|ag Y<|dn<|⟨false,h,wR []⟩;refine gm Y<|lE (V Ik) λAt EV Ik=>S0 _ Y Y (xy (p:=Ih) (q:=0) EV) ?_;obtain rfl:=O Ik;refine pT Y<|mv Y<|bE h λaaX Il h=>?_;cases At
 obtain rfl:=O (F Il);refine ww<|ww<|ww<|pF Y<|mv Y<|bE h λaaY aaZ h=>?_;obtain rfl:=O (F aaZ);refine ww<|ww<|ww<|pF Y<|mv Y<|bE h λaa0 aa1 h=>?_;obtain rfl:=O (F aa1);exact ww<|ww<|ww<|ww<|ww<|ww<|pF Y<|ag Y<|dn<|⟨false,h,wR []⟩;refine gl Y Y (.k4 Y Y Y Y)<|gl Y Y (.k4 Y Y Y Y)<|bE (V Il) λJD Re Il=>gc (D5 Re) ⟨Y,Y,aq⟩ ?_;obtain rfl:=O Il;refine pT Y<|mv Y<|bE h λaa2 Nb h=>?_;cases JD;obtain rfl:=O (F Nb);refine ww<|ww<|ww<|pF Y<|mv Y<|bE h λaa3 aa4 h=>?_;obtain rfl:=O (F aa4);exact ww<|ww<|ww<|ww<|ww<|ww<|pF Y<|ag Y<|dn<|⟨false,h,wR []⟩;refine gl Y Y (.k4 Y Y Y Y)<|gm Y<|bE (V Nb) λR4 Iu Nb=>gc (iC Iu) ⟨Y,Y,aq⟩ ?_;obtain rfl:=O Nb;refine pT Y<|mv Y<|bE h λaa5 Ef h=>?_;cases R4;obtain rfl:=O (F Ef);exact ww<|ww<|ww<|ww<|ww<|ww<|pF Y<|ag Y<|dn<|⟨false,h,wR []⟩;refine gl Y Y (.k4 Y Y Y Y)<|gm Y<|bE (V Ef) λS4 Ut Ef=>gc (jM Ut) ⟨Y,Y,aq⟩<|RT.gE (l:=[(-36)]) (e:=bG) (.some Y Y) (.one Y (.nil)) T Y Y Y Y Y Y<|bE Ef λUS h71 Ef=>gc (eF h71) ⟨Y,aq⟩<|bE Ef λGQ Ri Ef=>gc (jL Ri) ⟨Y,Y,aq⟩ ?_;obtain rfl:=O Ef;exact pT Y<|ag Y<|dn<|⟨GQ,h,wR []⟩
 try dsimp only
 refine aV.n<|bf ?_;obtain rfl:=O h;exact R1 Y
theorem AJ{x0:List (List Qr)}{r:Bool}(h:jT x0=some r):Pure ah 44 [slc 1 (List.map (eS 4 eQ) x0)] (az r):=by
 refine aZ Tryz.func44 Y (af Y) (λdy M vs hvs=>?_);unfold jT at h;refine sr<|ag Y<|dn<|qq<|sr<|ag Y<|dn<|bE h λe6 Au jt=>?_;refine bJ (λ(Fx:Unit)=>AS.cu 16 [] [] []) (λFx=>.inl Fx=e6) ?_ (λFx Av=>?_);refine bj ?_;refine bK Au (λs6=>AS.cu 16 [(0,.sv (slc 1 (List.map (eS 4 eQ) x0))),(3,ai s6)] [] []) (wR []) (λlj y6 G6 h Aw v8=>?_)
 try dsimp only
 refine qq<|sr<|mv Y<|mv Y<|lE h λx6 h6 h=>ln Y h6<|lE h λx7 h7 h=>ls _ Y Y h7<|dn ?_;cases x7;refine cF<|bP<|aV.x<|aV.x<|bw.x<|aV.n ?_;obtain rfl:=O (F h);exact⟨(),v8 _ Y,wR []⟩;refine cT<|bp<|aV.n<|qq<|bj<|sr<|mv Y<|mv Y<|bE (V h) λdw fU h=>ix Y Y fU<|lr Y Y<|lE h λeK jC h=>ln Y jC<|lE h λdS iV h=>gt _ Y Y iV<|dn ?_;cases dS;refine cF<|bp<|bw.n<|aV.n<|aW<|mv Y<|lE (F h) λx9 h9 h=>ad _ Y Y h9<|ag Y<|RT.done ?_;obtain rfl:=O h;exact aV.n ⟨x9,Aw _ Y,wR []⟩;refine cT<|sr<|ag Y<|dn<|bf<|bw.r<|aV.r ?_;obtain rfl:=O (V h);have JV:=v8 _ Y;subst JV;refine aV.r<|bw.r<|aV.r<|aV.r ?_;obtain rfl:=O jt;exact R1 Y;subst Av
 try dsimp only
 refine aV.n<|sr<|ag Y<|dn<|bf ?_;obtain rfl:=O jt;exact R1 Y
theorem mc{x0:List Qr}{r:List Qr}(h:lH x0=some r):Pure ah 46 [slc 4 (List.map eQ x0)] (slc 4 (List.map eQ r)):=by
 refine aZ Tryz.func46 Y (af Y) (λdy M vs hvs=>?_);unfold lH at h;refine sr<|aI Y (aB (n:=4) (e:=eQ))<|dn<|sr<|mv Y<|mv Y<|lE h λx5 h5 h=>ln Y h5<|lE h λx6 h6 h=>RT.min .none _ Y Y T (Mx (p:=x5) (q:=20) h6)<|bE h λx7 h7 h=>RT.vT .none 0 x6 Y Y ⟨_,Y⟩ T h7<|ag Y<|dn<|bf ?_;obtain rfl:=O h;exact R1 Y
set_option maxHeartbeats 4000000 in
theorem AK{x0:Lr}{r:Bool}(h:jU x0=some r):Pure ah 10 [.agg (Dl x0)] (az r):=by
 obtain⟨bu,bt,bH,bT⟩:=x0;refine aZ Tryz.func10 Y (af Y) (λdy M vs hvs=>?_);unfold jU at h;refine sr<|bx Y<|ag Y<|dn<|qq ?_;refine bB h (λj59=>AS.cu 56 [(2,aj j59)] [] []) (λh=>?_) (λPK h=>?_);refine aW<|fa Y Y<|lV Y Y Y<|lE h λx5 h5 h=>ln Y h5<|lE h λx6 h6 h=>gt _ Y Y h6<|mv Y<|bE h λKW Ec h=>?_;cases x6;refine RT.fieldAddr (.some Y Y) Y T Y<|RT.q9 (.some Y Y) Y Y Y T<|lE (F Ec) λec gD Ec=>gn Y gD<|lE Ec λfV l6 Ec=>gg _ Y Y l6 ?_;obtain rfl:=O Ec;refine pF Y<|mv Y<|bE h λaa6 Ed h=>?_;cases fV;refine RT.fieldAddr (.some Y Y) Y T Y<|RT.q9 (.some Y Y) Y Y Y T<|lE (F Ed) λfo iW Ed=>gn Y iW<|lE Ed λfm k8 Ed=>gg _ Y Y k8 ?_;obtain rfl:=O Ed;refine pF Y<|mv Y<|bE h λaa7 zM h=>?_;cases fm;refine RT.fieldAddr (.some Y Y) Y T Y<|RT.q9 (.some Y Y) Y Y Y T<|lE (F zM) λiP n7 zM=>gn Y n7<|lE zM λiI pM zM=>gg _ Y Y pM<|gm Y<|bE zM λaa8 Ee zM=>?_;cases iI;obtain rfl:=O (F Ee);refine ww<|ww<|ww<|ww<|gF Y ?_;obtain rfl:=O zM;refine pF Y<|mv Y<|bE h λaa9 Eg h=>RT.fieldAddr (.some Y Y) Y T Y<|RT.q9 (.some Y Y) Y Y Y T<|lE (F Eg) λm7 rS Eg=>gn Y rS<|lE Eg λvG BY Eg=>RT.leq (.some Y Y) _ Y Y T BY<|gm Y<|bE Eg λaba Nc Eg=>?_;cases vG;obtain rfl:=O (F Nc);refine ww<|ww<|ww<|ww<|gF Y ?_;obtain rfl:=O Eg
 refine pF Y<|mv Y<|bE h λabb Sb h=>RT.fieldAddr (.some Y Y) Y T Y<|RT.q9 (.some Y Y) Y Y Y T<|RT.gE (l:=[bt]) (e:=(eS 1 (eS 4 eQ))) (.some Y Y) (.one Y (.nil)) T Y Y Y Y Y Y<|bE (F Sb) λuc yQ Sb=>gc (gZ yQ) ⟨Y,aq⟩ ?_;obtain rfl:=O Sb;refine pF Y<|mv Y<|bE h λabc Iv h=>?_;cases uc;refine RT.fieldAddr (.some Y Y) Y T Y<|RT.q9 (.some Y Y) Y Y Y T<|bE (F Iv) λAo Fy Iv=>gc (mc Fy) ⟨Y,aq⟩<|RT.gE (l:=[Ao]) (e:=(eS 4 eQ)) (.some Y Y) (.one Y (.nil)) T Y Y Y Y Y Y<|bE Iv λAt EV Iv=>gc (gY EV) ⟨Y,aq⟩ ?_;obtain rfl:=O Iv;exact pF Y<|ag Y<|dn<|⟨At,h,wR []⟩;obtain rfl:=O (V Iv);exact ww<|ww<|ww<|ww<|ww<|pT Y<|ag Y<|dn<|⟨true,h,wR []⟩;refine RT.fieldAddr (.some Y Y) Y T Y<|RT.q9 (.some Y Y) Y Y Y T<|RT.gE (l:=[bH]) (e:=(eS 1 (eS 4 eQ))) (.some Y Y) (.one Y (.nil)) T Y Y Y Y Y Y<|bE (V Nc) λkU rA Nc=>gc (gZ rA) ⟨Y,aq⟩ ?_;obtain rfl:=O Nc;refine gT Y ?_;obtain rfl:=O Eg;refine pF Y<|mv Y<|bE h λabd Nd h=>?_;cases kU;refine RT.fieldAddr (.some Y Y) Y T Y<|RT.q9 (.some Y Y) Y Y Y T<|RT.gE (l:=[bt]) (e:=(eS 1 (eS 4 eQ))) (.some Y Y) (.one Y (.nil)) T Y Y Y Y Y Y<|bE (F Nd) λuc yQ Nd=>gc (gZ yQ) ⟨Y,aq⟩ ?_;obtain rfl:=O Nd;refine pF Y<|mv Y<|bE h λabe Iw h=>?_;cases uc
 refine RT.fieldAddr (.some Y Y) Y T Y<|RT.q9 (.some Y Y) Y Y Y T<|bE (F Iw) λAo Fy Iw=>gc (mc Fy) ⟨Y,aq⟩<|RT.gE (l:=[Ao]) (e:=(eS 4 eQ)) (.some Y Y) (.one Y (.nil)) T Y Y Y Y Y Y<|bE Iw λAt EV Iw=>gc (gY EV) ⟨Y,aq⟩ ?_;obtain rfl:=O Iw;exact pF Y<|ag Y<|dn<|⟨At,h,wR []⟩;obtain rfl:=O (V Iw);exact ww<|ww<|ww<|ww<|ww<|pT Y<|ag Y<|dn<|⟨true,h,wR []⟩;obtain rfl:=O (V Nd);refine ww<|ww<|ww<|ww<|pT Y<|mv Y<|bE h λabf abg h=>?_;obtain rfl:=O (V abg);exact ww<|ww<|ww<|ww<|ww<|pT Y<|ag Y<|dn<|⟨true,h,wR []⟩;refine RT.fieldAddr (.some Y Y) Y T Y<|RT.q9 (.some Y Y) Y Y Y T<|bE (V Ee) λgy m9 Ee=>gc (AJ m9) ⟨Y,aq⟩<|lE Ee λkW tC Ee=>TY Y _ tC ?_;obtain rfl:=O Ee;refine gT Y ?_;obtain rfl:=O zM;refine pF Y<|mv Y<|bE h λabh zN h=>?_;cases kW;refine RT.fieldAddr (.some Y Y) Y T Y<|RT.q9 (.some Y Y) Y Y Y T<|lE (F zN) λm7 rS zN=>gn Y rS<|lE zN λvG BY zN=>RT.leq (.some Y Y) _ Y Y T BY<|gm Y<|bE zN λabi Nf zN=>?_;cases vG;obtain rfl:=O (F Nf);refine ww<|ww<|ww<|ww<|gF Y ?_;obtain rfl:=O zN
 refine pF Y<|mv Y<|bE h λabj Sc h=>RT.fieldAddr (.some Y Y) Y T Y<|RT.q9 (.some Y Y) Y Y Y T<|RT.gE (l:=[bt]) (e:=(eS 1 (eS 4 eQ))) (.some Y Y) (.one Y (.nil)) T Y Y Y Y Y Y<|bE (F Sc) λuc yQ Sc=>gc (gZ yQ) ⟨Y,aq⟩ ?_;obtain rfl:=O Sc;refine pF Y<|mv Y<|bE h λabk Iy h=>?_;cases uc;refine RT.fieldAddr (.some Y Y) Y T Y<|RT.q9 (.some Y Y) Y Y Y T<|bE (F Iy) λAo Fy Iy=>gc (mc Fy) ⟨Y,aq⟩<|RT.gE (l:=[Ao]) (e:=(eS 4 eQ)) (.some Y Y) (.one Y (.nil)) T Y Y Y Y Y Y<|bE Iy λAt EV Iy=>gc (gY EV) ⟨Y,aq⟩ ?_;obtain rfl:=O Iy;exact pF Y<|ag Y<|dn<|⟨At,h,wR []⟩;obtain rfl:=O (V Iy);exact ww<|ww<|ww<|ww<|ww<|pT Y<|ag Y<|dn<|⟨true,h,wR []⟩;refine RT.fieldAddr (.some Y Y) Y T Y<|RT.q9 (.some Y Y) Y Y Y T<|RT.gE (l:=[bH]) (e:=(eS 1 (eS 4 eQ))) (.some Y Y) (.one Y (.nil)) T Y Y Y Y Y Y<|bE (V Nf) λkU rA Nf=>gc (gZ rA) ⟨Y,aq⟩ ?_;obtain rfl:=O Nf;refine gT Y ?_;obtain rfl:=O zN;refine pF Y<|mv Y<|bE h λabl Ng h=>?_;cases kU;refine RT.fieldAddr (.some Y Y) Y T Y<|RT.q9 (.some Y Y) Y Y Y T<|RT.gE (l:=[bt]) (e:=(eS 1 (eS 4 eQ))) (.some Y Y) (.one Y (.nil)) T Y Y Y Y Y Y<|bE (F Ng) λuc yQ Ng=>gc (gZ yQ) ⟨Y,aq⟩ ?_;obtain rfl:=O Ng;refine pF Y<|mv Y<|bE h λKV Iz h=>?_;cases uc
 refine RT.fieldAddr (.some Y Y) Y T Y<|RT.q9 (.some Y Y) Y Y Y T<|bE (F Iz) λAo Fy Iz=>gc (mc Fy) ⟨Y,aq⟩<|RT.gE (l:=[Ao]) (e:=(eS 4 eQ)) (.some Y Y) (.one Y (.nil)) T Y Y Y Y Y Y<|bE Iz λAt EV Iz=>gc (gY EV) ⟨Y,aq⟩ ?_;obtain rfl:=O Iz;exact pF Y<|ag Y<|dn<|⟨At,h,wR []⟩;obtain rfl:=O (V Iz);exact ww<|ww<|ww<|ww<|ww<|pT Y<|ag Y<|dn<|⟨true,h,wR []⟩;obtain rfl:=O (V Ng);refine ww<|ww<|ww<|ww<|pT Y<|mv Y<|bE h λabm abn h=>?_;obtain rfl:=O (V abn);exact ww<|ww<|ww<|ww<|ww<|pT Y<|ag Y<|dn<|⟨true,h,wR []⟩;obtain rfl:=O (V zN);refine ww<|ww<|ww<|ww<|ww<|wu<|wu<|wu<|wu<|ww<|pT Y<|mv Y<|bE h λabo abp h=>?_;obtain rfl:=O (V abp);refine ww<|ww<|ww<|ww<|pT Y<|mv Y<|bE h λabq abr h=>?_;obtain rfl:=O (V abr);exact ww<|ww<|ww<|ww<|ww<|pT Y<|ag Y<|dn<|⟨true,h,wR []⟩;obtain rfl:=O (V zM);refine ww<|ww<|ww<|ww<|ww<|wu<|wu<|wu<|wu<|ww<|pT Y<|mv Y<|bE h λabt abu h=>?_;obtain rfl:=O (V abu);refine ww<|ww<|ww<|ww<|ww<|wu<|wu<|wu<|wu<|ww<|pT Y<|mv Y<|bE h λabv abw h=>?_;obtain rfl:=O (V abw);refine ww<|ww<|ww<|ww<|pT Y<|mv Y<|bE h λWe U3 h=>?_;obtain rfl:=O (V U3);exact ww<|ww<|ww<|ww<|ww<|pT Y<|ag Y<|dn<|⟨true,h,wR []⟩;obtain rfl:=O (V Ed);refine ww<|ww<|ww<|ww<|pT Y<|mv Y<|bE h λWf U4 h=>?_
 obtain rfl:=O (V U4);refine ww<|ww<|ww<|ww<|ww<|wu<|wu<|wu<|wu<|ww<|pT Y<|mv Y<|bE h λWg U5 h=>?_;obtain rfl:=O (V U5);refine ww<|ww<|ww<|ww<|ww<|wu<|wu<|wu<|wu<|ww<|pT Y<|mv Y<|bE h λWh U6 h=>?_;obtain rfl:=O (V U6);refine ww<|ww<|ww<|ww<|pT Y<|mv Y<|bE h λWi U7 h=>?_;obtain rfl:=O (V U7);exact ww<|ww<|ww<|ww<|ww<|pT Y<|ag Y<|dn<|⟨true,h,wR []⟩;obtain rfl:=O (V Ec);refine ww<|ww<|ww<|ww<|pT Y<|mv Y<|bE h λWj U8 h=>?_;obtain rfl:=O (V U8);refine ww<|ww<|ww<|ww<|pT Y<|mv Y<|bE h λWk U9 h=>?_;obtain rfl:=O (V U9);refine ww<|ww<|ww<|ww<|ww<|wu<|wu<|wu<|wu<|ww<|pT Y<|mv Y<|bE h λWm Vc h=>?_;obtain rfl:=O (V Vc);refine ww<|ww<|ww<|ww<|ww<|wu<|wu<|wu<|wu<|ww<|pT Y<|mv Y<|bE h λWn Vd h=>?_;obtain rfl:=O (V Vd);refine ww<|ww<|ww<|ww<|pT Y<|mv Y<|bE h λWo Ve h=>?_;obtain rfl:=O (V Ve);exact ww<|ww<|ww<|ww<|ww<|pT Y<|ag Y<|dn<|⟨true,h,wR []⟩
 try dsimp only
 refine aV.n<|bf ?_;obtain rfl:=O h;exact R1 Y
set_option maxHeartbeats 4000000 in
theorem sK{x0:Lr}{x1:List Qr}{r:Lr×(List Qr)}(h:iN x0 x1=some r):Pure ah 19 [.agg (Dl x0),slc 4 (List.map eQ x1)] (.z9 [.agg (Dl r.1),slc 4 (List.map eQ r.2)]):=by
 obtain⟨bu,bt,bH,bT⟩:=x0;refine aZ Tryz.func19 Y (af Y) (λdy M vs hvs=>?_);unfold iN at h;refine sr<|bx Y<|al (cs:=[ay 0,slc 1 (List.map (eS 4 eQ) []),slc 1 (List.map (eS 4 eQ) []),slc 4 (List.map eQ [])]) (by exact⟨au,aB,aB,aB,aq⟩) Y<|aI Y (aB (n:=4) (e:=eQ))<|dn<|sr<|mv Y<|fa Y Y<|lV Y Y Y<|bE h λdw fU h=>cN (zu fU) ⟨Y,Y,aq⟩<|an (s:=.row _) Y<|dn<|qq ?_;refine sr<|ag Y<|dn<|bE h λe8 B0 tD=>?_;refine bJ (λ(qO:(List Qr))=>AS.cu 68 [(1,.row 12),(2,.ptr 2 0),(4,.ptr 4 0)] [(4,⟨26,[ai 0,.sv (slc 1 (List.map (eS 4 eQ) [])),.sv (slc 1 (List.map (eS 4 eQ) [])),.sv (slc 4 (List.map eQ []))]⟩),(2,⟨26,[ai bu,.sv (slc 1 (List.map (eS 4 eQ) bt)),.sv (slc 1 (List.map (eS 4 eQ) bH)),.sv (slc 4 (List.map eQ bT))]⟩)] [(12,TR 36 4 eQ qO)]) (λqO=>qO=e8) ?_ (λqO B3=>?_);refine bj ?_;refine bK B0 (λs8=>AS.cu 68 [(1,.row 12),(2,.ptr 2 0),(4,.ptr 4 0),(6,ai s8.1)] [(4,⟨26,[ai 0,.sv (slc 1 (List.map (eS 4 eQ) [])),.sv (slc 1 (List.map (eS 4 eQ) [])),.sv (slc 4 (List.map eQ []))]⟩),(2,⟨26,[ai bu,.sv (slc 1 (List.map (eS 4 eQ) bt)),.sv (slc 1 (List.map (eS 4 eQ) bH)),.sv (slc 4 (List.map eQ bT))]⟩)] [(12,TR 36 4 eQ s8.2)]) (wR []) (λs8 y8 G8 h B4 B5=>?_);obtain⟨uB,xh⟩:=s8
 try dsimp only
 refine qq<|sr<|mv Y<|mo (s:=.row _) Y<|lE h λdS iV h=>lL Y Y iV<|lE h λfo iW h=>ls _ Y Y iW<|dn ?_;cases fo;refine cF<|bP<|aV.x<|aV.x<|bw.x<|aV.n ?_;obtain rfl:=O (F h);exact⟨xh,B5 _ Y,wR []⟩;refine cT<|bp<|aV.n<|qq<|bj<|aW<|mo (s:=.row _) Y<|mv Y<|mo (s:=.row _) Y<|mv Y<|bE (V h) λiI pM h=>iR Y Y Y pM ?_;obtain⟨⟨⟨n9,oa⟩,⟨oc,oe⟩⟩,oD,h⟩:=bS h;refine lA Y Y oD ?_;obtain⟨⟨⟨pB,n6⟩,⟨Ea,Eb⟩⟩,oS,h⟩:=bS h;refine cl (DY oS) ⟨Y,aq⟩<|bE h λkV rT h=>iR Y Y Y rT<|bE h λth n8 h=>sA ⟨⟨pB,n6⟩,⟨Ea,Eb⟩⟩ Y Y Y n8<|RT.done<|bw.n<|aV.n<|aW<|mv Y<|lE h λfg j0 h=>ad _ Y Y j0<|ag Y<|RT.done ?_;obtain rfl:=O h;exact aV.n ⟨(fg,th),B4 _ Y,wR []⟩;subst B3
 try dsimp only
 refine aV.n<|sr<|fa Y Y<|lV Y Y Y<|fa Y Y<|lV Y Y Y<|fa Y Y<|lV Y Y Y<|bI (cs:=[_,_,_,_]) (cs':=[ay bu,slc 1 (List.map (eS 4 eQ) bt),slc 1 (List.map (eS 4 eQ) bH),.v (.slice none 0 0)]) (.one Y (.one Y (.one Y (.nil)))) ⟨au,au,au,au,aq⟩<|al (cs:=[ay 0,slc 1 (List.map (eS 4 eQ) []),slc 1 (List.map (eS 4 eQ) []),.v (.slice none 0 0)]) (by exact⟨au,aB,aB,au,aq⟩) Y ?_;refine so Y Y Y<|dn<|bO (rm 7 3 302 36 4 Y Y Y T)<|qq<|sr<|ag Y<|dn<|bO (cC (i:=12) (E1:=36) (n:=4) (e:=eQ) (l:=qO) Y)<|bE tD λe23 abx aby=>?_;refine bJ (λ(o3:(List Qr))=>AS.cu 68 [(1,.sv (slc 4 (List.map eQ qO))),(4,.ptr 4 0),(7,.ptr 7 0)] [(7,⟨26,[ai bu,.sv (slc 1 (List.map (eS 4 eQ) bt)),.sv (slc 1 (List.map (eS 4 eQ) bH)),.row 304]⟩),(4,⟨26,[ai 0,.sv (slc 1 (List.map (eS 4 eQ) [])),.sv (slc 1 (List.map (eS 4 eQ) [])),.sv (slc 4 (List.map eQ []))]⟩)] [(304,TR 36 4 eQ o3)]) (λo3=>o3=e23) ?_ (λo3 abz=>?_);refine bj ?_
 refine bK abx (λTh=>AS.cu 68 [(1,.sv (slc 4 (List.map eQ qO))),(2,.ptr 2 0),(4,.ptr 4 0),(7,.ptr 7 0),(8,ai Th.1)] [(7,⟨26,[ai bu,.sv (slc 1 (List.map (eS 4 eQ) bt)),.sv (slc 1 (List.map (eS 4 eQ) bH)),.row 304]⟩),(4,⟨26,[ai 0,.sv (slc 1 (List.map (eS 4 eQ) [])),.sv (slc 1 (List.map (eS 4 eQ) [])),.sv (slc 4 (List.map eQ []))]⟩),(2,⟨26,[ai bu,.sv (slc 1 (List.map (eS 4 eQ) bt)),.sv (slc 1 (List.map (eS 4 eQ) bH)),.sv (slc 4 (List.map eQ bT))]⟩)] [(304,TR 36 4 eQ Th.2)]) (c8 (λi=>bif Nat.beq i 304 then 302 else i) Y Y Y Y Y ⟨.sv au,.ptr,.ptr,.ptr,.sv au,aq⟩ ⟨⟨_,Y,⟨.sv au,.sv au,.sv au,.row Y,aq⟩⟩,⟨_,Y,⟨.sv au,.sv au,.sv au,.sv au,aq⟩⟩,⟨_,Y,⟨.sv au,.sv au,.sv au,.sv au,aq⟩⟩,aq⟩ ⟨⟨_,Y,eW.refl _⟩,aq⟩ (λi hi=>by rw[cA (show i≠304 by omega)];rfl)) (λTh y23 G23 h abA abB=>?_);obtain⟨zG,u0⟩:=Th
 try dsimp only
 refine qq<|qq ?_;refine bB h (λOQ=>AS.cu 68 [(1,.sv (slc 4 (List.map eQ qO))),(2,.ptr 2 0),(4,.ptr 4 0),(7,.ptr 7 0),(8,ai zG),(45,aj OQ)] [(7,⟨26,[ai bu,.sv (slc 1 (List.map (eS 4 eQ) bt)),.sv (slc 1 (List.map (eS 4 eQ) bH)),.row 304]⟩),(4,⟨26,[ai 0,.sv (slc 1 (List.map (eS 4 eQ) [])),.sv (slc 1 (List.map (eS 4 eQ) [])),.sv (slc 4 (List.map eQ []))]⟩),(2,⟨26,[ai bu,.sv (slc 1 (List.map (eS 4 eQ) bt)),.sv (slc 1 (List.map (eS 4 eQ) bH)),.sv (slc 4 (List.map eQ bT))]⟩)] [(304,TR 36 4 eQ u0)]) (λh=>?_) (λF2 h=>?_);refine aW<|mv Y<|fa Y Y<|lV Y Y Y<|lE h λxz Fz h=>ln Y Fz<|lE h λua DE h=>ls _ Y Y DE<|mv Y<|bE h λKX za h=>?_;cases ua;obtain rfl:=O (F za);exact ww<|ww<|ww<|ww<|ww<|pF Y<|dn<|⟨false,h,wR []⟩;refine gm Y<|RT.fieldAddr (.some Y Y) Y T Y<|RT.q9 (.some Y Y) Y Y Y T<|lE (V za) λBQ IP za=>gn Y IP<|lE za λuE DF za=>RT.lss (.some Y Y) _ Y Y T DF ?_;obtain rfl:=O za;exact pT Y<|dn<|⟨uE,h,wR []⟩
 try dsimp only
 refine aV.n ?_;cases F2;refine cF<|bP<|aV.x<|aV.x<|bw.x<|aV.n ?_;obtain rfl:=O (F h);exact⟨u0,abB _ Y,wR []⟩;refine cT<|bp<|aV.n<|qq<|bj<|bh mixed<|fa Y Y<|RT.nr .none (s:=.row _) Y Y Y T<|fa Y Y<|lV Y Y Y<|mv Y ?_;obtain⟨⟨⟨PL,PM⟩,⟨PN,PO⟩⟩,Rh,h⟩:=bS (V h);refine ix Y Y Rh<|RT.nu (cs:=[_,_,_,_]) .none Y T Y Y<|fa Y Y<|lV Y Y Y<|mv Y<|bE h λMM Ur h=>ix Y Y Ur<|lr Y Y<|mv Y ?_;obtain⟨⟨⟨PR,PS⟩,⟨PT,PU⟩⟩,Up,h⟩:=bS h;refine cl (oT Up) ⟨Y,Y,aq⟩ ?_;obtain⟨⟨⟨G3,G4⟩,⟨G5,G7⟩⟩,Uv,h⟩:=bS h;refine cl (DZ Uv) ⟨Y,Y,aq⟩<|bl (l:=[⟨⟨G3,G4⟩,⟨G5,G7⟩⟩]) (e:=eQ) (.agg Y (.nil)) Y Y Y Y Y Y<|bE h λR4 Iu h=>aR (k:=[⟨⟨G3,G4⟩,⟨G5,G7⟩⟩]) (e:=eQ) Y Y Y Iu<|fa Y Y<|RT.pR (cells:=[_,_,_,_]) .none Y Y Y Y T Y ?_;refine RT.done ⟨by kernel_rfl,?_⟩;refine bw.n<|aV.n<|aW<|mv Y<|lE h λuc yQ h=>ad _ Y Y yQ<|ag Y<|RT.done ?_;obtain rfl:=O h;exact aV.n ⟨(uc,R4),abA _ Y,c8 (λi=>bif Nat.beq i 304 then 64 else i) Y Y Y Y Y ⟨.sv au,.ptr,.ptr,.ptr,.sv au,aq⟩ ⟨⟨_,Y,⟨.sv au,.sv au,.sv au,.row Y,aq⟩⟩,⟨_,Y,⟨.sv au,.sv au,.sv au,.sv au,aq⟩⟩,⟨_,Y,⟨.sv au,.sv au,.sv au,.sv au,aq⟩⟩,aq⟩ ⟨⟨_,Y,eW.refl _⟩,aq⟩ (λi hi=>by rw[cA (show i≠304 by omega)];rfl)⟩;subst abz
 try dsimp only
 refine aV.n<|qq<|bO (cC (i:=304) (E1:=36) (n:=4) (e:=eQ) (l:=o3) Y)<|aW<|ld Y Y (.k4 Y Y Y Y)<|mv Y<|so Y Y Y<|ag Y<|dn<|bf ?_;obtain rfl:=O aby;exact RZ (.agg Y Y (.k4 Y Y Y Y) Y (.tmp Y (.nil)))
end
section
open Go.Fw Go.Fw.Z Go.RowKit
set_option maxHeartbeats 4000000 in
theorem o4{x0:Lr}{x1:List Qr}{x2:List Qr}{r:Bool}(h:fy x0 x1 x2=some r):Pure ah 6 [.agg (Dl x0),slc 4 (List.map eQ x1),slc 4 (List.map eQ x2)] (az r):=by
 obtain⟨bu,bt,bH,bT⟩:=x0;refine aZ Tryz.func6 Y (af Y) (λdy M vs hvs=>?_);unfold fy at h;refine sr<|bx Y<|ag Y<|dn<|qq<|qq ?_;refine bB h (λj6=>AS.cu 107 [(1,.sv (slc 4 (List.map eQ x1))),(2,.sv (slc 4 (List.map eQ x2))),(3,.ptr 3 0),(26,aj j6)] [(3,⟨26,[ai bu,.sv (slc 1 (List.map (eS 4 eQ) bt)),.sv (slc 1 (List.map (eS 4 eQ) bH)),.sv (slc 4 (List.map eQ bT))]⟩)] []) (λh=>?_) (λKY h=>?_);refine aW<|ld Y Y (.k4 Y Y Y Y)<|bE h λdS iV h=>cl (AK iV) ⟨Y,aq⟩<|mv Y<|bE h λLg Ij h=>?_;cases dS;refine gm Y<|gm Y<|RT.gE (l:=[x1,x2]) (e:=(eS 4 eQ)) (.some Y Y) (.one Y (.one Y (.nil))) T Y Y Y Y Y Y<|bE (F Ij) λja oR Ij=>gc (gY oR) ⟨Y,aq⟩ ?_;obtain rfl:=O Ij;refine pF Y<|mv Y<|bE h λabC DW h=>?_;cases ja;refine gl Y Y (.k4 Y Y Y Y)<|bE (F DW) λic oD DW=>gc (nH oD) ⟨Y,aq⟩<|lE DW λm6 oS DW=>TY Y _ oS ?_;obtain rfl:=O DW;exact pF Y<|dn<|⟨m6,h,wR []⟩;obtain rfl:=O (V DW);exact ww<|ww<|ww<|pT Y<|dn<|⟨true,h,wR []⟩;obtain rfl:=O (V Ij);refine ww<|ww<|ww<|ww<|pT Y<|mv Y<|bE h λabD tH h=>?_;obtain rfl:=O (V tH);exact ww<|ww<|ww<|pT Y<|dn<|⟨true,h,wR []⟩
 try dsimp only
 refine aV.n ?_;cases KY;refine fs<|sr<|ld Y Y (.k4 Y Y Y Y)<|mv Y ?_;obtain⟨⟨⟨F3,CB,F4,F5⟩,It⟩,xS,h⟩:=bS (F h);refine cl (sK xS) ⟨Y,Y,aq⟩<|mv Y<|ex Y Y<|ex Y Y<|al (cs:=[ay 0,slc 1 (List.map (eS 4 eQ) []),slc 1 (List.map (eS 4 eQ) []),slc 4 (List.map eQ [])]) (by exact⟨au,aB,aB,aB,aq⟩) Y<|so Y Y Y<|ag Y<|dn<|sr<|ld Y Y (.k4 Y Y Y Y) ?_;obtain⟨⟨⟨F6,F7,F8,F9⟩,KZ⟩,wh,h⟩:=bS h;refine cl (tN wh) ⟨Y,aq⟩<|mv Y<|ex Y Y<|ex Y Y<|al (cs:=[ay 0,slc 1 (List.map (eS 4 eQ) []),slc 1 (List.map (eS 4 eQ) []),slc 4 (List.map eQ [])]) (by exact⟨au,aB,aB,aB,aq⟩) Y<|so Y Y Y<|ag Y<|dn<|qq<|sr<|mv Y<|lE h λkU rA h=>ne _ Y Y (HU (p:=KZ) (q:=0) rA)<|dn ?_;cases kU;refine fs<|qq<|qq ?_;refine bB (F h) (λj15=>AS.cu 107 [(1,.sv (slc 4 (List.map eQ It))),(2,.sv (slc 4 (List.map eQ x2))),(8,.ptr 8 0),(55,aj j15)] [(8,⟨26,[ai F6,.sv (slc 1 (List.map (eS 4 eQ) F7)),.sv (slc 1 (List.map (eS 4 eQ) F8)),.sv (slc 4 (List.map eQ F9))]⟩)] []) (λh=>?_) (λGa h=>?_);refine aW<|ld Y Y (.k4 Y Y Y Y)<|mv Y<|bE h λxQ h48 h=>cl (iC h48) ⟨Y,Y,aq⟩<|lE h λMI MQ h=>nt Y _ MQ<|mv Y<|bE h λLf DV h=>?_;cases MI
 refine RT.fieldAddr (.some Y Y) Y T Y<|RT.q9 (.some Y Y) Y Y Y T<|lE (F DV) λRL Rh DV=>gn Y Rh<|lE DV λAt EV DV=>S0 _ Y Y (xy (p:=RL) (q:=0) EV) ?_;obtain rfl:=O DV;exact pF Y<|dn<|⟨At,h,wR []⟩;obtain rfl:=O (V DV);exact ww<|ww<|ww<|ww<|pT Y<|dn<|⟨true,h,wR []⟩
 try dsimp only
 refine aV.n ?_;cases Ga;refine fs<|sr<|ld Y Y (.k4 Y Y Y Y)<|mv Y ?_;obtain⟨⟨⟨zH,zI,zJ,zK⟩,Na⟩,Re,h⟩:=bS (F h);refine cl (sK Re) ⟨Y,Y,aq⟩<|mv Y<|ex Y Y<|ex Y Y<|so Y Y Y<|ag Y<|dn<|sr<|ld Y Y (.k4 Y Y Y Y) ?_;obtain⟨⟨⟨CC,CD,CE,CF⟩,R7⟩,Iu,h⟩:=bS h;refine cl (tN Iu) ⟨Y,aq⟩<|mv Y<|ex Y Y<|ex Y Y<|al (cs:=[ay 0,slc 1 (List.map (eS 4 eQ) []),slc 1 (List.map (eS 4 eQ) []),slc 4 (List.map eQ [])]) (by exact⟨au,aB,aB,aB,aq⟩) Y<|so Y Y Y<|ag Y<|dn<|qq<|qq ?_;refine bB h (λYW=>AS.cu 107 [(1,.sv (slc 4 (List.map eQ It))),(2,.sv (slc 4 (List.map eQ Na))),(8,.ptr 8 0),(10,.ptr 10 0),(80,aj YW)] [(10,⟨26,[ai CC,.sv (slc 1 (List.map (eS 4 eQ) CD)),.sv (slc 1 (List.map (eS 4 eQ) CE)),.sv (slc 4 (List.map eQ CF))]⟩),(8,⟨26,[ai zH,.sv (slc 1 (List.map (eS 4 eQ) zI)),.sv (slc 1 (List.map (eS 4 eQ) zJ)),.sv (slc 4 (List.map eQ zK))]⟩)] []) (λh=>?_) (λGb h=>?_);refine aW<|mv Y<|lE h λL0 Us h=>ne _ Y Y (HU (p:=R7) (q:=0) Us)<|mv Y<|bE h λLe ze h=>?_;cases L0;refine gl Y Y (.k4 Y Y Y Y)<|gm Y<|bE (F ze) λGQ Ri ze=>gc (iC Ri) ⟨Y,Y,aq⟩<|lE ze λTc ZZ ze=>TY Y _ ZZ ?_;obtain rfl:=O ze;refine pF Y<|mv Y<|bE h λabE zf h=>?_;cases Tc
 refine gl Y Y (.k4 Y Y Y Y)<|gm Y<|bE (F zf) λTg h78 zf=>gc (iC h78) ⟨Y,Y,aq⟩<|lE zf λS7 Yk zf=>TY Y _ Yk ?_;obtain rfl:=O zf;exact pF Y<|dn<|⟨S7,h,wR []⟩;obtain rfl:=O (V zf);exact ww<|ww<|ww<|ww<|pT Y<|dn<|⟨true,h,wR []⟩;obtain rfl:=O (V ze);refine ww<|ww<|ww<|ww<|pT Y<|mv Y<|bE h λabF Rx h=>?_;obtain rfl:=O (V Rx);exact ww<|ww<|ww<|ww<|pT Y<|dn<|⟨true,h,wR []⟩
 try dsimp only
 refine aV.n ?_;cases Gb;refine fs<|qq<|bh mixed<|ld Y Y (.k4 Y Y Y Y)<|mv Y<|bE (F h) λWd h83 h=>cl (jM h83) ⟨Y,Y,aq⟩<|ld Y Y (.k4 Y Y Y Y)<|mv Y<|bE h λEU Ux h=>cl (jM Ux) ⟨Y,Y,aq⟩<|ag Y<|ag Y ?_;refine RT.done ⟨by kernel_rfl,?_⟩;refine aV.n<|qq<|qq ?_;refine bB h (λON=>AS.cu 107 [(12,.sv (slc 4 (List.map eQ Wd))),(13,.sv (slc 4 (List.map eQ EU))),(94,aj ON)] [] []) (λh=>?_) (λGc h=>?_);refine aW<|mv Y<|lE h λTd Z4 h=>ln Y Z4<|lE h λQ0 Ym h=>ne _ Y Y (HU (p:=Td) (q:=1) Ym)<|mv Y<|bE h λLd zb h=>?_;cases Q0;refine gm Y<|lE (F zb) λS8 Yp zb=>gn Y Yp<|lE zb λQ2 Yq zb=>gq _ Y Y (HU (p:=S8) (q:=1) Yq) ?_;obtain rfl:=O zb;exact pF Y<|dn<|⟨Q2,h,wR []⟩;obtain rfl:=O (V zb);exact ww<|ww<|ww<|pT Y<|dn<|⟨true,h,wR []⟩
 try dsimp only
 refine aV.n ?_;cases Gc;refine fs<|qq ?_;refine bB (F h) (λj27=>AS.cu 107 [(6,aj j27)] [] []) (λh=>?_) (λPW h=>?_);refine bh mixed<|mv Y ?_;obtain⟨⟨⟨PX,PY⟩,⟨PZ,P0⟩⟩,h96,h⟩:=bS h;refine ix Y Y h96<|RT.nu (cs:=[_,_,_,_]) .none Y T Y Y<|mv Y ?_;obtain⟨⟨⟨P1,P2⟩,⟨P3,P4⟩⟩,Z9,h⟩:=bS h;refine ix Y Y Z9<|RT.nu (cs:=[_,_,_,_]) .none Y T Y Y ?_;obtain⟨⟨⟨K1,La⟩,⟨Lb,Lc⟩⟩,abG,h⟩:=bS h;refine cl (w7 abG) ⟨Y,Y,aq⟩<|bE h λAq J0 h=>cl (l9 J0) ⟨Y,aq⟩<|lE h λH8 Rj h=>RT.leq .none _ Y Y T Rj<|mv Y<|bE h λHe Cc h=>?_;cases H8;obtain rfl:=O (F Cc);refine ww<|pF Y<|ag Y ?_;refine RT.done ⟨by kernel_rfl,?_⟩;exact aV.n<|⟨false,h,wR []⟩;refine bE (V Cc) λAr J1 Cc=>gc (mP J1) trivial ?_;obtain rfl:=O Cc;refine pT Y<|ag Y ?_;refine RT.done ⟨by kernel_rfl,?_⟩;exact aV.n<|⟨Ar,h,wR []⟩
 try dsimp only
 refine aV.n<|bf ?_;obtain rfl:=O h;exact R1 Y;refine cT<|sr<|ag Y<|dn<|bf<|aV.r ?_;obtain rfl:=O (V h);exact R1 Y;refine cT<|sr<|ag Y<|dn<|bf<|aV.r ?_;obtain rfl:=O (V h);exact R1 Y;refine cT<|sr<|ag Y<|dn<|bf<|aV.r ?_;obtain rfl:=O (V h);exact R1 Y;refine cT<|qq ?_;refine bB (V h) (λj11=>AS.cu 107 [(6,aj j11)] [] []) (λh=>?_) (λPV h=>?_);refine aW<|mv Y<|lE h λqa BZ h=>eq _ Y Y (xy (p:=KZ) (q:=1) BZ)<|mv Y<|bE h λK0 Nh h=>?_;cases qa;obtain rfl:=O (F Nh);exact ww<|pF Y<|ag Y<|dn<|⟨false,h,wR []⟩;refine bE (V Nh) λuE DF Nh=>gc (mP DF) trivial ?_;obtain rfl:=O Nh;exact pT Y<|ag Y<|dn<|⟨uE,h,wR []⟩
 try dsimp only
 refine aV.n<|bf<|aV.r ?_;obtain rfl:=O h;exact R1 Y;refine cT<|sr<|bE (V h) λgy m9 h=>cl (mP m9) trivial<|ag Y<|dn<|bf<|aV.r ?_;obtain rfl:=O h;exact R1 Y
end
end Go.Proofs.YtfoldppidpmchaaGreat
namespace Go.Fw
section
theorem fZ{n:Nat}(h:n<=9223372036854775807):IntKind.i64.wrap (n:Int)=n:=jF (by omega)
theorem ct{x:Int}(h: -9223372036854775808<=x)(h':x<=9223372036854775807):IntKind.i64.wrap x=x:=jF ⟨h,h'⟩
theorem b8{n:Nat}(h:n<9223372036854775807):IntKind.i64.wrap ((n:Int)+1)=((n+1:Nat):Int):=by rw[jF (by omega)];simp
theorem kP{n m:Nat}(h:n+m<=9223372036854775807):IntKind.i64.wrap ((n:Int)+(m:Int))=((n+m:Nat):Int):=by rw[jF (by omega)];simp
theorem zO{n:Nat}(h:n<=9223372036854775807):IntKind.i64.wrap (((n+1:Nat):Int)-1)=(n:Int):=by rw[jF (by omega)];omega
theorem bM{α:Type}{l:List α}{i:Nat}{a:α}(h:l[i]? =some a):cX l (i:Int)=some a:=by simp[cX,h]
theorem mw{α:Type}{l:List α}{a:α}(h:l[0]? =some a):cX l 0=some a:=by simp[cX,h]
theorem Lh{α:Type}{l:List α}{a:α}(h:l[1]? =some a):cX l 1=some a:=by simp[cX,h]
theorem dZ{α:Type}{l:List α}{i:Nat}(h:i<l.length):r7 l (i:Int)=some i:=by simp[r7,h]
theorem gR{α:Type}{l:List α}{i:Nat}{y:α}(h:i<l.length):stM l i y=some (l.set i y):=by simp[stM,h]
theorem Li{α:Type}{b:Nat}{l k:List α}(h:(l.length+k.length)*b<=140737488355328)(h':l.length+k.length<=140737488355328):sW b l k=some (l++k):=by simp[sW,h,h']
theorem P5{b n M:Nat}(hb:1<=b/\b<=1000)(h:n*b<=M):n<=M:=Nat.le_trans (Nat.le_mul_of_pos_right n hb.1) h
theorem va{α:Type}{b:Nat}{l:List α}{x:α}(hb:1<=b/\b<=1000)(h:(l.length+1)*b<=140737488355328):sW b l [x]=some (l++[x]):=Li h (P5 hb h)
theorem Sd{α:Type}{b:Nat}{l k:List α}(hb:1<=b/\b<=1000)(h:(l.length+k.length)*b<=140737488355328):sW b l k=some (l++k):=Li h (P5 hb h)
theorem Eh{b n:Nat}(hb:2<=b/\b<=1000)(h:b*n<=281474976710656):0<=(n:Int)/\(b:Int)*(n:Int)<=281474976710656/\(n:Int)<=140737488355328:=by
 have h2:(b:Int)*(n:Int)=((b*n:Nat):Int):=by simp
 have h3:2*n<=b*n:=Nat.mul_le_mul_right _ hb.1;rw[h2];exact⟨by omega,by omega,by omega⟩
theorem Ge{α:Type}{b:Nat}{n:Nat}(hb:2<=b/\b<=1000)(h:b*n<=281474976710656):Mv (α:=α) b (n:Int)=some []:=by
 unfold Mv;rw[if_pos (Eh hb h)]
theorem o5{α:Type}{b:Nat}{n:Nat}{z:α}(hb:2<=b/\b<=1000)(h:b*n<=281474976710656):C0 b (n:Int) z=some (List.replicate n z):=by
 unfold C0;rw[if_pos (Eh hb h),Int.toNat_natCast]
theorem Lj{α:Type}{l:List α}{i j:Nat}(h:i<=j)(h':j<=l.length):xx l (i:Int) (j:Int)=some (cut l i j):=by
 unfold xx;rw[if_pos ⟨by omega,by omega,by omega⟩];simp
theorem jz{α:Type}{l:List α}{j:Nat}(h':j<=l.length):xx l 0 (j:Int)=some (l.take j):=by
 have:=Lj (l:=l) (i:=0) (j:=j) (by omega) h';simpa[cut]using this
theorem o6{M a b:Nat}(h:b<=a)(h':a<M):mE M a b=a-b:=by
 unfold mE;rw[show(a:Int)-(b:Int)=((a-b:Nat):Int) by omega,<-Int.natCast_emod,Int.toNat_natCast,Nat.mod_eq_of_lt (by omega)]
theorem vc{M a b:Nat}(h:a<b)(h':b<=M):mE M a b=M+a-b:=by
 unfold mE;have:((a:Int)-(b:Int))%(M:Int)=((M+a-b:Nat):Int):=by
  rw[<-Int.add_emod_right (a:=(a:Int)-b),show(a:Int)-(b:Int)+(M:Int)=((M+a-b:Nat):Int) by omega,<-Int.natCast_emod,Nat.mod_eq_of_lt (by omega)]
 rw[this,Int.toNat_natCast]
theorem xT{o n i:Nat}(h:i<n):LZ o n (i:Int)=some (o+i):=by simp[LZ,h]
theorem om{α:Type}{l l':List α}(h:l'.length=l.length):sg l l'=some ():=by simp[sg,h]
theorem CG{M a b:Nat}(h:b≠0)(h':a<M):BF M a b=some (a/b):=by
 unfold BF;rw[if_neg h,Nat.mod_eq_of_lt (Nat.lt_of_le_of_lt (Nat.div_le_self _ _) h')]
theorem xU{a b:Nat}(h:b≠0):Ak a b=some (a%b):=by unfold Ak;rw[if_neg h]
theorem bD{α β:Type}{a:α}{f:α->Option β}:Option.bind (some a) f=f a:=by
 have h:∀o,o=some a->Option.bind o f=f a:=by intro o ho;rw[ho];rfl
 exact h _ Y
theorem eL{α:Type}{x y:α}:(bif true then x else y)=x:=by
 have h:∀b,b=true->(bif b then x else y)=x:=by intro b hb;rw[hb];rfl
 exact h _ Y
theorem fC{α:Type}{x y:α}:(bif false then x else y)=y:=by
 have h:∀b,b=false->(bif b then x else y)=y:=by intro b hb;rw[hb];rfl
 exact h _ Y
theorem gu{S E R:Type}{body:S->Option (S⊕E)}{s:S}{f:E->Option R}{r:R}(I:S->Prop)(Post:E->Prop)(μ:S->Nat)
  (step:∀s,I s->(∃s',body s=some (.inl s')/\I s'/\μ s'<μ s)\/(∃e,body s=some (.inr e)/\Post e)) (h:I s) (hf:∀e,Post e->f e=some r):(cf body s).bind f=some r:=by
 obtain⟨e,h1,h2⟩:=vS I Post μ step h;rw[h1];exact hf e h2
theorem me{S E R:Type}{body:S->Option (S⊕E)}{s:S}{f:E->Option R}{Q:R->Prop}(I:S->Prop)(Post:E->Prop)(μ:S->Nat)
  (step:∀s,I s->(∃s',body s=some (.inl s')/\I s'/\μ s'<μ s)\/(∃e,body s=some (.inr e)/\Post e)) (h:I s) (hf:∀e,Post e->∃r,f e=some r/\Q r):∃r,(cf body s).bind f=some r/\Q r:=by
 obtain⟨e,h1,h2⟩:=vS I Post μ step h;rw[h1];exact hf e h2
theorem bF{S E R:Type}{body:S->Option (S⊕E)}{s:S}{f:E->Option R}{r:R}(st:Nat->S)(n:Nat)(e:E)(h0:s=st 0)(hs:∀k,k<n->body (st k)=some (.inl (st (k+1))))(he:body (st n)=some (.inr e))(hf:f e=some r):(cf body s).bind f=some r:=by
 rw[h0,Jq st n hs he];exact hf
theorem mQ{S R:Type}{body:Nat->S->Option S}{s:S}{f:S->Option R}{r:R}(st:Nat->S){n:Nat}(h0:s=st 0)(hs:∀k,k<n->body k (st k)=some (st (k+1)))(hf:f (st n)=some r):(nM body n s).bind f=some r:=by
 rw[h0,AZ st n hs];exact hf
theorem aA{α β:Type}{x:Option α}{a:α}{f:α->Option β}{r:Option β}(h:x=some a)(hf:f a=r):x.bind f=r:=by rw[h];exact hf
theorem cg{α:Type}{b:Bool}{x y r:α}(hb:b=true)(h:x=r):(bif b then x else y)=r:=by rw[hb];exact h
theorem b9{α:Type}{b:Bool}{x y r:α}(hb:b=false)(h:y=r):(bif b then x else y)=r:=by rw[hb];exact h
end
section
def val(B:Nat):List Nat->Nat
 |[]=>0
 |x::l=>x+B*val B l
def dI(B:Nat):Nat->Nat->List Nat
 |0,_=>[]
 |n+1,v=>v%B::dI B n (v/B)
def iE(ws:List Nat):List Nat:=(ws.reverse.dropWhile (· ==0)).reverse
def can(B v:Nat):List Nat:=iE (dI B v v)
theorem bC(B:Nat):∀n v,(dI B n v).length=n
 |0,_=>rfl
 |n+1,v=>by simp[dI,bC B n]
theorem jV(B:Nat):∀n v,val B (dI B n v)=v%B^n
 |0,v=>by simp[dI,val,Nat.mod_one]
 |n+1,v=>by
  rw[dI,val,jV B n,Nat.pow_succ,Nat.mul_comm (B^n) B,Nat.mod_mul]
theorem lS{B:Nat}(hB:0<B):∀(n v x:Nat),x∈dI B n v->x<B
 |n+1,v,x,h=>by
  rcases List.mem_cons.1 h with rfl|h
  ·exact Nat.mod_lt _ hB
  exact lS hB n _ x h
theorem eG{B:Nat}:∀(l:List Nat),(∀x∈l,x<B)->val B l<B^l.length
 |[],_=>by simp[val]
 |x::l,h=>by
  have h1:=eG l (λy hy=>h y (List.mem_cons_of_mem _ hy));have h2:=h x (by simp);rw[val,List.length_cons,Nat.pow_succ]
  calc x+B*val B l<B+B*val B l:=by omega
   _=B*(val B l+1):=by rw[Nat.mul_add];omega
   _<=B*B^l.length:=Nat.mul_le_mul_left _ h1
   _=B^l.length*B:=Nat.mul_comm _ _
theorem xV{B:Nat}:∀(l:List Nat),(∀x∈l,x<B)->dI B l.length (val B l)=l
 |[],_=>rfl
 |x::l,h=>by
  have h2:=h x (by simp);have hB:0<B:=by omega
  rw[List.length_cons,dI,val,Nat.add_mul_mod_self_left,Nat.mod_eq_of_lt h2,Nat.add_mul_div_left _ _ hB,Nat.div_eq_of_lt h2,Nat.zero_add,xV l (λy hy=>h y (List.mem_cons_of_mem _ hy))]
theorem ve{B:Nat}:∀(n v j:Nat),j<n->(dI B n v)[j]? =some (v/B^j%B)
 |n+1,v,0,_=>by simp[dI]
 |n+1,v,j+1,h=>by
  rw[dI,List.getElem?_cons_succ,ve n _ j (by omega),Nat.div_div_eq_div_mul,Nat.pow_succ,Nat.mul_comm B]
theorem CH{B:Nat}:∀(a b:List Nat),val B (a++b)=val B a+B^a.length*val B b
 |[],b=>by simp[val]
 |x::a,b=>by
  rw[List.cons_append,val,val,CH a b,List.length_cons,Nat.pow_succ,Nat.mul_add,Nat.add_assoc,Nat.mul_comm (B^a.length) B,Nat.mul_assoc]
theorem gw{B:Nat}:∀(n v:Nat),dI B (n+1) v=dI B n v++[v/B^n%B]
 |0,v=>by simp[dI]
 |n+1,v=>by
  rw[dI,gw n,dI,List.cons_append,Nat.div_div_eq_div_mul,Nat.pow_succ,Nat.mul_comm B]
theorem oq(B:Nat):∀k,dI B k 0=List.replicate k 0
 |0=>rfl
 |k+1=>by rw[dI,Nat.zero_mod,Nat.zero_div,oq B k];rfl
theorem zP{B:Nat}(hB:0<B):∀(n k v:Nat),v<B^n->dI B (n+k) v=dI B n v++List.replicate k 0
 |0,k,v,h=>by
  have:v=0:=by simpa using h
  subst this;rw[Nat.zero_add,oq];rfl
 |n+1,k,v,h=>by
  rw[show n+1+k=n+k+1 by omega,dI,dI,List.cons_append,zP hB n k (v/B) (by rw[Nat.div_lt_iff_lt_mul hB];rwa[Nat.pow_succ]at h)]
theorem o7{B:Nat}(hB:2<=B):∀v,v<B^v
 |0=>by simp
 |v+1=>by
  have:=o7 hB v;rw[Nat.pow_succ];have h2:B^v*2<=B^v*B:=Nat.mul_le_mul_left _ hB;omega
theorem mR(l:List Nat):iE (l++[0])=iE l:=by simp[iE]
theorem qP(l:List Nat):∀k,iE (l++List.replicate k 0)=iE l
 |0=>by simp
 |k+1=>by rw[List.replicate_succ',<-List.append_assoc,mR,qP l k]
theorem o8(l:List Nat){x:Nat}(h:x≠0):iE (l++[x])=l++[x]:=by simp[iE,h]
theorem tR(xs:List Nat):xs=[]\/(∃ys,xs=ys++[0])\/(∃ys y,y≠0/\xs=ys++[y]):=by
 rcases List.eq_nil_or_concat xs with rfl|⟨ys,y,rfl⟩
 ·exact .inl Y
 by_cases hy:y=0
 ·subst hy;exact .inr (.inl ⟨ys,by simp⟩)
 exact .inr (.inr ⟨ys,y,hy,by simp⟩)
theorem wC:∀(n:Nat) (l:List Nat),l.length=n->∃k,l=iE l++List.replicate k 0:=by
 intro n
 induction n with
 |zero=>intro l h;obtain rfl:=List.length_eq_zero_iff.1 h;exact⟨0,Y⟩
 |succ n ih=>
  intro l h;rcases tR l with rfl|⟨ys,rfl⟩|⟨ys,y,hy,rfl⟩
  ·simp at h
  ·obtain⟨k,hk⟩:=ih ys (by simpa using h);refine⟨k+1,?_⟩;rw[mR,List.replicate_succ',<-List.append_assoc,<-hk]
  exact⟨0,by rw[o8 _ hy];simp⟩
theorem IA{l:List Nat}{x:Nat}(h:x∈iE l):x∈l:=by
 obtain⟨k,hk⟩:=wC _ l Y;rw[hk];exact List.mem_append_left _ h
theorem Be(l:List Nat):(iE l).length<=l.length:=by
 obtain⟨k,hk⟩:=wC _ l Y;have:=congrArg List.length hk;rw[List.length_append]at this;omega
theorem Bf(B:Nat):∀k,val B (List.replicate k 0)=0
 |0=>rfl
 |k+1=>by rw[List.replicate_succ,val,Bf B k];simp
theorem Lk(B:Nat)(l:List Nat):val B (iE l)=val B l:=by
 obtain⟨k,hk⟩:=wC _ l Y
 conv=>rhs;rw[hk,CH,Bf]
 simp
theorem lI{B:Nat}(hB:2<=B){n v:Nat}(h:v<B^n):iE (dI B n v)=can B v:=by
 have hv:=o7 hB v;rcases Nat.le_total n v with hn|hn
 ·obtain⟨k,rfl⟩:=Nat.exists_eq_add_of_le hn;rw[can,zP (by omega) n k _ h,qP]
 obtain⟨k,rfl⟩:=Nat.exists_eq_add_of_le hn;rw[can,zP (by omega) v k _ hv,qP]
theorem iF{B:Nat}(hB:2<=B){l:List Nat}(h:∀x∈l,x<B):iE l=can B (val B l):=by
 conv=>lhs;rw[<-xV l h]
 exact lI hB (eG l h)
theorem iO{B:Nat}(hB:2<=B)(v:Nat):val B (can B v)=v:=by
 rw[can,Lk,jV,Nat.mod_eq_of_lt (o7 hB v)]
theorem eu{B:Nat}(hB:2<=B){v x:Nat}(h:x∈can B v):x<B:=lS (by omega) v v x (IA h)
theorem mS(B:Nat):can B 0=[]:=rfl
theorem vf{B:Nat}(hB:2<=B){v:Nat}(h:can B v=[]):v=0:=by have:=iO hB v;rw[h]at this;exact this.symm
theorem Ni{B:Nat}(hB:2<=B){v n:Nat}(h:v<B^n):(can B v).length<=n:=by
 rw[<-lI hB h];have:=Be (dI B n v);rwa[bC]at this
theorem Nj{B:Nat}(hB:2<=B)(v:Nat):iE (can B v)=can B v:=by
 rw[iF hB (λx hx=>eu hB hx),iO hB]
theorem Hf{B:Nat}(hB:2<=B)(v:Nat):can B v=dI B (can B v).length v:=by
 have:=xV (can B v) (λx hx=>eu hB hx);rw[iO hB]at this;exact this.symm
theorem cm{B:Nat}(hB:2<=B)(v:Nat):v<B^(can B v).length:=by
 have:=eG (can B v) (λx hx=>eu hB hx);rwa[iO hB]at this
theorem rE{B:Nat}(hB:2<=B){v j:Nat}(h:j<(can B v).length):(can B v)[j]? =some (v/B^j%B):=by
 rw[Hf hB v]at h⊢;rw[bC]at h;exact ve _ _ _ h
theorem zQ{B:Nat}(hB:2<=B){v j:Nat}(h:(can B v).length<=j):v/B^j=0:=by
 refine Nat.div_eq_of_lt (Nat.lt_of_lt_of_le (cm hB v) ?_);exact Nat.pow_le_pow_right (by omega) h
theorem Ei{B:Nat}(hB:2<=B){v:Nat}(h:v≠0):∃l x,x≠0/\can B v=l++[x]:=by
 rcases tR (can B v)with e|⟨ys,e⟩|⟨ys,y,hy,e⟩
 ·exact absurd (vf hB e) h
 ·exfalso;have h1:=Nj hB v;rw[e,mR]at h1;have h2:=Be ys;rw[h1]at h2;simp at h2;omega
 exact⟨ys,y,hy,e⟩
theorem nR{B:Nat}(hB:2<=B){v n:Nat}(h:n<(can B v).length):B^n<=v:=by
 by_cases h0:v=0
 ·subst h0;simp[mS]at h
 obtain⟨l,x,hx,e⟩:=Ei hB h0;have h1:=iO hB v;rw[e,CH]at h1;have hl:n<=l.length:=by rw[e]at h;simp at h;omega
 have h2:B^n<=B^l.length:=Nat.pow_le_pow_right (by omega) hl;have h3:B^l.length<=B^l.length*val B [x]:=Nat.le_mul_of_pos_right _ (by simp[val];omega);omega
theorem bN{B:Nat}(hB:2<=B){v n:Nat}:(can B v).length<=n↔v<B^n:=by
 refine⟨λh=>?_,Ni hB⟩;exact Nat.lt_of_lt_of_le (cm hB v) (Nat.pow_le_pow_right (by omega) h)
theorem Ll{B:Nat}(hB:2<=B){l:List Nat}{x:Nat}(hx:x≠0)(h:∀y∈l++[x],y<B):l++[x]=can B (val B (l++[x])):=by
 rw[<-iF hB h,o8 _ hx]
theorem ot{B:Nat}:∀(l:List Nat),(∀x∈l,x<B)->∀k,l.getD k 0=val B l/B^k%B
 |[],_,k=>by simp[val]
 |x::l,h,0=>by
  have h2:=h x (by simp);simp[val,Nat.add_mul_mod_self_left,Nat.mod_eq_of_lt h2]
 |x::l,h,k+1=>by
  have h2:=h x (by simp);have hB:0<B:=by omega
  rw[List.getD_cons_succ,ot l (λy hy=>h y (List.mem_cons_of_mem _ hy)) k,val,Nat.pow_succ,Nat.mul_comm (B^k) B,<-Nat.div_div_eq_div_mul,Nat.add_mul_div_left _ _ hB,Nat.div_eq_of_lt h2,Nat.zero_add]
theorem fL(B V k:Nat):V%B^(k+1)=V%B^k+B^k*(V/B^k%B):=by
 rw[Nat.pow_succ,Nat.mod_mul]
def xW(B V W k:Nat):Nat:=(V%B^k+W%B^k)/B^k
theorem zR{B:Nat}(hB:0<B)(V W k:Nat):xW B V W k<=1:=by
 have hP:0<B^k:=Nat.pow_pos hB;have h1:=Nat.mod_lt V hP;have h2:=Nat.mod_lt W hP;have:xW B V W k<2:=by rw[xW,Nat.div_lt_iff_lt_mul hP];omega
 omega
theorem zS{B:Nat}(hB:0<B)(V W k:Nat):(V/B^k%B+W/B^k%B+xW B V W k)/B=xW B V W (k+1):=by
 have hP:0<B^k:=Nat.pow_pos hB;rw[xW,xW,fL,fL,Nat.pow_succ,<-Nat.div_div_eq_div_mul];congr 1;rw[show V%B^k+B^k*(V/B^k%B)+(W%B^k+B^k*(W/B^k%B))=(V%B^k+W%B^k)+B^k*(V/B^k%B+W/B^k%B) by rw[Nat.mul_add];omega,Nat.add_mul_div_left _ _ hP];omega
theorem xX{B:Nat}(hB:0<B)(V W k:Nat):(V/B^k%B+W/B^k%B+xW B V W k)%B=(V+W)/B^k%B:=by
 have hP:0<B^k:=Nat.pow_pos hB;have h:(V+W)/B^k=V/B^k+W/B^k+xW B V W k:=by
  have e1:=Nat.div_add_mod V (B^k);have e2:=Nat.div_add_mod W (B^k);rw[xW]
  conv=>lhs;rw[<-e1,<-e2]
  rw[show B^k*(V/B^k)+V%B^k+(B^k*(W/B^k)+W%B^k)=(V%B^k+W%B^k)+B^k*(V/B^k+W/B^k) by rw[Nat.mul_add];omega,Nat.add_mul_div_left _ _ hP];omega
 rw[h];simp[Nat.add_mod]
theorem CI{B:Nat}{V W k:Nat}(hV:V<B^k)(hW:W<B^k):xW B V W k=(V+W)/B^k:=by
 rw[xW,Nat.mod_eq_of_lt hV,Nat.mod_eq_of_lt hW]
theorem zT(B V W:Nat):xW B V W 0=0:=by simp[xW,Nat.mod_one]
def wD(B V W k:Nat):Nat:=(V%B^k+B^k-W%B^k)/B^k
theorem zU(B V W:Nat):wD B V W 0=1:=by simp[wD,Nat.mod_one]
theorem Gf{B:Nat}(hB:0<B)(V W k:Nat):wD B V W k<=1:=by
 have hP:0<B^k:=Nat.pow_pos hB;have h1:=Nat.mod_lt V hP;have:wD B V W k<2:=by
  rw[wD,Nat.div_lt_iff_lt_mul hP];generalize W%B^k=y at*;generalize V%B^k=x at*;omega
 omega
theorem Hg{B:Nat}(hB:0<B)(V W k:Nat):V%B^(k+1)+B^(k+1)-W%B^(k+1)=(V%B^k+B^k-W%B^k)+B^k*(V/B^k%B+(B-1-W/B^k%B)):=by
 have hP:0<B^k:=Nat.pow_pos hB;have h1:=Nat.mod_lt V hP;have h2:=Nat.mod_lt W hP;have h3:=Nat.mod_lt (W/B^k) hB;rw[fL,fL,Nat.pow_succ];generalize B^k=p at*;generalize V/p%B=x at*;generalize W/p%B=y at*;obtain⟨z,rfl⟩:∃z,B=y+1+z:=⟨B-y-1,by omega⟩;have e1:y+1+z-1-y=z:=by omega
 rw[e1,Nat.mul_add p x z,Nat.mul_add p (y+1) z,Nat.mul_add p y 1];omega
theorem zV{B:Nat}(hB:0<B)(V W k:Nat):(V/B^k%B+(B-1-W/B^k%B)+wD B V W k)/B=wD B V W (k+1):=by
 have hP:0<B^k:=Nat.pow_pos hB;rw[wD,wD,Hg hB,Nat.pow_succ,<-Nat.div_div_eq_div_mul,Nat.add_mul_div_left _ _ hP];congr 1;omega
theorem Gg{Q V W:Nat}(hQ:0<Q)(h:W<=V):(V%Q+Q-W%Q)%Q=(V-W)%Q:=by
 have e1:=Nat.div_add_mod V Q;have e2:=Nat.div_add_mod W Q;have h1:=Nat.mod_lt V hQ;have h2:=Nat.mod_lt W hQ;have hq:W/Q<=V/Q:=Nat.div_le_div_right h;generalize V%Q=r at*;generalize W%Q=s at*;generalize V/Q=a at*;generalize W/Q=b at*;obtain⟨c,rfl⟩:=Nat.exists_eq_add_of_le hq;rw[Nat.mul_add]at e1;rcases Nat.lt_or_ge r s with hrs|hrs
 ·cases c with
  |zero=>simp at e1;omega
  |succ c=>
   rw[Nat.mul_add,Nat.mul_one]at e1;rw[show V-W=Q*c+(r+Q-s) by omega,Nat.mul_add_mod]
 rw[show V-W=Q*c+(r-s) by omega,Nat.mul_add_mod,show r+Q-s=r-s+Q by omega,Nat.add_mod_right]
theorem CJ{B:Nat}(hB:0<B){V W:Nat}(h:W<=V)(k:Nat):(V/B^k%B+(B-1-W/B^k%B)+wD B V W k)%B=(V-W)/B^k%B:=by
 have hP:0<B^k:=Nat.pow_pos hB;have hQ:0<B^(k+1):=Nat.pow_pos hB;have e:=Gg hQ h;have e2:V/B^k%B+(B-1-W/B^k%B)+wD B V W k=(V%B^(k+1)+B^(k+1)-W%B^(k+1))/B^k:=by
  rw[Hg hB,Nat.add_mul_div_left _ _ hP,wD];omega
 rw[e2,<-Nat.mod_mul_right_div_self,<-Nat.mod_mul_right_div_self,<-Nat.pow_succ,e]
end
section
theorem Hh{B:Nat}(hB:0<B):∀(j N lo p d hi:Nat),lo<B^j->p<B->d<B->j<N->(dI B N (lo+B^j*(p+B*hi))).set j d=dI B N (lo+B^j*(d+B*hi))
 |0,N+1,lo,p,d,hi,hlo,hp,hd,_=>by
  have:lo=0:=by simpa using hlo
  subst this;simp only[Nat.pow_zero,Nat.zero_add,Nat.one_mul,dI,List.set_cons_zero,Nat.add_mul_mod_self_left,Nat.mod_eq_of_lt hd];rw[Nat.add_mul_div_left _ _ hB,Nat.add_mul_div_left _ _ hB,Nat.div_eq_of_lt hp,Nat.div_eq_of_lt hd]
 |j+1,N+1,lo,p,d,hi,hlo,hp,hd,hN=>by
  have e:∀q,(lo+B^(j+1)*(q+B*hi))%B=lo%B:=λq=>by
   rw[Nat.pow_succ,Nat.mul_comm (B^j) B,Nat.mul_assoc,Nat.add_mul_mod_self_left]
  have e2:∀q,(lo+B^(j+1)*(q+B*hi))/B=lo/B+B^j*(q+B*hi):=λq=>by
   rw[Nat.pow_succ,Nat.mul_comm (B^j) B,Nat.mul_assoc,Nat.add_mul_div_left _ _ hB]
  have abH:lo/B<B^j:=by rw[Nat.div_lt_iff_lt_mul hB];rwa[Nat.pow_succ]at hlo
  rw[dI,dI,List.set_cons_succ,e,e,e2,e2,Hh hB j N (lo/B) p d hi abH hp hd (by omega)]
theorem rF{B:Nat}(hB:0<B){N j u u' d:Nat}(hj:j<N)(hd:d<B)(hlo:u'%B^j=u%B^j)(Gh:u'/B^j%B=d)(hhi:u'/B^(j+1)=u/B^(j+1)):(dI B N u).set j d=dI B N u':=by
 have hP:0<B^j:=Nat.pow_pos hB;have f:∀u,u=u%B^j+B^j*(u/B^j%B+B*(u/B^(j+1))):=λu=>by
  have e1:=Nat.mod_add_div u (B^j);have e2:=IB B u j;rw[Nat.add_comm]at e2;rw[<-e2,e1]
 rw[f u,Hh hB j N _ _ d _ (Nat.mod_lt _ hP) (Nat.mod_lt _ hB) hd hj]
 conv=>rhs;rw[f u',hlo,Gh,hhi]
where
 IB (B v m:Nat):v/B^m=B*(v/B^(m+1))+v/B^m%B:=by
  rw[Nat.pow_succ,<-Nat.div_div_eq_div_mul,Nat.div_add_mod]
def mT(B V W i k:Nat):Nat:=((V%B^i)*W)%B^(i+k)+B^i*(V/B^i%B)*(W%B^k)
def mC(B V W i k:Nat):Nat:=mT B V W i k/B^(i+k)
def mV(B V W i k:Nat):Nat:=mT B V W i k%B^(i+k)+B^(i+k)*(((V%B^i)*W)/B^(i+k))
theorem P6{B:Nat}(hB:0<B)(V W i k:Nat):mT B V W i k<B^(i+k)*B:=by
 have h1:((V%B^i)*W)%B^(i+k)<B^(i+k):=Nat.mod_lt _ (Nat.pow_pos hB);have h2:V/B^i%B<B:=Nat.mod_lt _ hB;have h3:W%B^k<B^k:=Nat.mod_lt _ (Nat.pow_pos hB);have h4:B^i*(V/B^i%B)*(W%B^k)<=B^i*(B-1)*B^k:=Nat.mul_le_mul (Nat.mul_le_mul_left _ (by omega)) (Nat.le_of_lt h3);have h5:B^i*(B-1)*B^k=B^(i+k)*(B-1):=by rw[Nat.pow_add,Nat.mul_assoc,Nat.mul_assoc,Nat.mul_comm (B-1)]
 have h6:B^(i+k)*B=B^(i+k)*(B-1)+B^(i+k):=by
  obtain⟨b,rfl⟩:∃b,B=b+1:=⟨B-1,by omega⟩;rw[Nat.add_sub_cancel,Nat.mul_add,Nat.mul_one]
 unfold mT;omega
theorem P7{B:Nat}(hB:0<B)(V W i k:Nat):mC B V W i k<B:=by
 rw[mC,Nat.div_lt_iff_lt_mul (Nat.pow_pos hB),Nat.mul_comm];exact P6 hB V W i k
theorem CK{B:Nat}(V W i k:Nat):mT B V W i (k+1)=mT B V W i k+B^(i+k)*(((V%B^i)*W)/B^(i+k)%B+(V/B^i%B)*(W/B^k%B)):=by
 have e1:((V%B^i)*W)%B^(i+(k+1))=((V%B^i)*W)%B^(i+k)+B^(i+k)*(((V%B^i)*W)/B^(i+k)%B):=by rw[<-Nat.add_assoc,fL]
 have e2:W%B^(k+1)=W%B^k+B^k*(W/B^k%B):=fL B W k;unfold mT;rw[e1,e2,Nat.mul_add,Nat.mul_add (B^(i+k))];have e3:B^i*(V/B^i%B)*(B^k*(W/B^k%B))=B^(i+k)*((V/B^i%B)*(W/B^k%B)):=by
  rw[Nat.pow_add,Nat.mul_assoc,Nat.mul_assoc,Nat.mul_left_comm (V/B^i%B)]
 omega
theorem Nk{B:Nat}(hB:0<B)(V W i k:Nat):(((V%B^i)*W)/B^(i+k)%B+(V/B^i%B)*(W/B^k%B)+mC B V W i k)/B=mC B V W i (k+1):=by
 have hP:0<B^(i+k):=Nat.pow_pos hB;rw[mC,mC,CK,<-Nat.add_assoc,Nat.pow_succ,<-Nat.div_div_eq_div_mul,Nat.add_mul_div_left _ _ hP];congr 1;omega
theorem P8{B:Nat}(V W i k:Nat):mV B V W i k%B^(i+k)=mT B V W i k%B^(i+k):=by
 rw[mV,Nat.add_mul_mod_self_left,Nat.mod_mod]
theorem Hi{B:Nat}(hB:0<B)(V W i k:Nat):mV B V W i k/B^(i+k)=((V%B^i)*W)/B^(i+k):=by
 have hP:0<B^(i+k):=Nat.pow_pos hB;rw[mV,Nat.add_mul_div_left _ _ hP,Nat.div_eq_of_lt (Nat.mod_lt _ hP),Nat.zero_add]
theorem Se{B:Nat}(hB:0<B){V W i k N:Nat}(h:i+k<N):(dI B N (mV B V W i k))[i+k]? =some (((V%B^i)*W)/B^(i+k)%B):=by
 rw[ve _ _ _ h,Hi hB]
theorem Nl{B:Nat}(hB:0<B){V W i k N:Nat}(h:i+k<N):
  (dI B N (mV B V W i k)).set (i+k) ((((V%B^i)*W)/B^(i+k)%B+(V/B^i%B)*(W/B^k%B)+mC B V W i k)%B)=dI B N (mV B V W i (k+1)):=by
 have hP:0<B^(i+k):=Nat.pow_pos hB;have hPB:B^(i+(k+1))=B^(i+k)*B:=by rw[<-Nat.add_assoc,Nat.pow_succ]
 have hs:mT B V W i (k+1)/B^(i+k)=((V%B^i)*W)/B^(i+k)%B+(V/B^i%B)*(W/B^k%B)+mC B V W i k:=by
  rw[CK,Nat.add_mul_div_left _ _ hP,mC];omega
 have ht:mT B V W i (k+1)%B^(i+k)=mT B V W i k%B^(i+k):=by rw[CK,Nat.add_mul_mod_self_left]
 refine rF hB h (Nat.mod_lt _ hB) ?_ ?_ ?_
 ·rw[P8,<-ht,mV,hPB,Nat.mul_assoc,Nat.add_mul_mod_self_left,Nat.mod_mul_right_mod]
 ·rw[mV,hPB,Nat.mul_assoc,Nat.add_mul_div_left _ _ hP,Nat.add_mul_mod_self_left,Nat.mod_mul_right_div_self,Nat.mod_mod,hs]
 rw[show i+k+1=i+(k+1) by omega,Hi hB,show i+(k+1)=i+k+1 by omega,Nat.pow_succ,<-Nat.div_div_eq_div_mul,<-Nat.div_div_eq_div_mul,Hi hB]
theorem Nm{B:Nat}(V W i:Nat):mV B V W i 0=(V%B^i)*W:=by
 rw[mV,mT,Nat.pow_zero,Nat.mod_one,Nat.mul_zero,Nat.add_zero,Nat.add_zero,Nat.mod_mod,Nat.mod_add_div]
theorem Nn{B:Nat}(hB:0<B)(V W i:Nat):mC B V W i 0=0:=by
 rw[mC,mT,Nat.pow_zero,Nat.mod_one,Nat.mul_zero,Nat.add_zero,Nat.add_zero];exact Nat.div_eq_of_lt (Nat.mod_lt _ (Nat.pow_pos hB))
theorem Sf{B:Nat}(hB:0<B){V W i n N:Nat}(hW:W<B^n)(h:i+n<N):(dI B N (mV B V W i n)).set (i+n) ((0+mC B V W i n)%B)=dI B N ((V%B^(i+1))*W):=by
 have hP:0<B^(i+n):=Nat.pow_pos hB;have hp:(V%B^i)*W<B^(i+n):=by
  have h1:V%B^i<B^i:=Nat.mod_lt _ (Nat.pow_pos hB);rw[Nat.pow_add];by_cases h0:W=0
  ·subst h0;rw[Nat.mul_zero];exact Nat.mul_pos (Nat.pow_pos hB) (Nat.pow_pos hB)
  calc (V%B^i)*W<B^i*W:=Nat.mul_lt_mul_of_pos_right h1 (by omega)
   _<=B^i*B^n:=Nat.mul_le_mul_left _ (Nat.le_of_lt hW)
 have hT:mT B V W i n=(V%B^(i+1))*W:=by
  rw[mT,Nat.mod_eq_of_lt hp,Nat.mod_eq_of_lt hW,fL,Nat.add_mul]
 have hlt:=P6 hB V W i n;rw[hT]at hlt;refine rF hB h (Nat.mod_lt _ hB) ?_ ?_ ?_
 ·rw[P8,hT]
 ·rw[Nat.zero_add,mC,hT]
 rw[Nat.pow_succ B (i+n),Nat.div_eq_of_lt hlt,<-Nat.div_div_eq_div_mul,Hi hB,Nat.div_eq_of_lt hp,Nat.zero_div]
def sT(B V f e i:Nat):Nat:=V%B^i*f+e
def sC(B V f e i:Nat):Nat:=sT B V f e i/B^i
theorem CL(B V f e:Nat):sC B V f e 0=e:=by simp[sC,sT,Nat.mod_one]
theorem Hj(B V f e i:Nat):sT B V f e (i+1)=sT B V f e i+B^i*(V/B^i%B*f):=by
 unfold sT;rw[fL,Nat.add_mul,Nat.mul_assoc];omega
theorem CM{B:Nat}(hB:0<B)(V f e i:Nat):(V/B^i%B*f+sC B V f e i)/B=sC B V f e (i+1):=by
 have hP:0<B^i:=Nat.pow_pos hB;rw[sC,sC,Hj,Nat.pow_succ,<-Nat.div_div_eq_div_mul,Nat.add_mul_div_left _ _ hP];congr 1;omega
theorem Gi{B:Nat}(hB:0<B)(V f e i:Nat):(V/B^i%B*f+sC B V f e i)%B=(V*f+e)/B^i%B:=by
 have hP:0<B^i:=Nat.pow_pos hB;have h1:V*f+e=sT B V f e (i+1)+B^i*(B*(V/B^(i+1)*f)):=by
  have e1:=Nat.mod_add_div V (B^(i+1));unfold sT
  conv=>lhs;rw[<-e1,Nat.add_mul]
  rw[Nat.pow_succ,Nat.mul_assoc,Nat.mul_assoc];omega
 rw[h1,Nat.add_mul_div_left _ _ hP,Nat.add_mul_mod_self_left,Hj,Nat.add_mul_div_left _ _ hP,sC,Nat.add_comm]
theorem Lm{B:Nat}(hB:0<B){V f e:Nat}(hf:f<B)(he:e<B)(i:Nat):sC B V f e i<B:=by
 have hP:0<B^i:=Nat.pow_pos hB;rw[sC,Nat.div_lt_iff_lt_mul hP];have h1:V%B^i<=B^i-1:=by have:=Nat.mod_lt V hP;omega
 have h2:V%B^i*f<=(B^i-1)*(B-1):=Nat.mul_le_mul h1 (by omega);obtain⟨p,hp⟩:∃p,B^i=p+1:=⟨B^i-1,by omega⟩;obtain⟨b,rfl⟩:∃b,B=b+1:=⟨B-1,by omega⟩;unfold sT;rw[hp]at h2⊢;rw[Nat.add_sub_cancel,Nat.add_sub_cancel]at h2;have h3:(b+1)*(p+1)=p*b+b+p+1:=by rw[Nat.add_mul,Nat.mul_add,Nat.mul_comm b p];omega
 omega
theorem Gj{B V f e i:Nat}(h:V<B^i):sC B V f e i=(V*f+e)/B^i:=by rw[sC,sT,Nat.mod_eq_of_lt h]
def sU(B V f e i:Nat):Nat:=sT B V f e i%B^i+B^i*(V/B^i)
def qU(B V d n:Nat):Nat:=V%B^n+B^n*(V/B^n/d)
theorem No(B V d:Nat):qU B V d 0=V/d:=by simp[qU,Nat.mod_one]
theorem Sg{B V d n:Nat}(h:V<B^n):qU B V d n=V:=by simp[qU,Nat.mod_eq_of_lt h,Nat.div_eq_of_lt h]
theorem Np(B V m:Nat):V/B^m=B*(V/B^(m+1))+V/B^m%B:=by rw[Nat.pow_succ,<-Nat.div_div_eq_div_mul,Nat.div_add_mod]
theorem P9{B d:Nat}(V m:Nat):V/B^m=(V/B^(m+1)%d*B+V/B^m%B)+d*(B*(V/B^(m+1)/d)):=by
 have h1:=Np B V m;have h2:=Nat.mod_add_div (V/B^(m+1)) d;generalize V/B^(m+1)=q at*;generalize V/B^m%B=y at*;rw[h1]
 conv=>lhs;rw[<-h2]
 rw[Nat.mul_add,Nat.mul_left_comm B d,Nat.mul_comm B (q%d)];omega
theorem Qa{B d:Nat}(hd:0<d)(V m:Nat):V/B^m/d=B*(V/B^(m+1)/d)+(V/B^(m+1)%d*B+V/B^m%B)/d:=by
 conv=>lhs;rw[P9 (B:=B) (d:=d) V m]
 rw[Nat.add_mul_div_left _ _ hd,Nat.add_comm]
theorem Ln{B d:Nat}(V m:Nat):V/B^m%d=(V/B^(m+1)%d*B+V/B^m%B)%d:=by
 conv=>lhs;rw[P9 (B:=B) (d:=d) V m]
 rw[Nat.add_mul_mod_self_left]
theorem Nq{B d:Nat}(hB:0<B)(hd:0<d)(V m:Nat):V/B^(m+1)%d*B+V/B^m%B<d*B:=by
 have h1:=Nat.mod_lt (V/B^(m+1)) hd;have h2:=Nat.mod_lt (V/B^m) hB;have h3:(V/B^(m+1)%d+1)*B<=d*B:=Nat.mul_le_mul_right _ h1;rw[Nat.add_mul]at h3;omega
theorem Lo{B:Nat}(hB:0<B)(V d n:Nat):qU B V d n/B^n=V/B^n/d:=by
 have hP:0<B^n:=Nat.pow_pos hB;rw[qU,Nat.add_mul_div_left _ _ hP,Nat.div_eq_of_lt (Nat.mod_lt _ hP),Nat.zero_add]
theorem Vf(B V d n:Nat):qU B V d n%B^n=V%B^n:=by rw[qU,Nat.add_mul_mod_self_left,Nat.mod_mod]
theorem Nr{B:Nat}(V d m:Nat):qU B V d (m+1)%B^m=V%B^m:=by
 rw[qU,Nat.pow_succ,Nat.mul_assoc,Nat.add_mul_mod_self_left,Nat.mod_mul_right_mod]
theorem Sh{B:Nat}(hB:0<B){V d m N:Nat}(h:m<N):(dI B N (qU B V d (m+1)))[m]? =some (V/B^m%B):=by
 have hP:0<B^m:=Nat.pow_pos hB;rw[ve _ _ _ h,qU,Nat.pow_succ,Nat.mul_assoc,Nat.add_mul_div_left _ _ hP,Nat.add_mul_mod_self_left,Nat.mod_mul_right_div_self,Nat.mod_mod]
theorem Ns{B:Nat}(hB:0<B){V d m N:Nat}(hd:0<d)(h:m<N):(dI B N (qU B V d (m+1))).set m ((V/B^(m+1)%d*B+V/B^m%B)/d)=dI B N (qU B V d m):=by
 have hx:(V/B^(m+1)%d*B+V/B^m%B)/d<B:=by rw[Nat.div_lt_iff_lt_mul hd,Nat.mul_comm B d];exact Nq hB hd V m
 have hq:=Qa (B:=B) hd V m;refine rF hB h hx ?_ ?_ ?_
 ·rw[Vf,Nr]
 ·rw[Lo hB,hq,Nat.mul_add_mod,Nat.mod_eq_of_lt hx]
 rw[Lo hB,Nat.pow_succ,<-Nat.div_div_eq_div_mul,Lo hB,hq,Nat.mul_add_div hB,Nat.div_eq_of_lt hx,<-Nat.pow_succ];rfl
end
section
theorem Nt{B v:Nat}(hB:2<=B)(h0:v≠0)(h:v<B):can B v=[v]:=by
 have:=Ll hB (l:=[]) h0 (by simpa using h);simpa[val]using this.symm
theorem Nu{B v:Nat}(hB:2<=B)(h0:v/B≠0)(h:v<B*B):can B v=[v%B,v/B]:=by
 have h1:v/B<B:=by rw[Nat.div_lt_iff_lt_mul (by omega)];exact h
 have h2:v%B<B:=Nat.mod_lt _ (by omega);have:=Ll hB (l:=[v%B]) h0 (by simp;exact⟨h2,h1⟩);simp only[List.cons_append,List.nil_append,val,Nat.mul_zero,Nat.add_zero]at this;rw[Nat.mod_add_div]at this;exact this.symm
theorem jW{B:Nat}{l:List Nat}(h:∀x∈l,x<B){i:Nat}(hi:i<l.length):l[i]? =some (val B l/B^i%B):=by
 rw[<-ot l h i];simp[List.getD,hi]
def wE(v w:Nat):Int:=if v<w then-1 else if v=w then 0 else 1
theorem o9{v w:Nat}(h:v<w):wE v w=-1:=by simp[wE,h]
theorem vg(v:Nat):wE v v=0:=by simp[wE]
theorem rG{v w:Nat}(h:w<v):wE v w=1:=by
 have h1:¬v<w:=by omega
 have h2:¬v=w:=by omega
 simp[wE,h1,h2]
theorem tW{B v w:Nat}(hB:2<=B)(h:(can B v).length<(can B w).length):v<w:=
 Nat.lt_of_lt_of_le (cm hB v) (nR hB h)
theorem zW(B v m:Nat):v/B^m=B*(v/B^(m+1))+v/B^m%B:=by
 rw[Nat.pow_succ,<-Nat.div_div_eq_div_mul,Nat.div_add_mod]
theorem Bg{B v w m:Nat}(h:v/B^m<w/B^m):v<w:=by
 rcases Nat.lt_or_ge v w with h1|h1
 ·exact h1
 have:=Nat.div_le_div_right (c:=B^m) h1;omega
theorem Bh{B v w m:Nat}(h:v/B^(m+1)=w/B^(m+1)):(v/B^m%B=w/B^m%B/\v/B^m=w/B^m)\/(v/B^m%B<w/B^m%B/\v<w)\/(w/B^m%B<v/B^m%B/\w<v):=by
 have h1:=zW B v m;have h2:=zW B w m;rw[<-h]at h2;rcases Nat.lt_trichotomy (v/B^m%B) (w/B^m%B)with h3|h3|h3
 ·exact .inr (.inl ⟨h3,Bg (B:=B) (m:=m) (by omega)⟩)
 ·exact .inl ⟨h3,by omega⟩
 exact .inr (.inr ⟨h3,Bg (B:=B) (m:=m) (by omega)⟩)
end
end Go.Fw
namespace Go.Proofs.YtfoldppidpmchaaGreat
section
open Go.Fw
theorem vh(l:List Nat)(hl:l.length<=9000000000000000000):bn l=some (iE l):=by
 unfold bn;refine gu (λy=>y.length<=9000000000000000000/\iE y=iE l) (λe=>e=iE l) (λy=>y.length) ?_ ⟨hl,Y⟩ (λe he=>by rw[he]);rintro y ⟨hy,ht⟩;rcases tR y with rfl|⟨ys,rfl⟩|⟨ys,x,hx,rfl⟩
 ·right;exact⟨[],by simp[cj],ht⟩
 ·left;have h1:((ys++[0]).length:Int)=((ys.length+1:Nat):Int):=by simp
  have h2:ys.length<=9223372036854775807:=by simp at hy;omega
  refine⟨ys,?_,⟨by simp at hy⊢;omega,by rw[<-ht,mR]⟩,by simp⟩;simp only[cj,Option.bind_some,h1,zO h2];rw[bM (a:=0) (by simp),jz (by simp)];simp
 right;have h1:((ys++[x]).length:Int)=((ys.length+1:Nat):Int):=by simp
 have h2:ys.length<=9223372036854775807:=by simp at hy;omega
 refine⟨ys++[x],?_,by rw[<-ht,o8 _ hx]⟩;simp only[cj,Option.bind_some,h1,zO h2];rw[bM (a:=x) (by simp)];simp[hx]
def zc(n:Bool)(v:Nat):Zr:=⟨n&&v != 0,can 4294967296 v⟩
theorem Hl(n:Bool):zc n 0=⟨false,[]⟩:=by simp[zc,mS]
theorem Lp(n:Bool){v:Nat}(h:v≠0):zc n v=⟨n,can 4294967296 v⟩:=by simp[zc,h]
def CN(l:List Nat):Prop:=(∀x∈l,x<4294967296)/\l.length<=35184372088808
def W64(l:List Nat):Prop:=(∀x∈l,x<4294967296)/\l.length<=9000000000000000000
theorem CN.x{l:List Nat}(h:CN l):W64 l:=⟨h.1,Nat.le_trans h.2 (by decide)⟩
abbrev vl(l:List Nat):Nat:=val 4294967296 l
theorem iG(n:Bool)(l:List Nat)(h:W64 l):bY n l=some (zc n (vl l)):=by
 unfold bY;rw[vh l (by have:=h.2;omega),iF (by decide) h.1];show _=some (zc n (val 4294967296 l));by_cases hz:val 4294967296 l=0
 ·rw[hz,Hl];simp[mS]
 have:can 4294967296 (val 4294967296 l)≠[]:=λe=>hz (vf (by decide) e);rw[Lp _ hz];simp[this]
theorem ou(n:Bool)(v:Nat)(h:v<18446744073709551616):dU n v=some (zc n v):=by
 unfold dU;by_cases hz:v=0
 ·subst hz;simp[Hl]
 rw[Lp _ hz];by_cases h1:v/2^32=0
 ·rw[Nt (by decide) hz (by omega)];simp only[Option.bind_some,hz,h1,decide_false,decide_true,cond_false,cond_true];rw[Nat.mod_eq_of_lt (by omega)]
 rw[Nu (by decide) (by omega) (by omega)];simp only[Option.bind_some,hz,h1,decide_false,cond_false];rw[Nat.mod_eq_of_lt (a:=v/2^32) (by omega)]
theorem Lq{a b s:Nat}(h:a<2^s):a ||| b*2^s=a+b*2^s:=by
 rw[Nat.or_comm,Nat.mul_comm b,<-Nat.two_pow_add_eq_or_of_lt h,Nat.add_comm]
theorem low_eq(l:List Nat)(h:∀x∈l,x<4294967296)(hl:l.length<=2):c9 l=some (vl l):=by
 rcases l with _|⟨x,_|⟨y,_|⟨z,l⟩⟩⟩
 ·simp[c9,vl,val]
 ·have hx:=h x (by simp);simp only[c9,mw (l:=[x]) (a:=x) rfl];simp[vl,val];omega
 ·have hx:=h x (by simp);have hy:=h y (by simp);simp only[c9,mw (l:=[x,y]) (a:=x) Y,Lh (l:=[x,y]) (a:=y) Y,Option.bind_some];rw[Nat.mod_eq_of_lt (a:=x) (by omega),Nat.mod_eq_of_lt (a:=y) (by omega),Nat.mod_eq_of_lt (a:=y*2^32) (by omega),Lq (by omega),Nat.mod_eq_of_lt (by omega)];simp[vl,val];omega
 simp at hl
theorem fP(x c:Nat)(h:x+c<18446744073709551616):bL x c=some ((x+c)%4294967296,(x+c)/4294967296):=by
 simp[bL,Nat.mod_eq_of_lt h]
theorem jd(v w:Nat)(hv:(can 4294967296 v).length<=9000000000000000000)(hw:(can 4294967296 w).length<=9000000000000000000):cE (can 4294967296 v) (can 4294967296 w)=some (wE v w):=by
 unfold cE;rcases Nat.lt_trichotomy (can 4294967296 v).length (can 4294967296 w).length with hl|hl|hl
 ·rw[o9 (tW (by decide) hl)];simp only[Option.bind_some];rw[show decide (((can 4294967296 v).length:Int)≠((can 4294967296 w).length:Int))=true by simp;omega,show decide (((can 4294967296 v).length:Int)<((can 4294967296 w).length:Int))=true by simp;omega];rfl
 ·simp only[Option.bind_some];rw[show decide (((can 4294967296 v).length:Int)≠((can 4294967296 w).length:Int))=false by simp;omega,cond_false];refine gu (λy=>∃n:Nat,y=(n:Int)-1/\n<=(can 4294967296 v).length/\v/4294967296^n=w/4294967296^n) (λe=>e=(if v=w then .inl ()else .inr (wE v w))) (λy=>(y+1).toNat) ?_ ⟨(can 4294967296 v).length,?_,Nat.le_refl _,?_⟩ ?_
  ·rintro y ⟨n,rfl,hn,he⟩;cases n with
   |zero=>
    right;have:v=w:=by simpa using he
    subst this;exact⟨_,by simp,Y⟩
   |succ m=>
    have HI:=rE (B:=4294967296) (by decide) (v:=v) (j:=m) (by omega);have Vg:=rE (B:=4294967296) (by decide) (v:=w) (j:=m) (by omega);have e0:((m+1:Nat):Int)-1=(m:Int):=by omega
    rw[e0];rcases Bh he with⟨h1,h2⟩|⟨h1,h2⟩|⟨h1,h2⟩
    ·left;refine⟨(m:Int)-1,?_,⟨m,Y,by omega,h2⟩,by omega⟩;simp only[Option.bind_some,bM HI,bM Vg,h1];rw[ct (by omega) (by omega)];simp
    ·right;refine⟨.inr (-1),?_,by rw[if_neg (by omega),o9 h2]⟩;simp only[Option.bind_some,bM HI,bM Vg];simp[h1,Nat.ne_of_lt h1]
    right;refine⟨.inr 1,?_,by rw[if_neg (by omega),rG h2]⟩;simp only[Option.bind_some,bM HI,bM Vg];simp[Nat.not_lt_of_lt h1,Nat.ne_of_gt h1]
  ·rw[ct (by omega) (by omega)]
  ·rw[zQ (by decide) (Nat.le_refl _),zQ (by decide) (by omega)]
  rintro e rfl;by_cases h:v=w
  ·subst h;simp[vg]
  simp[h]
 rw[rG (tW (by decide) hl)];simp only[Option.bind_some];rw[show decide (((can 4294967296 v).length:Int)≠((can 4294967296 w).length:Int))=true by simp;omega,show decide (((can 4294967296 v).length:Int)<((can 4294967296 w).length:Int))=false by simp;omega];rfl
theorem xY{l:List Nat}(h:∀x∈l,x<4294967296)(i:Nat):l.getD i 0<4294967296:=by
 rcases Nat.lt_or_ge i l.length with hi|hi
 ·exact h _ (List.mem_of_getElem? (pW hi))
 rw[tc hi];decide
theorem xj(a b:List Nat)(ha:CN a)(hb:CN b):dO a b=some (dI 4294967296 (max a.length b.length+1) (vl a+vl b)):=by
 obtain⟨hA,hla⟩:=ha;obtain⟨hB,hlb⟩:=hb;have hV:val 4294967296 a<4294967296^(max a.length b.length):=Nat.lt_of_lt_of_le (eG a hA) (Nat.pow_le_pow_right (by decide) (by omega));have hW:val 4294967296 b<4294967296^(max a.length b.length):=Nat.lt_of_lt_of_le (eG b hB) (Nat.pow_le_pow_right (by decide) (by omega));unfold dO;simp only[Option.bind_some];rw[show max (a.length:Int) (b.length:Int)=((max a.length b.length:Nat):Int) by omega,b8 (by omega),Ge (by decide) (by omega),Option.bind_some];refine mQ (λk=>(xW 4294967296 (vl a) (vl b) k,dI 4294967296 k (vl a+vl b))) (by simp[zT,dI]) (λk hk=>?_) ?_
 ·have hx:=xY hA k;have hy:=xY hB k;have hc:=zR (B:=4294967296) (by decide) (vl a) (vl b) k;have hxe:=ot a hA k;have hye:=ot b hB k;simp only[Option.bind_some];rw[Nat.mod_eq_of_lt (a:=a.getD k 0) (by omega),Nat.mod_eq_of_lt (a:=b.getD k 0) (by omega),Nat.mod_eq_of_lt (a:=a.getD k 0+b.getD k 0) (by omega),fP _ _ (by omega)];simp only[Option.bind_some];rw[va (by decide) (by rw[bC];omega),Option.bind_some,hxe,hye,zS (by decide),xX (by decide),<-gw]
 have hc:=zR (B:=4294967296) (by decide) (vl a) (vl b) (max a.length b.length);simp only;rw[fP _ _ (by omega)];simp only[Option.bind_some];rw[va (by decide) (by rw[bC];omega),Option.bind_some,Nat.zero_add,CI hV hW,<-gw]
theorem xk(a b:List Nat)(ha:CN a)(hb:CN b)(hl:b.length<=a.length)(hle:vl b<=vl a):cH a b=some (dI 4294967296 a.length (vl a-vl b)):=by
 obtain⟨hA,hla⟩:=ha;obtain⟨hB,hlb⟩:=hb;have hmx:max a.length b.length=a.length:=by omega
 unfold cH;simp only[Option.bind_some];rw[Ge (by decide) (by omega),Option.bind_some,hmx];refine mQ (λk=>(wD 4294967296 (vl a) (vl b) k,dI 4294967296 k (vl a-vl b))) (by simp[zU,dI]) (λk hk=>?_) Y;have hx:=xY hA k;have hy:=xY hB k;have hc:=Gf (B:=4294967296) (by decide) (vl a) (vl b) k;have hxe:=ot a hA k;have hye:=ot b hB k;simp only[Option.bind_some];rw[Nat.mod_eq_of_lt (a:=a.getD k 0) (by omega),Nat.mod_eq_of_lt (a:=b.getD k 0) (by omega),o6 (by omega) (by omega),Nat.mod_eq_of_lt (a:=a.getD k 0+(4294967295-b.getD k 0)) (by omega),fP _ _ (by omega)];simp only[Option.bind_some];rw[va (by decide) (by rw[bC];omega),Option.bind_some,hxe,hye,zV (B:=4294967296) (by decide),CJ (B:=4294967296) (by decide) hle,<-gw]
theorem Ej(a b:List Nat)(ha:CN a)(hb:CN b):eX a b=some (dI 4294967296 (a.length+b.length) (vl a*vl b)):=by
 obtain⟨hA,hla⟩:=ha;obtain⟨hB,hlb⟩:=hb;unfold eX;simp only[Option.bind_some];rw[kP (by omega),o5 (by decide) (by omega),Option.bind_some];refine bF (λi=>((i:Int),dI 4294967296 (a.length+b.length) (vl a%4294967296^i*vl b))) a.length (dI 4294967296 (a.length+b.length) (vl a%4294967296^a.length*vl b)) (by simp[Nat.mod_one,oq]) (λi hi=>?_) (by simp) (by rw[Nat.mod_eq_of_lt (eG a hA)]);have Wp:=jW hA hi;have hx:val 4294967296 a/4294967296^i%4294967296<4294967296:=Nat.mod_lt _ (by decide);simp only[Option.bind_some,show decide ((i:Int)<(a.length:Int))=true by simp;omega,cond_true];rw[bM Wp,Option.bind_some];refine bF (λk=>((k:Int),mC 4294967296 (vl a) (vl b) i k,dI 4294967296 (a.length+b.length) (mV 4294967296 (vl a) (vl b) i k))) b.length (mC 4294967296 (vl a) (vl b) i b.length,dI 4294967296 (a.length+b.length) (mV 4294967296 (vl a) (vl b) i b.length)) (by simp[Nn,Nm]) (λk hk=>?_) (by simp) ?_
 ·have hgy:=jW hB hk;have Wq:=Se (B:=4294967296) (by decide) (V:=vl a) (W:=vl b) (i:=i) (k:=k) (N:=a.length+b.length) (by omega);have hy:val 4294967296 b/4294967296^k%4294967296<4294967296:=Nat.mod_lt _ (by decide);have hp:vl a%4294967296^i*vl b/4294967296^(i+k)%4294967296<4294967296:=Nat.mod_lt _ (by decide);have hc:=P7 (B:=4294967296) (by decide) (vl a) (vl b) i k;have hxy:val 4294967296 a/4294967296^i%4294967296*(val 4294967296 b/4294967296^k%4294967296)<=4294967295*4294967295:=Nat.mul_le_mul (by omega) (by omega);simp only[Option.bind_some,show decide ((k:Int)<(b.length:Int))=true by simp;omega,cond_true];rw[bM hgy,Option.bind_some,kP (by omega),dZ (by rw[bC];omega),Option.bind_some,Wq,Option.bind_some]
  rw[Nat.mod_eq_of_lt (a:=vl a%4294967296^i*vl b/4294967296^(i+k)%4294967296) (by omega),Nat.mod_eq_of_lt (a:=val 4294967296 a/4294967296^i%4294967296) (b:=18446744073709551616) (by omega),Nat.mod_eq_of_lt (a:=val 4294967296 b/4294967296^k%4294967296) (b:=18446744073709551616) (by omega),Nat.mod_eq_of_lt (a:=val 4294967296 a/4294967296^i%4294967296*(val 4294967296 b/4294967296^k%4294967296)) (by omega),Nat.mod_eq_of_lt (a:=vl a%4294967296^i*vl b/4294967296^(i+k)%4294967296+_) (by omega),fP _ _ (by omega)];simp only[Option.bind_some];rw[gR (by rw[bC];omega),Option.bind_some,Nk (B:=4294967296) (by decide),Nl (B:=4294967296) (by decide) (by omega),b8 (by omega)]
 have hc:=P7 (B:=4294967296) (by decide) (vl a) (vl b) i b.length;simp only[Option.bind_some];rw[kP (by omega),fP _ _ (by omega)];simp only[Option.bind_some];rw[dZ (by rw[bC];omega),Option.bind_some,gR (by rw[bC];omega),Option.bind_some,Sf (B:=4294967296) (by decide) (eG b hB) (by omega),b8 (by omega)]
end
section
open Go.Fw
theorem Nv{a b s:Nat}(h:a<2^s):b*2^s ||| a=b*2^s+a:=by rw[Nat.or_comm,Lq h,Nat.add_comm]
theorem Ho{a b:Nat}(h:a<4294967296):b*4294967296 ||| a=b*4294967296+a:=Nv (s:=32) h
theorem Ek(a:List Nat)(d:Nat)(ha:CN a)(hd:0<d)(hd2:d<=4294967296):gk a d=some (vl a%d,dI 4294967296 a.length (vl a/d)):=by
 obtain⟨hA,hla⟩:=ha;unfold gk;simp only[Option.bind_some];rw[ct (by omega) (by omega)];refine bF (λi=>(vl a/4294967296^(a.length-i)%d,((a.length-i:Nat):Int)-1,dI 4294967296 a.length (qU 4294967296 (vl a) d (a.length-i)))) a.length (vl a%d,dI 4294967296 a.length (vl a/d)) ?_ (λi hi=>?_) (by simp[No]) ?_
 ·simp only[Nat.sub_zero];rw[Sg (eG a hA),xV a hA,Nat.div_eq_of_lt (eG a hA),Nat.zero_mod]
 ·obtain⟨m,hm⟩:∃m,a.length-i=m+1:=⟨a.length-i-1,by omega⟩;have hm':a.length-(i+1)=m:=by omega
  have hml:m<a.length:=by omega
  rw[hm,hm'];have hy:vl a/4294967296^m%4294967296<4294967296:=Nat.mod_lt _ (by decide);have hr:vl a/4294967296^(m+1)%d<d:=Nat.mod_lt _ hd;have hq:=Nq (B:=4294967296) (by decide) hd (vl a) m;have hqd:(vl a/4294967296^(m+1)%d*4294967296+vl a/4294967296^m%4294967296)/d<4294967296:=by rw[Nat.div_lt_iff_lt_mul hd,Nat.mul_comm 4294967296 d];exact hq
  have hg:=Sh (B:=4294967296) (by decide) (V:=vl a) (d:=d) (m:=m) (N:=a.length) hml;have hlt:vl a/4294967296^(m+1)%d*4294967296+vl a/4294967296^m%4294967296<18446744073709551616:=by omega
  have IL:vl a/4294967296^(m+1)%d*4294967296<18446744073709551616:=Nat.lt_of_le_of_lt (Nat.le_add_right _ _) hlt;have AT:vl a/4294967296^m%4294967296<18446744073709551616:=Nat.lt_of_le_of_lt (Nat.le_add_left _ _) hlt;have hi1:((m+1:Nat):Int)-1=(m:Int):=by omega
  simp only[hi1,show decide ((0:Int)<=(m:Int))=true by simp,cond_true,Option.bind_some];rw[dZ (by rw[bC];omega),Option.bind_some,hg];simp only[Option.bind_some];rw[show(2:Nat)^32=4294967296 from rfl];rw[Nat.mod_eq_of_lt (a:=vl a/4294967296^(m+1)%d*4294967296) IL,Nat.mod_eq_of_lt (a:=vl a/4294967296^m%4294967296) (b:=18446744073709551616) AT,Ho hy,Nat.mod_eq_of_lt (a:=vl a/4294967296^(m+1)%d*4294967296+vl a/4294967296^m%4294967296) hlt,CG (by omega) hlt,xU (by omega)];simp only[Option.bind_some];rw[Nat.mod_eq_of_lt (b:=4294967296) (a:=(vl a/4294967296^(m+1)%d*4294967296+vl a/4294967296^m%4294967296)/d) hqd,gR (by rw[bC];omega),Option.bind_some,ct (by omega) (by omega)];rw[Ns (B:=4294967296) (by decide) hd hml,<-Ln (B:=4294967296) (d:=d) (vl a) m]
 simp only;rw[om (by rw[bC]),Option.bind_some]
theorem shiftLeft_eq(a:List Nat)(s:Nat)(ha:CN a)(hs:s<32):eA a s=some (dI 4294967296 (a.length+1) (vl a*2^s)):=by
 obtain⟨hA,hla⟩:=ha;have hf:2^s<4294967296:=by
  have:2^s<2^32:=Nat.pow_lt_pow_right (by decide) hs;omega
 unfold eA;simp only[Option.bind_some];rw[b8 (by omega),Ge (by decide) (by omega),Option.bind_some];refine bF (λi=>((i:Int),sC 4294967296 (vl a) (2^s) 0 i,dI 4294967296 i (vl a*2^s+0))) a.length (sC 4294967296 (vl a) (2^s) 0 a.length,dI 4294967296 a.length (vl a*2^s+0)) (by simp[CL,dI]) (λi hi=>?_) (by simp) ?_
 ·have hx:vl a/4294967296^i%4294967296<4294967296:=Nat.mod_lt _ (by decide);have hc:=Lm (B:=4294967296) (by decide) (V:=vl a) hf (show(0:Nat)<4294967296 by decide) i;have hxf:vl a/4294967296^i%4294967296*2^s<=4294967295*4294967295:=Nat.mul_le_mul (by omega) (by omega);have hg:a[i]? =some (vl a/4294967296^i%4294967296):=jW hA hi;simp only[show decide ((i:Int)<(a.length:Int))=true by simp;omega,cond_true];rw[bM hg];simp only[Option.bind_some];rw[show min s 64=s by omega,Nat.mod_eq_of_lt (a:=vl a/4294967296^i%4294967296) (b:=18446744073709551616) (by omega),Nat.mod_eq_of_lt (b:=18446744073709551616) (by omega),fP _ _ (by omega)];simp only[Option.bind_some];rw[va (by decide) (by rw[bC];omega),Option.bind_some,CM (B:=4294967296) (by decide),Gi (B:=4294967296) (by decide),b8 (by omega),<-gw]
 have hc:=Lm (B:=4294967296) (by decide) (V:=vl a) hf (show(0:Nat)<4294967296 by decide) a.length;simp only;rw[fP _ _ (by omega)];simp only[Option.bind_some];rw[va (by decide) (by rw[bC];omega),Option.bind_some,Nat.zero_add,Gj (eG a hA),<-gw];simp
theorem AL(a:List Nat)(s:Nat):gH a s=eA a s:=rfl
def tX:QH:=[0,1,2,2,3,3,3,3,4,4,4,4,4,4,4,4,5,5,5,5,5,5,5,5,5,5,5,5,5,5,5,5]++List.replicate 32 6++List.replicate 64 7++List.replicate 128 8
theorem Si:∀y:Nat,y<256->r9 tX (y:Int)=some ((r9 tX (y:Int)).getD 0)/\(r9 tX (y:Int)).getD 0<=8/\y<2^(r9 tX (y:Int)).getD 0/\(y=0\/2^(r9 tX (y:Int)).getD 0<=2*y):=by decide+kernel
set_option maxRecDepth 20000 in
theorem Ls(x:Nat)(h:x<4294967296):∃n:Nat,fG x=some (n:Int)/\n<=32/\x<2^n/\(x=0\/2^n<=2*x):=by
 have key:∀(y k:Nat),y<256->y=x/2^k->k<=24->(x≠0->y≠0)->∃n:Nat,(((r9 tX ((y%256:Nat):Int)).bind λfo=>(some (IntKind.i64.wrap (fo:Int))).bind λfm=>(some (IntKind.i64.wrap ((k:Int)+fm))).bind λfg=>some fg)=some (n:Int))/\n<=32/\x<2^n/\(x=0\/2^n<=2*x):=by
  intro y k hy hyx hk hnz;obtain⟨h1,h2,h3,h4⟩:=Si y hy;rw[Nat.mod_eq_of_lt hy,h1];generalize (r9 tX (y:Int)).getD 0=t at*;have hp:0<2^k:=Nat.two_pow_pos _;have e1:2^(k+t)=2^k*2^t:=Nat.pow_add ..;have e2:=Nat.div_add_mod x (2^k);have e3:=Nat.mod_lt x hp;rw[<-hyx]at e2;refine⟨k+t,?_,by omega,?_,?_⟩
  ·simp only[Option.bind_some];rw[fZ (by omega),kP (by omega)]
  ·rw[e1];have:2^k*(y+1)<=2^k*2^t:=Nat.mul_le_mul_left _ h3;rw[Nat.mul_add]at this;omega
  rcases h4 with h4|h4
  ·left;cases Nat.eq_zero_or_pos x with
   |inl h=>exact h
   |inr h=>exact absurd h4 (hnz (by omega))
  right;rw[e1];have:2^k*2^t<=2^k*(2*y):=Nat.mul_le_mul_left _ h4;rw[show 2^k*(2*y)=2*(2^k*y) by rw[Nat.mul_left_comm]]at this;omega
 unfold fG;simp only[cj,Option.bind_some];by_cases c1:65536<=x
 ·rw[show decide (65536<=x)=true by simpa using c1];simp only[cond_true];by_cases c2:256<=x/2^16
  ·rw[show decide (256<=x/2^16)=true by simpa using c2];simp only[cond_true];rw[show IntKind.i64.wrap (16+8)=((24:Nat):Int) by decide];exact key (x/2^16/2^8) 24 (by omega) (by omega) (by omega) (by omega)
  rw[show decide (256<=x/2^16)=false by simpa using c2];simp only[cond_false];exact key (x/2^16) 16 (by omega) Y (by omega) (by omega)
 rw[show decide (65536<=x)=false by simpa using c1];simp only[cond_false];by_cases c2:256<=x
 ·rw[show decide (256<=x)=true by simpa using c2];simp only[cond_true];rw[show IntKind.i64.wrap (0+8)=((8:Nat):Int) by decide];exact key (x/2^8) 8 (by omega) Y (by omega) (by omega)
 rw[show decide (256<=x)=false by simpa using c2];simp only[cond_false];exact key x 0 (by omega) (by simp) (by omega) (λh=>h)
theorem Vh(x:Nat)(h:x<4294967296)(h0:x≠0):∃s:Nat,cS x=some (s:Int)/\s<32/\2147483648<=x*2^s/\x*2^s<4294967296:=by
 obtain⟨n,h1,h2,h3,h4⟩:=Ls x h;have h4:2^n<=2*x:=h4.resolve_left h0;have hn:n≠0:=by rintro rfl;simp at h3;omega
 refine⟨32-n,?_,by omega,?_,?_⟩
 ·unfold cS;rw[h1];simp only[Option.bind_some];rw[ct (by omega) (by omega)];congr 1;omega
 ·have:2^n*2^(32-n)<=2*x*2^(32-n):=Nat.mul_le_mul_right _ h4;rw[<-Nat.pow_add,show n+(32-n)=32 by omega,Nat.mul_assoc]at this;omega
 have:x*2^(32-n)<2^n*2^(32-n):=Nat.mul_lt_mul_of_pos_right h3 (Nat.two_pow_pos _);rw[<-Nat.pow_add,show n+(32-n)=32 by omega]at this;omega
end
end Go.Proofs.YtfoldppidpmchaaGreat
namespace Go.Fw
section
section Vi
variable {B V U W:Nat}
theorem Sj{P F T:Nat}(hP:0<P)(hF:0<F)(hV:F*P<=V)(hU:U<(T+1)*P):U/V<=T/F:=by
 have Sk:0<V:=Nat.lt_of_lt_of_le (Nat.mul_pos hF hP) hV;rw[Nat.le_div_iff_mul_le hF];rcases Nat.lt_or_ge T (U/V*F)with h|h
 ·exfalso;have h1:U/V*V<=U:=Nat.div_mul_le_self U V;have h2:U/V*(F*P)<=U/V*V:=Nat.mul_le_mul_left _ hV;have h3:(T+1)*P<=U/V*F*P:=Nat.mul_le_mul_right _ h;rw[Nat.mul_assoc]at h3;omega
 exact h
theorem Nw{P F S T u g r:Nat}(hV:(F*B+S)*P<=V)(hU:U<(T*B+u+1)*P)(Tw:g*F+r=T)(h:r*B+u<g*S):U<g*V:=by
 have h1:g*((F*B+S)*P)<=g*V:=Nat.mul_le_mul_left _ hV;have h2:(T*B+u+1)*P<=g*(F*B+S)*P:=by
  apply Nat.mul_le_mul_right;rw[Nat.mul_add,<-Nat.mul_assoc,<-Tw,Nat.add_mul];omega
 rw[Nat.mul_assoc]at h2;omega
theorem Sl{P V2 U2 g:Nat}(hV:V<(V2+1)*P)(hU:U2*P<=U)(hq:U/V<B)(hB:B<=V2)(Sk:0<V)(h:g*V2<=U2):g<=U/V+1:=by
 rcases Nat.lt_or_ge (U/V+1) g with h'|h'
 ·exfalso;have h1:U<(U/V+1)*V:=by have:=Nat.lt_div_mul_add (a:=U) Sk;rw[Nat.add_mul,Nat.one_mul];exact this
  have h2:(U/V+1)*V<=(U/V+1)*((V2+1)*P):=Nat.mul_le_mul_left _ (Nat.le_of_lt hV);have h3:g*V2*P<=U2*P:=Nat.mul_le_mul_right _ h;have h4:(U/V+2)*V2<=g*V2:=Nat.mul_le_mul_right _ h';have h5:(U/V+2)*V2*P<=g*V2*P:=Nat.mul_le_mul_right _ h4;have h6:(U/V+1)*((V2+1)*P)<=(U/V+2)*V2*P:=by
   rw[<-Nat.mul_assoc];apply Nat.mul_le_mul_right;rw[Nat.mul_add,Nat.add_mul (U/V) 2 V2,Nat.add_mul (U/V) 1 V2];omega
  omega
 exact h'
end Vi
def mix(B o i X U A:Nat):Nat:=A%B^o+B^o*(X%B^i+B^i*(U/B^i))
theorem Hp(B o i X U A:Nat):mix B o i X U A%B^o=A%B^o:=by rw[mix,Nat.add_mul_mod_self_left,Nat.mod_mod]
section mix
variable {B:Nat}(hB:0<B)(o i X U A:Nat)
include hB
theorem vi:mix B o i X U A/B^o=X%B^i+B^i*(U/B^i):=by
 rw[mix,Nat.add_mul_div_left _ _ (Nat.pow_pos hB),Nat.div_eq_of_lt (Nat.mod_lt _ (Nat.pow_pos hB)),Nat.zero_add]
theorem vk:mix B o i X U A/B^(o+i)=U/B^i:=by
 rw[Nat.pow_add,<-Nat.div_div_eq_div_mul,vi hB,Nat.add_mul_div_left _ _ (Nat.pow_pos hB),Nat.div_eq_of_lt (Nat.mod_lt _ (Nat.pow_pos hB)),Nat.zero_add]
theorem Nx:mix B o i X U A%B^(o+i)=A%B^o+B^o*(X%B^i):=by
 rw[Nat.pow_add,Nat.mod_mul,Hp,vi hB,Nat.add_mul_mod_self_left,Nat.mod_mod]
theorem CO{N:Nat}(h:o+i<N):(dI B N (mix B o i X U A)).set (o+i) (X/B^i%B)=dI B N (mix B o (i+1) X U A):=by
 apply rF hB h (Nat.mod_lt _ hB)
 ·rw[Nx hB,Nat.pow_add,Nat.mod_mul,Hp,vi hB,Nat.pow_succ B i,Nat.mul_assoc,Nat.add_mul_mod_self_left,Nat.mod_mul,Nat.add_mul_mod_self_left,Nat.mod_mod]
 ·rw[Nat.pow_add,<-Nat.div_div_eq_div_mul,vi hB,Nat.pow_succ B i,Nat.mod_mul,Nat.mul_assoc,Nat.add_assoc,<-Nat.mul_add,Nat.add_mul_div_left _ _ (Nat.pow_pos hB),Nat.div_eq_of_lt (Nat.mod_lt _ (Nat.pow_pos hB)),Nat.zero_add,Nat.add_mul_mod_self_left,Nat.mod_mod]
 have h1:=vk hB o (i+1) X U A;have h2:=vk hB o i X U A;rw[show o+i+1=o+(i+1) by omega,h1,show o+(i+1)=(o+i)+1 by omega,Nat.pow_succ B (o+i),<-Nat.div_div_eq_div_mul,h2,Nat.pow_succ,<-Nat.div_div_eq_div_mul]
end mix
theorem El{B o m X U A:Nat}(hU:U<B^m):mix B o m X U A=A%B^o+B^o*(X%B^m):=by rw[mix,Nat.div_eq_of_lt hU];simp
theorem Em{B:Nat}(o X A:Nat):mix B o 0 X (A/B^o) A=A:=by
 simp only[mix,Nat.pow_zero,Nat.mod_one,Nat.zero_add,Nat.one_mul,Nat.div_one];exact Nat.mod_add_div A (B^o)
theorem IC{B U U' T i:Nat}(h:U%B^i=U'%B^i):wD B U T i=wD B U' T i:=by rw[wD,wD,h]
theorem Lt{B:Nat}(hB:0<B){U T m i:Nat}(hi:i<m)(hT:T<=U+B^m):(U/B^i%B+(B-1-T/B^i%B)+wD B U T i)%B=(U+B^m-T)/B^i%B:=by
 have e:B^m=B^i*(B*B^(m-i-1)):=by rw[<-Nat.pow_succ',<-Nat.pow_add];congr 1;omega
 have h1:(U+B^m)%B^i=U%B^i:=by rw[e,Nat.add_mul_mod_self_left]
 have h2:(U+B^m)/B^i%B=U/B^i%B:=by rw[e,Nat.add_mul_div_left _ _ (Nat.pow_pos hB),Nat.add_mul_mod_self_left]
 rw[<-h2,IC (U':=U+B^m) h1.symm,CJ hB hT]
theorem Ny{B m U T:Nat}(hB:0<B)(hU:U<B^m)(hT:T<B^m):wD B U T m=if U<T then 0 else 1:=by
 rw[wD,Nat.mod_eq_of_lt hU,Nat.mod_eq_of_lt hT];have hp:0<B^m:=Nat.pow_pos hB;split
 ·exact Nat.div_eq_of_lt (by omega)
 rw[show U+B^m-T=(U-T)+B^m by omega,Nat.add_div_right _ hp,Nat.div_eq_of_lt (by omega)]
end
end Go.Fw
namespace Go.Proofs.YtfoldppidpmchaaGreat
section
open Go.Fw
theorem lJ{N A j:Nat}(h:j<N):(dI 4294967296 N A)[j]? =some (A/4294967296^j%4294967296):=ve N A j h
theorem two32:(2:Nat)^32=4294967296:=rfl
theorem Vj:(2:Nat)^63=9223372036854775808:=rfl
theorem CP(A o j:Nat):A/4294967296^(o+j)=A/4294967296^o/4294967296^j:=by rw[Nat.pow_add,Nat.div_div_eq_div_mul]
theorem En{N A o n:Nat}{v:List Nat}(hv:CN v)(hn:v.length=n+2)(hN:N<=35184372088809)(ho:o+(n+2)<N)
  (hU:A/4294967296^o<4294967296*vl v) (Lu:2147483648*4294967296^(n+1)<=vl v):
  ∃r,gp (dI 4294967296 N A) o (n+3) v=some r/\r.2=dI 4294967296 N A/\A/4294967296^o/vl v<=r.1/\r.1<=A/4294967296^o/vl v+1:=by
 obtain⟨hV,hlv⟩:=hv;obtain⟨U,L2⟩:∃U,A/4294967296^o=U:=⟨_,Y⟩;obtain⟨V,L3⟩:∃V,vl v=V:=⟨_,Y⟩;have xI:V<4294967296^(n+2):=by rw[<-L3,<-hn];exact eG v hV
 have Qb:0<4294967296^(n+1):=Nat.pow_pos (by decide);have hP:0<4294967296^n:=Nat.pow_pos (by decide);have Sn:4294967296^(n+1)=4294967296^n*4294967296:=Nat.pow_succ ..;have Eo:4294967296^(n+2)=4294967296^(n+1)*4294967296:=Nat.pow_succ ..;rw[L2,L3]at hU⊢;rw[L3]at Lu;have Vk:U<4294967296^(n+1)*4294967296*4294967296:=by
  have:4294967296*V<4294967296*4294967296^(n+2):=Nat.mul_lt_mul_of_pos_left xI (by decide);rw[Eo]at this;omega
 obtain⟨F,hF⟩:∃F,V/4294967296^(n+1)=F:=⟨_,Y⟩;obtain⟨S,hS⟩:∃S,V/4294967296^n%4294967296=S:=⟨_,Y⟩;obtain⟨T,hT⟩:∃T,U/4294967296^(n+1)=T:=⟨_,Y⟩;obtain⟨u,hu⟩:∃u,U/4294967296^n%4294967296=u:=⟨_,Y⟩;have abK:F<4294967296:=by rw[<-hF,Nat.div_lt_iff_lt_mul Qb];rw[Eo,Nat.mul_comm]at xI;exact xI
 have ae4:2147483648<=F:=by rw[<-hF,Nat.le_div_iff_mul_le Qb];exact Lu
 have ae5:S<4294967296:=by rw[<-hS];exact Nat.mod_lt _ (by decide)
 have Vl:u<4294967296:=by rw[<-hu];exact Nat.mod_lt _ (by decide)
 have abL:T<4294967296*4294967296:=by rw[<-hT,Nat.div_lt_iff_lt_mul Qb];rw[Nat.mul_comm,<-Nat.mul_assoc];exact Vk
 have hV2:V/4294967296^n=F*4294967296+S:=by rw[<-hF,<-hS,Sn,<-Nat.div_div_eq_div_mul,Nat.mul_comm,Nat.div_add_mod]
 have hU2:U/4294967296^n=T*4294967296+u:=by rw[<-hT,<-hu,Sn,<-Nat.div_div_eq_div_mul,Nat.mul_comm,Nat.div_add_mod]
 have hq:U/V<4294967296:=by rw[Nat.div_lt_iff_lt_mul (by omega)];exact hU
 have Vm:(F*4294967296+S)*4294967296^n<=V:=by rw[<-hV2];exact Nat.div_mul_le_self _ _
 have Vn:V<(F*4294967296+S+1)*4294967296^n:=by rw[<-hV2,Nat.add_mul,Nat.one_mul];exact Nat.lt_div_mul_add hP
 have Vo:(T*4294967296+u)*4294967296^n<=U:=by rw[<-hU2];exact Nat.div_mul_le_self _ _
 have Vp:U<(T*4294967296+u+1)*4294967296^n:=by rw[<-hU2,Nat.add_mul,Nat.one_mul];exact Nat.lt_div_mul_add hP
 have Qc:F*4294967296^(n+1)<=V:=by rw[<-hF];exact Nat.div_mul_le_self _ _
 have Qd:U<(T+1)*4294967296^(n+1):=by rw[<-hT,Nat.add_mul,Nat.one_mul];exact Nat.lt_div_mul_add Qb
 have Qe:V<(F+1)*4294967296^(n+1):=by rw[<-hF,Nat.add_mul,Nat.one_mul];exact Nat.lt_div_mul_add Qb
 have hTF:T<4294967296*(F+1):=by
  rw[<-hT,Nat.div_lt_iff_lt_mul Qb];have:4294967296*V<4294967296*((F+1)*4294967296^(n+1)):=Nat.mul_lt_mul_of_pos_left Qe (by decide);rw[Nat.mul_assoc];omega
 have g1:(dI 4294967296 N A)[o+(n+2)]? =some (U/4294967296^(n+2)%4294967296):=by rw[lJ (by omega),CP,L2]
 have g2:(dI 4294967296 N A)[o+(n+1)]? =some (U/4294967296^(n+1)%4294967296):=by rw[lJ (by omega),CP,L2]
 have g3:(dI 4294967296 N A)[o+n]? =some u:=by rw[lJ (by omega),CP,L2,hu]
 have g4:v[n+1]? =some F:=by rw[jW hV (by omega),show val 4294967296 v=V from L3,hF,Nat.mod_eq_of_lt abK]
 have g5:v[n]? =some S:=by rw[jW hV (by omega),show val 4294967296 v=V from L3,hS]
 have hun:U/4294967296^(n+2)<4294967296:=by rw[Eo,<-Nat.div_div_eq_div_mul,hT,Nat.div_lt_iff_lt_mul (by decide)];exact abL
 have Gk:U/4294967296^(n+2)%4294967296*4294967296+U/4294967296^(n+1)%4294967296=T:=by
  rw[Nat.mod_eq_of_lt hun,Eo,<-Nat.div_div_eq_div_mul,hT,Nat.mul_comm,Nat.div_add_mod]
 obtain⟨t1,ht1⟩:∃t,U/4294967296^(n+2)%4294967296=t:=⟨_,Y⟩;obtain⟨t2,ht2⟩:∃t,U/4294967296^(n+1)%4294967296=t:=⟨_,Y⟩;have l1:t1<4294967296:=by rw[<-ht1];exact Nat.mod_lt _ (by decide)
 have l2:t2<4294967296:=by rw[<-ht2];exact Nat.mod_lt _ (by decide)
 rw[ht1]at g1 Gk;rw[ht2]at g2 Gk;clear ht1 ht2 hU2 hV2;have c1:((n+2:Nat):Int)-1=((n+1:Nat):Int):=by omega
 have c2:((n+2:Nat):Int)-2=(n:Int):=by omega
 unfold gp;simp only[Option.bind_some,hn,c1,c2];rw[fZ (by omega),fZ (by omega),xT (by omega),xT (by omega),xT (by omega)];simp only[Option.bind_some];rw[g1,g2,bM g4,bM g5];simp only[Option.bind_some,two32];rw[Nat.mod_eq_of_lt (a:=t1) (by omega),Nat.mod_eq_of_lt (a:=t2) (by omega),Nat.mod_eq_of_lt (a:=t1*4294967296) (by omega),Ho l2,Gk,Nat.mod_eq_of_lt (a:=T) (by omega),Nat.mod_eq_of_lt (a:=F) (by omega),Nat.mod_eq_of_lt (a:=S) (by omega),CG (by omega) (by omega),xU (by omega)];simp only[Option.bind_some];have abQ:=Sj (V:=V) (U:=U) Qb (show 0<F by omega) Qc Qd;have hle:∀g,g*(F*4294967296+S)<=T*4294967296+u->g<=U/V+1:=λg h=>Sl (B:=4294967296) Vn Vo hq (by omega) (by omega) h;have abR:∀g r,g*F+r=T->r*4294967296+u<g*S->U/V<g:=λg r i1 ht=>(Nat.div_lt_iff_lt_mul (by omega)).2 (Nw Vm Vp i1 ht);have hg0:T/F<=4294967297:=by
  have:T/F<4294967298:=by
   rw[Nat.div_lt_iff_lt_mul (by omega)];omega
  omega
 generalize U/V=q at*;clear Vm Vn Vo Vp Qc Qd Qe hTF Vk Lu xI Sn Eo hP Qb hF hS hT hu L2 L3 hU;have hdm:=Nat.div_add_mod T F;have hml:=Nat.mod_lt T (show 0<F by omega);have abT:T/F*F+T%F=T:=by rw[Nat.mul_comm];exact hdm
 clear hdm;refine me (λx=>x.1*F+x.2=T/\q<=x.1/\x.2<4294967296/\x.1<=4294967297) (λe=>q<=e/\e<=q+1) (λx=>x.1) ?_ ⟨abT,abQ,by show T%F<_;omega,hg0⟩ ?_
 ·rintro⟨g,r⟩ ⟨i1,i2,i3,i4⟩;simp only at i1 i2 i3 i4;have down:q<g->(∃s',(bif decide ((r+F)%18446744073709551616/4294967296≠0)then some (.inr (mE 18446744073709551616 g 1))else some (.inl (mE 18446744073709551616 g 1,(r+F)%18446744073709551616)):Option ((Nat×Nat)⊕Nat))=some (.inl s')/\(s'.1*F+s'.2=T/\q<=s'.1/\s'.2<4294967296/\s'.1<=4294967297)/\s'.1<g)\/
    (∃e,(bif decide ((r+F)%18446744073709551616/4294967296≠0)then some (.inr (mE 18446744073709551616 g 1))else some (.inl (mE 18446744073709551616 g 1,(r+F)%18446744073709551616)):Option ((Nat×Nat)⊕Nat))=some (.inr e)/\q<=e/\e<=q+1):=by
   intro hlt;have e1:(g-1)*F+(r+F)=T:=by
    obtain⟨k,rfl⟩:∃k,g=k+1:=⟨g-1,by omega⟩;rw[Nat.add_sub_cancel];rw[Nat.add_mul]at i1;omega
   rw[o6 (by omega) (by omega),Nat.mod_eq_of_lt (a:=r+F) (by omega)];by_cases hb:r+F<4294967296
   ·left;refine⟨(g-1,r+F),by simp[Nat.div_eq_of_lt hb],⟨e1,by simp only;omega,hb,by simp only;omega⟩,by simp only;omega⟩
   right;have hne:(r+F)/4294967296≠0:=by omega
   refine⟨g-1,by simp[hne],by omega,?_⟩;refine hle _ ?_;have m1:(g-1)*S<=4294967296*4294967295:=Nat.mul_le_mul (by omega) (by omega);rw[Nat.mul_add,<-Nat.mul_assoc];have m2:((g-1)*F+(r+F))*4294967296=T*4294967296:=by rw[e1]
   rw[Nat.add_mul]at m2;omega
  simp only[cj,bD];by_cases hg:g<4294967296
  ·rw[show decide (g/4294967296≠0)=false by simp;omega];have hgS:g*S<=4294967295*4294967295:=Nat.mul_le_mul (by omega) (by omega);simp only[fC];rw[g3];simp only[bD];rw[Nat.mod_eq_of_lt (a:=g*S) (by omega),Nat.mod_eq_of_lt (a:=r*4294967296) (by omega),Nat.mod_eq_of_lt (a:=u) (by omega),Ho Vl,Nat.mod_eq_of_lt (a:=r*4294967296+u) (by omega)];by_cases ht:r*4294967296+u<g*S
   ·rw[show decide (r*4294967296+u<g*S)=true by simpa using ht];simp only[bD,eL];exact down (abR _ _ i1 ht)
   rw[show decide (r*4294967296+u<g*S)=false by simpa using ht];right;refine⟨g,by simp,i2,?_⟩;refine hle _ ?_;rw[Nat.mul_add,<-Nat.mul_assoc,<-i1,Nat.add_mul];omega
  rw[show decide (g/4294967296≠0)=true by simp;omega];simp only[bD,eL];exact down (by omega)
 rintro e ⟨h2,h3⟩;exact⟨(e,dI 4294967296 N A),by rw[om Y,Option.bind_some],Y,h2,h3⟩
end
section
open Go.Fw
theorem rY{N A o n f:Nat}{v:List Nat}(hv:CN v)(hn:v.length=n)(hN:N<=35184372088809)(ho:o+n<N)(hf:f<=4294967296)
  (hU:A/4294967296^o<4294967296^(n+1)):
  cI (dI 4294967296 N A) o (n+1) v f=some (decide (A/4294967296^o<vl v*f),dI 4294967296 N (A%4294967296^o+4294967296^o*((A/4294967296^o+4294967296^(n+1)-vl v*f)%4294967296^(n+1)))):=by
 obtain⟨hV,hlv⟩:=hv;obtain⟨U,L2⟩:∃U,A/4294967296^o=U:=⟨_,Y⟩;obtain⟨V,L3⟩:∃V,vl v=V:=⟨_,Y⟩;have xI:V<4294967296^n:=by rw[<-L3,<-hn];exact eG v hV
 have Mi:4294967296^(n+1)=4294967296^n*4294967296:=Nat.pow_succ ..;have hT:V*f<4294967296^(n+1):=by
  rw[Mi]
  calc V*f<=V*4294967296:=Nat.mul_le_mul_left _ hf
   _<4294967296^n*4294967296:=Nat.mul_lt_mul_of_pos_right xI (by decide)
 rw[L2]at hU⊢;rw[L3];obtain⟨X,hX⟩:∃X,U+4294967296^(n+1)-V*f=X:=⟨_,Y⟩;rw[hX];unfold cI;simp only[bD];have So:∀i,wD 4294967296 U (V*f) i<=1:=λi=>Gf (by decide) _ _ _;refine bF (λi=>(1-wD 4294967296 U (V*f) i,(i:Int),sC 4294967296 V f 0 i,dI 4294967296 N (mix 4294967296 o i X U A))) (n+1) (1-wD 4294967296 U (V*f) (n+1),dI 4294967296 N (mix 4294967296 o (n+1) X U A)) ?_ (λi hi=>?_) ?_ ?_
 ·rw[zU,CL,<-L2,Em];rfl
 ·
  obtain⟨t,ht⟩:∃t,V*f/4294967296^i%4294967296=t:=⟨_,Y⟩;obtain⟨c,hc⟩:∃c,sC 4294967296 V f 0 i=c:=⟨_,Y⟩;obtain⟨p,hp⟩:∃p,V/4294967296^i%4294967296*f=p:=⟨_,Y⟩;have ae7:c<4294967296:=by
   rw[<-hc,sC,sT,Nat.add_zero,Nat.div_lt_iff_lt_mul (Nat.pow_pos (by decide))]
   calc V%4294967296^i*f<=V%4294967296^i*4294967296:=Nat.mul_le_mul_left _ hf
    _<4294967296*4294967296^i:=by rw[Nat.mul_comm];exact Nat.mul_lt_mul_of_pos_left (Nat.mod_lt _ (Nat.pow_pos (by decide))) (by decide)
  have ae8:p<=4294967295*4294967296:=by
   rw[<-hp];exact Nat.mul_le_mul (by have:=Nat.mod_lt (V/4294967296^i) (show 0<4294967296 by decide);omega) hf
  have Gh:(p+c)%4294967296=t:=by rw[<-hp,<-hc,Gi (B:=4294967296) (by decide),Nat.add_zero,ht]
  have hstep:(p+c)/4294967296=sC 4294967296 V f 0 (i+1):=by rw[<-hp,<-hc,CM (B:=4294967296) (by decide)]
  have ae9:t<4294967296:=by rw[<-ht];exact Nat.mod_lt _ (by decide)
  obtain⟨u,hu⟩:∃u,U/4294967296^i%4294967296=u:=⟨_,Y⟩;have Vl:u<4294967296:=by rw[<-hu];exact Nat.mod_lt _ (by decide)
  have hg:(dI 4294967296 N (mix 4294967296 o i X U A))[o+i]? =some u:=by rw[lJ (by omega),vk (by decide),hu]
  have hl:=So i;obtain⟨l,hle⟩:∃l,wD 4294967296 U (V*f) i=l:=⟨_,Y⟩;have hxd:(u+(4294967296-1-t)+l)%4294967296=X/4294967296^i%4294967296:=by rw[<-hu,<-ht,<-hle,Lt (B:=4294967296) (by decide) hi (by omega),hX]
  have hls:(u+(4294967296-1-t)+l)/4294967296=wD 4294967296 U (V*f) (i+1):=by rw[<-hu,<-ht,<-hle,zV (B:=4294967296) (by decide)]
  rw[hle]at hl;have hput:=CO (B:=4294967296) (by decide) o i X U A (N:=N) (by omega);rw[hle,hc,<-hls];simp only[show decide ((i:Int)<((n+1:Nat):Int))=true by simp;omega,eL,bD,cj];rw[xT (by omega)];simp only[bD,hg];have way:∀k:Nat->Option ((Nat×Int×Nat×List Nat)⊕(Nat×List Nat)),(bif decide ((i:Int)<(v.length:Int))then(cX v (i:Int)).bind λic=>k (ic%18446744073709551616*f%18446744073709551616)else k 0)=k p:=by
   intro k;by_cases hin:i<v.length
   ·rw[show decide ((i:Int)<(v.length:Int))=true by simp;omega,eL];have HI:v[i]? =some (V/4294967296^i%4294967296):=by rw[<-L3];exact jW hV hin
    rw[bM HI,bD,Nat.mod_eq_of_lt (a:=V/4294967296^i%4294967296) (b:=18446744073709551616) (by have:=Nat.mod_lt (V/4294967296^i) (show 0<4294967296 by decide);omega),hp,Nat.mod_eq_of_lt (a:=p) (by omega)]
   rw[show decide ((i:Int)<(v.length:Int))=false by simp;omega,fC];have:V/4294967296^i=0:=Nat.div_eq_of_lt (Nat.lt_of_lt_of_le xI (Nat.pow_le_pow_right (by decide) (by omega)));rw[<-hp,this];simp
  refine(way (λy=>(bL y c).bind _)).trans ?_;rw[fP _ _ (by omega)];simp only[bD];rw[Gh,hstep,Nat.mod_eq_of_lt (a:=u) (by omega),Nat.mod_eq_of_lt (a:=t) (by omega)];rw[gR (by rw[bC];omega),bD,b8 (by omega),Vj];by_cases Qy:u<t+(1-l)
  ·have e1:mE 18446744073709551616 (mE 18446744073709551616 u t) (1-l)=18446744073709551616+u-t-(1-l):=by
    by_cases h1:u<t
    ·rw[vc h1 (by omega),o6 (by omega) (by omega)]
    rw[o6 (a:=u) (b:=t) (by omega) (by omega),vc (by omega) (by omega)];omega
   rw[e1];have e2:(18446744073709551616+u-t-(1-l))%4294967296=X/4294967296^i%4294967296:=by rw[<-hxd];omega
   have e3:(18446744073709551616+u-t-(1-l))/9223372036854775808=1-(u+(4294967296-1-t)+l)/4294967296:=by omega
   rw[e2,e3,hput]
  have e1:mE 18446744073709551616 (mE 18446744073709551616 u t) (1-l)=u-t-(1-l):=by
   rw[o6 (a:=u) (b:=t) (by omega) (by omega),o6 (by omega) (by omega)]
  rw[e1];have e2:(u-t-(1-l))%4294967296=X/4294967296^i%4294967296:=by rw[<-hxd];omega
  have e3:(u-t-(1-l))/9223372036854775808=1-(u+(4294967296-1-t)+l)/4294967296:=by omega
  rw[e2,e3,hput]
 ·simp
 simp only[bD];rw[om (by rw[bC,bC]),bD,El hU,Ny (by decide) hU hT];congr 2;by_cases h:U<V*f<;>simp[h]
end
section
open Go.Fw
theorem Vq{B V:Nat}(hB:0<B)(hV:0<V)(A k:Nat):A%(V*B^(k+1))/B^k<B*V:=by
 rw[Nat.div_lt_iff_lt_mul (Nat.pow_pos hB)];have:V*B^(k+1)=B*V*B^k:=by rw[Nat.pow_succ,Nat.mul_comm (B^k),<-Nat.mul_assoc,Nat.mul_comm V]
 rw[<-this];exact Nat.mod_lt _ (Nat.mul_pos hV (Nat.pow_pos hB))
theorem Sq{B V:Nat}(A k:Nat):A%(V*B^(k+1))%B^k+B^k*(A%(V*B^(k+1))/B^k%V)=A%(V*B^k):=by
 rw[<-Nat.mod_mul,Nat.mul_comm (B^k),Nat.mod_mod_of_dvd];rw[Nat.pow_succ,<-Nat.mul_assoc];exact Nat.dvd_mul_right _ _
theorem Sr{B V:Nat}(A k:Nat):A%(V*B^(k+1))/B^k/V=A/V/B^k%B:=by
 rw[Nat.div_div_eq_div_mul,Nat.mul_comm (B^k),Nat.pow_succ,<-Nat.mul_assoc,Nat.mod_mul_right_div_self,Nat.div_div_eq_div_mul]
theorem CQ{B:Nat}(hB:0<B){N k:Nat}(h:k<N)(Q:Nat):(dI B N (Q/B^(k+1)*B^(k+1))).set k (Q/B^k%B)=dI B N (Q/B^k*B^k):=by
 have hP:0<B^k:=Nat.pow_pos hB;refine rF hB h (Nat.mod_lt _ hB) ?_ ?_ ?_
 ·rw[Nat.mul_mod_left,Nat.pow_succ,Nat.mul_comm (B^k),<-Nat.mul_assoc,Nat.mul_mod_left]
 ·rw[Nat.mul_div_cancel _ hP]
 rw[Nat.mul_div_cancel _ (Nat.pow_pos hB),Nat.pow_succ,<-Nat.div_div_eq_div_mul,Nat.mul_div_cancel _ hP,Nat.div_div_eq_div_mul]
theorem Hq{α:Type}{l:List α}{o n:Nat}(h:o<l.length)(h':o+n<=l.length):QJ l (o:Int) ((o+n:Nat):Int)=some (o,n):=by
 unfold QJ;rw[if_pos (by omega)];congr 2;omega
theorem Nz{U V g M:Nat}(hV:0<V)(h1:U/V<=g)(h2:g<=U/V+1)(hM:U<M)(hVM:V<=M):
  (V*g<=U/\g=U/V/\(U+M-V*g)%M=U%V)\/(U<V*g/\g=U/V+1/\U+M-V*g<M/\(U+M-V*g+V)%M=U%V):=by
 have hd:=Nat.div_add_mod U V;have hm:=Nat.mod_lt U hV
 revert h1 h2 hd hm
 generalize U/V=q;generalize U%V=r;intro h1 h2 hd hm;rcases Nat.lt_or_ge q g with h|h
 ·obtain rfl:g=q+1:=by omega
  have e:V*(q+1)=V*q+V:=Nat.mul_succ ..;right;refine⟨by omega,Y,by omega,?_⟩;rw[show U+M-V*(q+1)+V=r+M by omega,Nat.add_mod_right,Nat.mod_eq_of_lt (by omega)]
 obtain rfl:g=q:=by omega
 left;refine⟨by omega,Y,?_⟩;rw[show U+M-V*g=r+M by omega,Nat.add_mod_right,Nat.mod_eq_of_lt (by omega)]
theorem NA{R D e i:Nat}(hD:0<D)(he:4294967296=D*e):(R*D/4294967296^(i+1)%4294967296*4294967296+R*D/4294967296^i%4294967296)/D%4294967296=R/4294967296^i%4294967296:=by
 have h1:R*D/4294967296^(i+1)%4294967296*4294967296+R*D/4294967296^i%4294967296=R*D/4294967296^i%(4294967296*4294967296):=by
  rw[Nat.mod_mul,Nat.div_div_eq_div_mul,show 4294967296^i*4294967296=4294967296^(i+1)from(Nat.pow_succ ..).symm,Nat.add_comm,Nat.mul_comm 4294967296]
 have h2:(4294967296*4294967296:Nat)=D*(e*4294967296):=by
  rw[<-Nat.mul_assoc,<-he]
 rw[h1,h2,Nat.mod_mul_right_div_self,Nat.mod_mul_left_mod,Nat.div_div_eq_div_mul,Nat.mul_comm (4294967296^i) D,<-Nat.div_div_eq_div_mul,Nat.mul_div_cancel _ hD]
theorem Ss{B:Nat}(hB:0<B){N i R:Nat}(h:i<N):(dI B N (R%B^i)).set i (R/B^i%B)=dI B N (R%B^(i+1)):=by
 refine rF hB h (Nat.mod_lt _ hB) ?_ ?_ ?_
 ·rw[Nat.mod_mod,Nat.mod_mod_of_dvd _ (Nat.pow_dvd_pow _ (Nat.le_succ i))]
 ·rw[Nat.pow_succ,Nat.mod_mul_right_div_self,Nat.mod_mod]
 rw[Nat.div_eq_of_lt (Nat.mod_lt _ (Nat.pow_pos hB)),Nat.div_eq_of_lt];exact Nat.lt_of_lt_of_le (Nat.mod_lt _ (Nat.pow_pos hB)) (Nat.pow_le_pow_right hB (Nat.le_succ i))
theorem Gl(a b:List Nat)(ha:CN a)(hb:CN b){n:Nat}(hn:b.length=n+2)(hl:b.length<=a.length)(Gk:b[n+1]? ≠some 0):
  gS a b=some (dI 4294967296 (a.length-b.length+1) (vl a/vl b),dI 4294967296 b.length (vl a%vl b)):=by
 obtain⟨hA,hla⟩:=ha;obtain⟨hB,hlb⟩:=hb;have hP:∀k,0<4294967296^k:=λk=>Nat.pow_pos (by decide);obtain⟨Va,hVa⟩:∃V,vl a=V:=⟨_,Y⟩;obtain⟨Vb,hVb⟩:∃V,vl b=V:=⟨_,Y⟩;have St:Vb<4294967296^(n+2):=by rw[<-hVb,<-hn];exact eG b hB
 have halt:Va<4294967296^a.length:=by rw[<-hVa];exact eG a hA
 have Eo:4294967296^(n+2)=4294967296^(n+1)*4294967296:=Nat.pow_succ ..;obtain⟨x,hx⟩:∃x,Vb/4294967296^(n+1)=x:=⟨_,Y⟩;have Vr:x<4294967296:=by rw[<-hx,Nat.div_lt_iff_lt_mul (hP _)];rw[Eo,Nat.mul_comm]at St;exact St
 have Wp:b[n+1]? =some x:=by rw[jW hB (by omega),show val 4294967296 b=Vb from hVb,hx,Nat.mod_eq_of_lt Vr]
 have hx0:x≠0:=λe=>Gk (by rw[Wp,e]);obtain⟨s,IL,AT,V9,hs4⟩:=Vh x Vr hx0;have Vs:0<2^s:=Nat.two_pow_pos s;have Vt:2^s<4294967296:=by
  have:2^s<2^32:=Nat.pow_lt_pow_right (by decide) AT;rw[two32]at this;exact this
 obtain⟨D,hD⟩:∃D,2^s=D:=⟨_,Y⟩;rw[hD]at V9 hs4 Vs Vt;obtain⟨V,hV⟩:∃V,Vb*D=V:=⟨_,Y⟩;obtain⟨A,Ws⟩:∃A,Va*D=A:=⟨_,Y⟩;have xI:V<4294967296^(n+2):=by
  have h1:Vb<(x+1)*4294967296^(n+1):=by rw[<-hx,Nat.add_mul,Nat.one_mul];exact Nat.lt_div_mul_add (hP _)
  have h2:(x+1)*D<=4294967296:=by
   obtain⟨e,he⟩:∃e,4294967296=D*e:=⟨2^(32-s),by rw[<-hD,<-Nat.pow_add,show s+(32-s)=32 by omega,two32]⟩;have h3:x<e:=by
    apply Nat.lt_of_mul_lt_mul_left (a:=D);rw[<-he,Nat.mul_comm];exact hs4
   calc (x+1)*D<=e*D:=Nat.mul_le_mul_right _ h3
    _=4294967296:=by rw[Nat.mul_comm,<-he]
  rw[<-hV,Eo]
  calc Vb*D<(x+1)*4294967296^(n+1)*D:=Nat.mul_lt_mul_of_pos_right h1 Vs
   _=4294967296^(n+1)*((x+1)*D):=by rw[Nat.mul_comm (x+1),Nat.mul_assoc]
   _<=4294967296^(n+1)*4294967296:=Nat.mul_le_mul_left _ h2
 have Lv:2147483648*4294967296^(n+1)<=V:=by
  have h1:x*4294967296^(n+1)<=Vb:=by rw[<-hx];exact Nat.div_mul_le_self _ _
  rw[<-hV]
  calc 2147483648*4294967296^(n+1)<=x*D*4294967296^(n+1):=Nat.mul_le_mul_right _ V9
   _=x*4294967296^(n+1)*D:=by rw[Nat.mul_assoc,Nat.mul_comm D,<-Nat.mul_assoc]
   _<=Vb*D:=Nat.mul_le_mul_right _ h1
 have Sk:0<V:=Nat.lt_of_lt_of_le (Nat.mul_pos (by decide) (hP _)) Lv;have hb0:0<Vb:=by
  rcases Nat.eq_zero_or_pos Vb with h|h
  ·rw[<-hV,h,Nat.zero_mul]at Sk;omega
  exact h
 have hAV:A/V=Va/Vb:=by rw[<-Ws,<-hV,Nat.mul_div_mul_right _ _ Vs]
 have abV:A%V=Va%Vb*D:=by rw[<-Ws,<-hV,Nat.mul_mod_mul_right]
 obtain⟨K,hK⟩:∃K,a.length=K+(n+2):=⟨a.length-(n+2),by omega⟩;have Vu:A<V*4294967296^(K+1):=by
  have h1:4294967296^(n+1)<=Vb:=by
   have:1*4294967296^(n+1)<=x*4294967296^(n+1):=Nat.mul_le_mul_right _ (by omega);have h2:x*4294967296^(n+1)<=Vb:=by rw[<-hx];exact Nat.div_mul_le_self _ _
   omega
  rw[<-Ws,<-hV]
  calc Va*D<4294967296^a.length*D:=Nat.mul_lt_mul_of_pos_right halt Vs
   _=4294967296^(n+1)*4294967296^(K+1)*D:=by rw[hK,<-Nat.pow_add];congr 2;omega
   _<=Vb*4294967296^(K+1)*D:=Nat.mul_le_mul_right _ (Nat.mul_le_mul_right _ h1)
   _=Vb*D*4294967296^(K+1):=by rw[Nat.mul_assoc,Nat.mul_comm _ D,<-Nat.mul_assoc]
 obtain⟨v,Wt⟩:∃v,dI 4294967296 (n+2) V=v:=⟨_,Y⟩;have hvl:v.length=n+2:=by rw[<-Wt,bC]
 have hvW:CN v:=⟨λy hy=>by rw[<-Wt]at hy;exact lS (by decide) _ _ _ hy,by omega⟩;have Vv:vl v=V:=by rw[<-Wt];show val _ _=_;rw[jV,Nat.mod_eq_of_lt xI]
 have Vw:List.take b.length (dI 4294967296 (b.length+1) (Vb*2^s))=v:=by
  rw[hD,hV,hn,gw,List.take_append_of_le_length (by rw[bC];omega),List.take_of_length_le (by rw[bC];omega),Wt]
 unfold gS;simp only[bD];rw[show((b.length:Nat):Int)-1=((n+1:Nat):Int) by omega,fZ (by omega),bM Wp,bD,IL,bD];rw[show((s:Int)%18446744073709551616).toNat=s by rw[Int.emod_eq_of_lt (by omega) (by omega)];simp];rw[AL,shiftLeft_eq a s ⟨hA,hla⟩ AT,bD,shiftLeft_eq b s ⟨hB,hlb⟩ AT,bD,jz (by rw[bC];omega),bD];obtain⟨Q,hQ⟩:∃Q,A/V=Q:=⟨_,Y⟩;have abX:Q<4294967296^(K+1):=by rw[<-hQ,Nat.div_lt_iff_lt_mul Sk,Nat.mul_comm];exact Vu
 rw[hVa,hVb,<-hAV,hQ,Vw,hD,Ws,hn];rw[show a.length-(n+2)+1=K+1 by omega];rw[ct (x:=(a.length:Int)-((n+2:Nat):Int)) (by omega) (by omega),ct (x:=(a.length:Int)-((n+2:Nat):Int)+1) (by omega) (by omega),show(a.length:Int)-((n+2:Nat):Int)+1=((K+1:Nat):Int) by omega,o5 (by decide) (by omega),bD,show(a.length:Int)-((n+2:Nat):Int)=(K:Int) by omega];refine bF (λj=>((K:Int)-(j:Int),dI 4294967296 (K+1) (Q/4294967296^(K+1-j)*4294967296^(K+1-j)),dI 4294967296 (a.length+1) (A%(V*4294967296^(K+1-j))))) (K+1) (dI 4294967296 (K+1) Q,dI 4294967296 (a.length+1) (A%V)) ?_ (λj hj=>?_) ?_ ?_
 ·rw[show K+1-0=K+1 by omega,Nat.mod_eq_of_lt Vu,Nat.div_eq_of_lt abX,Nat.zero_mul,oq];simp
 ·
  obtain⟨k,hk⟩:∃k,K=k+j:=⟨K-j,by omega⟩;rw[show K+1-j=k+1 by omega,show K+1-(j+1)=k by omega,show(K:Int)-(j:Int)=(k:Int) by omega,show(K:Int)-((j+1:Nat):Int)=(k:Int)-1 by omega];have hU:=Vq (B:=4294967296) (by decide) Sk A k;have Ep:=Sq (B:=4294967296) (V:=V) A k;have Su:=Sr (B:=4294967296) (V:=V) A k;obtain⟨N,hN⟩:∃N,a.length+1=N:=⟨_,Y⟩;obtain⟨A1,hA1⟩:∃A1,A%(V*4294967296^(k+1))=A1:=⟨_,Y⟩;rw[hN];rw[hA1]at hU Ep Su⊢;rw[hQ]at Su;obtain⟨⟨g,lg⟩,hge,hgl,Wu,Wv⟩:=En (N:=N) (A:=A1) (o:=k) (n:=n) (v:=v) hvW hvl (by omega) (by omega) (by rw[Vv];exact hU) (by rw[Vv];exact Lv);simp only at hgl Wu Wv;rw[Vv]at Wu Wv;subst hgl;have hsub:=rY (N:=N) (A:=A1) (o:=k) (n:=n+2) (v:=v) (f:=g) hvW hvl (by omega) (by omega) ?_ ?_
  ·rw[Vv]at hsub;obtain⟨U,L2⟩:∃U,A1/4294967296^k=U:=⟨_,Y⟩;rw[L2]at hU Ep Su Wu Wv hsub;have NB:4294967296^(n+2+1)=4294967296^(n+2)*4294967296:=Nat.pow_succ ..;have hUM:U<4294967296^(n+2+1):=by
    have:4294967296*V<4294967296*4294967296^(n+2):=Nat.mul_lt_mul_of_pos_left xI (by decide);rw[NB];omega
   have Lw:=Nz (M:=4294967296^(n+2+1)) Sk Wu Wv hUM (by rw[NB];omega);have hql:U/V<4294967296:=by rw[Su];exact Nat.mod_lt _ (by decide)
   rw[show decide ((0:Int)<=(k:Int))=true by simp,eL];rw[kP (by omega),b8 (by omega),show k+(n+2)+1=k+(n+3) by omega,Hq (by rw[bC];omega) (by rw[bC];omega),bD,hge,bD,om Y,bD,Hq (by rw[bC];omega) (by rw[bC];omega),bD];show(Option.bind (cI _ k (n+2+1) v g) _)=_;rw[hsub,bD,om (by rw[bC,bC]),bD];simp only[cj];rcases Lw with⟨hc1,E6,Vx⟩|⟨hc1,E6,Vx,hc4⟩
   ·rw[show decide (U<V*g)=false by simp;omega,fC,Vx,Ep,E6,Nat.mod_eq_of_lt hql,Su,dZ (by rw[bC];omega),bD,gR (by rw[bC];omega),bD,CQ (by decide) (by omega),ct (by omega) (by omega)]
   rw[show decide (U<V*g)=true by simp;omega,eL,o6 (by omega) (by omega),show g-1=U/V by omega,Nat.mod_eq_of_lt hql,Su];rw[Nat.mod_eq_of_lt Vx];obtain⟨aa,hY⟩:∃aa,U+4294967296^(n+2+1)-V*g=aa:=⟨_,Y⟩;rw[hY]at Vx hc4⊢;obtain⟨A2,hA2⟩:∃A2,A1%4294967296^k+4294967296^k*aa=A2:=⟨_,Y⟩;rw[hA2];have Xy:A2/4294967296^k=aa:=by rw[<-hA2,Nat.add_mul_div_left _ _ (hP k),Nat.div_eq_of_lt (Nat.mod_lt _ (hP k)),Nat.zero_add]
   have WI:A2%4294967296^k=A1%4294967296^k:=by rw[<-hA2,Nat.add_mul_mod_self_left,Nat.mod_mod]
   have hcr:∀i,xW 4294967296 aa V i<=1:=λi=>zR (by decide) _ _ _;refine bF (λi=>((i:Int),xW 4294967296 aa V i,dI 4294967296 N (mix 4294967296 k i (aa+V) aa A2))) (n+2) (xW 4294967296 aa V (n+2),dI 4294967296 N (mix 4294967296 k (n+2) (aa+V) aa A2)) ?_ (λi hi=>?_) ?_ ?_
   ·rw[zT,<-Xy,Em];rfl
   ·have HI:v[i]? =some (V/4294967296^i%4294967296):=by rw[<-Vv];exact jW hvW.1 (by omega)
    have hgu:(dI 4294967296 N (mix 4294967296 k i (aa+V) aa A2))[k+i]? =some (aa/4294967296^i%4294967296):=by rw[lJ (by omega),vk (by decide)]
    have IL:=zS (B:=4294967296) (by decide) aa V i;have AT:=xX (B:=4294967296) (by decide) aa V i;have hput:=CO (B:=4294967296) (by decide) k i (aa+V) aa A2 (N:=N) (by omega);have hci:=hcr i;have hv1:=Nat.mod_lt (V/4294967296^i) (show 0<4294967296 by decide);have Tk:=Nat.mod_lt (aa/4294967296^i) (show 0<4294967296 by decide);simp only[show decide ((i:Int)<(v.length:Int))=true by simp;omega,eL];rw[bM HI,bD,kP (by omega),dZ (by rw[bC];omega),bD,hgu,bD,Nat.mod_eq_of_lt (a:=aa/4294967296^i%4294967296) (b:=18446744073709551616) (by omega),Nat.mod_eq_of_lt (a:=V/4294967296^i%4294967296) (b:=18446744073709551616) (by omega),Nat.mod_eq_of_lt (b:=18446744073709551616) (by omega),fP _ _ (by omega),bD,bD,gR (by rw[bC];omega),bD,b8 (by omega)];rw[IL,AT,hput]
   ·simp[hvl]
   have hgu:(dI 4294967296 N (mix 4294967296 k (n+2) (aa+V) aa A2))[k+(n+2)]? =some (aa/4294967296^(n+2)%4294967296):=by rw[lJ (by omega),vk (by decide)]
   have AT:=xX (B:=4294967296) (by decide) aa V (n+2);have hput:=CO (B:=4294967296) (by decide) k (n+2) (aa+V) aa A2 (N:=N) (by omega);have hci:=hcr (n+2);have Tk:=Nat.mod_lt (aa/4294967296^(n+2)) (show 0<4294967296 by decide);rw[Nat.div_eq_of_lt xI,Nat.zero_mod,Nat.add_zero]at AT;simp only[];rw[dZ (by rw[bC];omega),bD,hgu,bD,Nat.mod_eq_of_lt (a:=aa/4294967296^(n+2)%4294967296) (b:=18446744073709551616) (by omega),fP _ _ (by omega),bD,bD,gR (by rw[bC];omega),bD,AT,hput,El Vx,WI,hc4,Ep,dZ (by rw[bC];omega),bD,gR (by rw[bC];omega),bD,CQ (by decide) (by omega),ct (by omega) (by omega)]
  ·
   have hql:A1/4294967296^k/V<4294967296:=by rw[Su];exact Nat.mod_lt _ (by decide)
   omega
  have NB:4294967296^(n+2+1)=4294967296^(n+2)*4294967296:=Nat.pow_succ ..;have:4294967296*V<4294967296*4294967296^(n+2):=Nat.mul_lt_mul_of_pos_left xI (by decide);rw[NB];omega
 ·rw[show K+1-(K+1)=0 by omega,Nat.pow_zero,Nat.mul_one,Nat.mul_one,Nat.div_one,show decide (0<=(K:Int)-((K+1:Nat):Int))=false by simp;omega,fC]
 obtain⟨R,hR⟩:∃R,Va%Vb=R:=⟨_,Y⟩;rw[abV,hR];have ab1:R<4294967296^(n+2):=by rw[<-hR];exact Nat.lt_trans (Nat.mod_lt _ hb0) St
 rw[o5 (by decide) (by omega),bD];refine bF (λi=>((i:Int),dI 4294967296 (n+2) (R%4294967296^i))) (n+2) (dI 4294967296 (n+2) R) ?_ (λi hi=>?_) ?_ Y
 ·rw[Nat.pow_zero,Nat.mod_one,oq];rfl
 ·obtain⟨e,he⟩:∃e,4294967296=D*e:=⟨2^(32-s),by rw[<-hD,<-Nat.pow_add,show s+(32-s)=32 by omega,two32]⟩;have Lx:=NA (R:=R) (i:=i) Vs he;obtain⟨u,hu⟩:∃u,R*D/4294967296^i%4294967296=u:=⟨_,Y⟩;obtain⟨w,hw⟩:∃w,R*D/4294967296^(i+1)%4294967296=w:=⟨_,Y⟩;have WO:u<4294967296:=by rw[<-hu];exact Nat.mod_lt _ (by decide)
  have hw1:w<4294967296:=by rw[<-hw];exact Nat.mod_lt _ (by decide)
  rw[hu,hw]at Lx;simp only[show decide ((i:Int)<((n+2:Nat):Int))=true by simp;omega,eL];rw[dZ (by rw[bC];omega),bD,lJ (by omega),bD,hu,b8 (by omega),dZ (by rw[bC];omega),bD,lJ (by omega),bD,hw,Nat.mod_eq_of_lt (a:=u) (by omega),Nat.mod_eq_of_lt (a:=w) (by omega),two32,Nat.mod_eq_of_lt (a:=w*4294967296) (by omega),Nat.or_comm,Ho WO,Nat.mod_eq_of_lt (a:=w*4294967296+u) (by omega),show min s 64=s by omega,hD,Lx,dZ (by rw[bC];omega),bD,gR (by rw[bC];omega),bD];rw[Ss (by decide) hi]
 rw[Nat.mod_eq_of_lt ab1];simp
end
section
open Go.Fw
def sv(n:Bool)(v:Nat):Int:=bif n then-(v:Int)else v
def zi(z:Zr):Int:=sv z.neg (vl z.w)
def zn(i:Int):Zr:=⟨decide (i<0),can 4294967296 i.natAbs⟩
def Wl(z:Zr):Prop:=(∀x∈z.w,x<4294967296)/\z.w.length<=35184372088788
def Fit(L:Nat)(i:Int):Prop:=i.natAbs<4294967296^L
theorem Ly(n:Bool)(v:Nat):(sv n v).natAbs=v:=by cases n<;>simp[sv]
theorem pg(z:Zr):(zi z).natAbs=vl z.w:=Ly _ _
theorem Sv(n:Bool)(v:Nat):decide (sv n v<0)=(n&&v != 0):=by
 cases n
 ·have:¬((v:Int)<0):=by omega
  simp[sv,this]
 rcases v with _|v
 ·simp[sv]
 simp[sv]
theorem lW(n:Bool)(v:Nat):zc n v=zn (sv n v):=by rw[zc,zn,Sv,Ly]
theorem NC(i:Int):sv (decide (i<0)) i.natAbs=i:=by
 by_cases h:i<0
 ·rw[show decide (i<0)=true by simp[h]];simp[sv];omega
 rw[show decide (i<0)=false by simp[h]];simp[sv];omega
theorem eD(i:Int):zi (zn i)=i:=by
 show sv (decide (i<0)) (vl (can 4294967296 i.natAbs))=i;rw[show vl (can 4294967296 i.natAbs)=i.natAbs from iO (by decide) _,NC]
theorem zX(n:Bool)(v:Nat):sv (!n) v=-sv n v:=by cases n<;>simp[sv]
theorem gV(v:Nat):sv false v=v:=rfl
theorem Fit.mono{L M:Nat}{i:Int}(h:Fit L i)(hl:L<=M):Fit M i:=Nat.lt_of_lt_of_le h (Nat.pow_le_pow_right (by decide) hl)
theorem Fit.neg{L:Nat}{i:Int}(h:Fit L i):Fit L (-i):=by unfold Fit at*;rw[Int.natAbs_neg];exact h
theorem Fit.add{L:Nat}{i j:Int}(h:Fit L i)(h':Fit L j):Fit (L+1) (i+j):=by
 unfold Fit at*;have:=Int.natAbs_add_le i j;rw[Nat.pow_succ];omega
theorem Fit.sub{L:Nat}{i j:Int}(h:Fit L i)(h':Fit L j):Fit (L+1) (i-j):=by
 rw[Int.sub_eq_add_neg];exact h.add h'.neg
theorem Fit.mul{L M:Nat}{i j:Int}(h:Fit L i)(h':Fit M j):Fit (L+M) (i*j):=by
 unfold Fit at*;rw[Int.natAbs_mul,Nat.pow_add];exact Nat.mul_lt_mul'' h h'
theorem Fit.i64{i:Int}(h: -9223372036854775808<=i)(h':i<=9223372036854775807):Fit 2 i:=by
 unfold Fit;rw[show(4294967296:Nat)^2=18446744073709551616 by decide];omega
theorem Fit.le{L:Nat}{i j:Int}(h:Fit L i)(h':j.natAbs<=i.natAbs):Fit L j:=Nat.lt_of_le_of_lt h' h
theorem lK{L:Nat}{i:Int}(h:Fit L i)(hL:L<=35184372088788):Wl (zn i):=
 ⟨λ_ hx=>eu (by decide) hx,Nat.le_trans ((bN (by decide)).2 h) hL⟩
theorem Wl.fit{z:Zr}(h:Wl z):Fit z.w.length (zi z):=by
 unfold Fit;rw[pg];exact eG z.w h.1
theorem Wl.lt{z:Zr}(h:Wl z):vl z.w<4294967296^z.w.length:=eG z.w h.1
theorem Wl.cl{z:Zr}(h:Wl z):(can 4294967296 (vl z.w)).length<=35184372088788:=
 Nat.le_trans ((bN (by decide)).2 (Wl.lt h)) h.2
def Wx(z:Zr):Prop:=(∀x∈z.w,x<4294967296)/\z.w.length<=9000000000000000000
theorem Wl.x{z:Zr}(h:Wl z):Wx z:=⟨h.1,Nat.le_trans h.2 (by decide)⟩
theorem Qf{L:Nat}{i:Int}(h:Fit L i)(hL:L<=9000000000000000000):Wx (zn i):=
 ⟨λ_ hx=>eu (by decide) hx,Nat.le_trans ((bN (by decide)).2 h) hL⟩
theorem Wx.cl{z:Zr}(h:Wx z):(can 4294967296 (vl z.w)).length<=9000000000000000000:=
 Nat.le_trans ((bN (by decide)).2 (eG z.w h.1)) h.2
theorem Wx.trim{z:Zr}(h:Wx z):bn z.w=some (can 4294967296 (vl z.w)):=by
 rw[vh _ (by have:=h.2;omega),iF (by decide) h.1]
theorem Wl.trim{z:Zr}(h:Wl z):bn z.w=some (can 4294967296 (vl z.w)):=by
 rw[vh _ (by have:=h.2;omega),iF (by decide) h.1]
theorem fz{v:Nat}(h:(can 4294967296 v).length<=35184372088789):CN (can 4294967296 v):=⟨λ_ hx=>eu (by decide) hx,by omega⟩
theorem dK(v:Nat):vl (can 4294967296 v)=v:=iO (by decide) v
theorem fk{v:Nat}:((can 4294967296 v).length:Int)<=2↔v<18446744073709551616:=by
 have:=bN (B:=4294967296) (by decide) (v:=v) (n:=2);rw[show(4294967296:Nat)^2=18446744073709551616 by decide]at this;omega
theorem jX{v:Nat}:((can 4294967296 v).length:Int)<=1↔v<4294967296:=by
 have:=bN (B:=4294967296) (by decide) (v:=v) (n:=1);rw[show(4294967296:Nat)^1=4294967296 by decide]at this;omega
theorem mU{v:Nat}:(can 4294967296 v).length=0↔v=0:=by
 constructor
 ·intro h;exact vf (by decide) (List.length_eq_zero_iff.1 h)
 intro h;rw[h,mS];rfl
theorem qQ(l:List Nat)(h:l.length<=35184372088832):cQ l=some l:=by
 unfold cQ;rw[Sd (by decide) (by simp;omega)];simp
end
section
open Go.Fw
theorem Er(a b:Nat):decide (wE a b<0)=decide (a<b):=by
 rcases Nat.lt_trichotomy a b with h|h|h
 ·rw[o9 h];simp[h]
 ·rw[h,vg];simp
 rw[rG h];simp;omega
theorem xl(a b:Nat)(ha:(can 4294967296 a).length<=35184372088788)(hb:(can 4294967296 b).length<=35184372088788)(h0:b≠0):
  ∃q r,eY (can 4294967296 a) (can 4294967296 b)=some (q,r)/\CN q/\vl q=a/b/\CN r/\vl r=a%b/\q.length<=35184372088789/\r.length<=35184372088789:=by
 unfold eY;rw[jd a b (by omega) (by omega)];simp only[bD];by_cases hlt:a<b
 ·rw[o9 hlt];simp only[show decide ((-1:Int)<0)=true by decide,eL];rw[qQ _ (by omega)];refine⟨_,_,Y,⟨by simp,by simp⟩,?_,fz (by omega),?_,by simp,by omega⟩
  ·rw[Nat.div_eq_of_lt hlt];rfl
  rw[dK,Nat.mod_eq_of_lt hlt]
 rw[Er,show decide (a<b)=false by simp[hlt]];simp only[fC];by_cases h2:a<18446744073709551616
 ·rw[show decide (((can 4294967296 a).length:Int)<=2)=true by rw[decide_eq_true_eq];exact fk.2 h2];have AU:b<18446744073709551616:=by omega
  simp only[eL];have l1:=low_eq (can 4294967296 a) (λ_ hx=>eu (by decide) hx) (by have:=fk.2 h2;omega);have l2:=low_eq (can 4294967296 b) (λ_ hx=>eu (by decide) hx) (by have:=fk.2 AU;omega);rw[dK]at l1 l2;rw[l1,bD,l2,bD,CG h0 h2,bD,ou _ _ (Nat.lt_of_le_of_lt (Nat.div_le_self _ _) h2),bD,xU h0,bD,ou _ _ (Nat.lt_of_le_of_lt (Nat.mod_le _ _) h2),bD];have hq:a/b<18446744073709551616:=Nat.lt_of_le_of_lt (Nat.div_le_self _ _) h2;have hr:a%b<18446744073709551616:=Nat.lt_of_le_of_lt (Nat.mod_le _ _) h2;have c1:=fk.2 hq;have c2:=fk.2 hr;exact⟨_,_,Y,fz (by omega),dK _,fz (by omega),dK _,by show(can _ _).length<=_;omega,by show(can _ _).length<=_;omega⟩
 rw[show decide (((can 4294967296 a).length:Int)<=2)=false by rw[decide_eq_false_iff_not];exact λh=>h2 (fk.1 h)];simp only[fC];have sj:(can 4294967296 b).length≠0:=λh=>h0 (mU.1 h);by_cases h1:b<4294967296
 ·have h1':=jX.2 h1;rw[show decide (((can 4294967296 b).length:Int)=1)=true by simp;omega,eL];have hg:(can 4294967296 b)[0]? =some b:=by rw[rE (by decide) (by omega)];simp;exact h1
  rw[qQ _ (by omega),bD,mw hg,bD,Nat.mod_eq_of_lt (b:=18446744073709551616) (by omega),Ek _ _ (fz (by omega)) (by omega) (by omega),bD,dK];simp only[];rw[om (by rw[bC]),bD];have hm:a%b<b:=Nat.mod_lt _ (by omega);rw[Nat.mod_eq_of_lt (a:=a%b) (by omega)];refine⟨_,_,Y,⟨λx hx=>lS (by decide) _ _ _ hx,by rw[bC];omega⟩,?_,⟨?_,by simp⟩,?_,by rw[bC];omega,by simp⟩
  ·show val _ _=_;rw[jV,Nat.mod_eq_of_lt (Nat.lt_of_le_of_lt (Nat.div_le_self _ _) (cm (by decide) a))]
  ·intro x hx;simp at hx;omega
  simp[vl,val]
 have h1':¬(((can 4294967296 b).length:Int)<=1):=λh=>h1 (jX.1 h);rw[show decide (((can 4294967296 b).length:Int)=1)=false by simp;omega,fC];obtain⟨n,hn⟩:∃n,(can 4294967296 b).length=n+2:=⟨(can 4294967296 b).length-2,by omega⟩;have hl:(can 4294967296 b).length<=(can 4294967296 a).length:=(bN (by decide)).2 (Nat.lt_of_le_of_lt (by omega) (cm (by decide) a));obtain⟨l,x,hx,he⟩:=Ei (B:=4294967296) (by decide) h0;have Gk:(can 4294967296 b)[n+1]? ≠some 0:=by
  have:l.length=n+1:=by rw[he]at hn;simp at hn;omega
  rw[he,<-this];simp;exact hx
 rw[Gl _ _ (fz (by omega)) (fz (by omega)) hn hl Gk,bD,dK,dK];have hbp:0<b:=by omega
 have e1:a<4294967296^(can 4294967296 a).length:=cm (by decide) a;have e2:b<4294967296^(can 4294967296 b).length:=cm (by decide) b;have e3:4294967296^(n+1)<=b:=nR (by decide) (by omega);refine⟨_,_,Y,⟨λx hx=>lS (by decide) _ _ _ hx,by rw[bC];omega⟩,?_,⟨λx hx=>lS (by decide) _ _ _ hx,by rw[bC];omega⟩,?_,by rw[bC];omega,by rw[bC];omega⟩
 ·show val _ _=_;rw[jV,Nat.mod_eq_of_lt];rw[Nat.div_lt_iff_lt_mul hbp];have:4294967296^((can 4294967296 a).length-(can 4294967296 b).length+1)*4294967296^(n+1)=4294967296^(can 4294967296 a).length:=by rw[<-Nat.pow_add];congr 1;omega
  calc a<4294967296^((can 4294967296 a).length-(can 4294967296 b).length+1)*4294967296^(n+1):=by rw[this];exact e1
   _<=_:=Nat.mul_le_mul_left _ e3
 show val _ _=_;rw[jV,Nat.mod_eq_of_lt (Nat.lt_trans (Nat.mod_lt _ hbp) e2)]
end
end Go.Proofs.YtfoldppidpmchaaGreat
