/- A part of the proof: the framework, the plain functions, the followed functions, the plain laws. -/
import Derived.Test.YtfoldppidpmchaaGreatPSC2
set_option linter.unusedVariables false
set_option linter.unusedSimpArgs false
set_option linter.unusedSectionVars false
namespace Go.Proofs.YtfoldppidpmchaaGreat
section
open Go.Fw
noncomputable def lQ(x0:Qr)(x1:Qr)(c0:Qr):Option (Qr):=match x0 with|⟨⟨bt,bp⟩,⟨bD,bG⟩⟩=>match x1 with|⟨⟨cc,bY⟩,⟨iv,iw⟩⟩=>match c0 with|⟨⟨Ms,Mt⟩,⟨Mu,Mv⟩⟩=>cm (λ(An:Bool)=>cm (λ(j5:Bool×(List Nat)×Bool×(List Nat))=>match j5 with|⟨Cx,Cy,Cz,CA⟩=>some ⟨⟨Cx,Cy⟩,⟨Cz,CA⟩⟩) λK5=>(bif An then(jM ⟨⟨bt,bp⟩,⟨bD,bG⟩⟩ ⟨⟨cc,bY⟩,⟨iv,iw⟩⟩).bind λ⟨⟨iQ,iS⟩,⟨rQ,rR⟩⟩=>(nu ⟨⟨Ms,Mt⟩,⟨Mu,Mv⟩⟩ ⟨⟨iQ,iS⟩,⟨rQ,rR⟩⟩).bind λ⟨⟨nZ,n5⟩,⟨qt,qu⟩⟩=>K5 (nZ,n5,qt,qu)else K5 (Ms,Mt,Mu,Mv))) λK3=>(iX ⟨⟨bt,bp⟩,⟨bD,bG⟩⟩).bind λx6=>(some (decide ((x6:Int)≠0))).bind λx7=>(bif x7 then(iX ⟨⟨cc,bY⟩,⟨iv,iw⟩⟩).bind λdK=>(some (decide ((dK:Int)≠0))).bind λgu=>some gu else some false).bind λRA=>K3 RA
noncomputable def gV(x0:Qr)(x1:List Qr):Option (List Qr):=match x0 with|⟨⟨bt,bp⟩,⟨bD,bG⟩⟩=>(some (x1.length:Int)).bind λx9=>(Ce 64 x9 (⟨⟨false,[]⟩,⟨false,[]⟩⟩:Qr)).bind λdK=>(some (x1.length:Int)).bind λdg=>(b8 (λ(s8:Int×(List Qr))=>match s8 with|⟨fR,fS⟩=>(show Option ((Int×(List Qr))⊕((List Qr)))from(some (decide ((fR:Int)<dg))).bind λdO=>(bif dO then(cY x1 fR).bind λ⟨⟨iQ,iS⟩,⟨rQ,rR⟩⟩=>(jM ⟨⟨bt,bp⟩,⟨bD,bG⟩⟩ ⟨⟨iQ,iS⟩,⟨rQ,rR⟩⟩).bind λ⟨⟨n7,n8⟩,⟨n9,oa⟩⟩=>(tB fS fR).bind λiC=>(stM fS iC ⟨⟨n7,n8⟩,⟨n9,oa⟩⟩).bind λqC=>(some (IntKind.i64.wrap (fR+1))).bind λgU=>some (.inl (gU,qC))else some (.inr fS)))) (0,dK)).bind λdW=>some dW
noncomputable def gO(x0:List Qr)(x1:List Qr):Option (Qr):=(some (x0.length:Int)).bind λdg=>(some (x1.length:Int)).bind λdO=>(some (min (dg:Int) dO)).bind λeM=>(yD x0 0 eM).bind λfK=>(yD x1 0 eM).bind λfZ=>(ou (λ(k:Nat) (s7:Bool×(List Nat)×Bool×(List Nat))=>match s7 with|⟨Ao,Ap,Aq,Ar⟩=>(show Option (Bool×(List Nat)×Bool×(List Nat))from(some (fK.getD k (⟨⟨false,[]⟩,⟨false,[]⟩⟩:Qr))).bind λ⟨⟨RB,RC⟩,⟨RE,RF⟩⟩=>(some (fZ.getD k (⟨⟨false,[]⟩,⟨false,[]⟩⟩:Qr))).bind λ⟨⟨RG,RH⟩,⟨RI,RJ⟩⟩=>(lQ ⟨⟨RB,RC⟩,⟨RE,RF⟩⟩ ⟨⟨RG,RH⟩,⟨RI,RJ⟩⟩ ⟨⟨Ao,Ap⟩,⟨Aq,Ar⟩⟩).bind λ⟨⟨WW,WX⟩,⟨WY,WZ⟩⟩=>some (WW,WX,WY,WZ))) (max fK.length fZ.length) (false,[],false,[])).bind λe7=>match e7 with|⟨Ao,Ap,Aq,Ar⟩=>some ⟨⟨Ao,Ap⟩,⟨Aq,Ar⟩⟩
noncomputable def dy(x0:List Qr)(x1:List Qr):Option (Int):=(ko (λ(k:Nat) (s3:Unit)=>(show Option ((Unit)⊕(Int))from(some (x0.getD k (⟨⟨false,[]⟩,⟨false,[]⟩⟩:Qr))).bind λ⟨⟨xR,xS⟩,⟨xT,xU⟩⟩=>(some (x1.getD k (⟨⟨false,[]⟩,⟨false,[]⟩⟩:Qr))).bind λ⟨⟨Fz,FA⟩,⟨FB,FC⟩⟩=>(ga ⟨⟨xR,xS⟩,⟨xT,xU⟩⟩ ⟨⟨Fz,FA⟩,⟨FB,FC⟩⟩).bind λeM=>(some (decide ((eM:Int)≠0))).bind λfz=>(bif fz then some (.inr eM)else some (.inl ())))) (max x0.length x1.length) ()).bind λe3=>match e3 with|.inr v3=>some v3|.inl _=>some 0
noncomputable def dU(x0:List Qr)(x1:List Qr):Option (Bool):=(dy x0 x1).bind λx7=>(some (decide ((x7:Int)=0))).bind λx8=>some x8
noncomputable def ji(x0:List Qr)(x1:Int):Option (List Qr):=(some (decide ((x1:Int)<1))).bind λx8=>(bif x8 then some []else(some (min (x1:Int) 65536)).bind λdK=>(Ce 64 dK (⟨⟨false,[]⟩,⟨false,[]⟩⟩:Qr)).bind λgu=>(some (x0.length:Int)).bind λjz=>(some (gu.length:Int)).bind λeM=>(some (min (jz:Int) eM)).bind λeU=>(b8 (λ(s8:Int×(List Qr))=>match s8 with|⟨FD,FE⟩=>(show Option ((Int×(List Qr))⊕((List Qr)))from(some (decide ((FD:Int)<eU))).bind λfK=>(bif fK then(cY x0 FD).bind λ⟨⟨xV,xW⟩,⟨xX,xY⟩⟩=>(c8 ⟨⟨xV,xW⟩,⟨xX,xY⟩⟩).bind λ⟨⟨xZ,ya⟩,⟨yc,yd⟩⟩=>(tB FE FD).bind λgx=>(stM FE gx ⟨⟨xZ,ya⟩,⟨yc,yd⟩⟩).bind λqC=>(some (IntKind.i64.wrap (FD+1))).bind λmm=>some (.inl (mm,qC))else some (.inr FE)))) (0,gu)).bind λAs=>some As)
noncomputable def cU(x0:List Int):Option (List Qr):=(some (x0.length:Int)).bind λx7=>(Ce 64 x7 (⟨⟨false,[]⟩,⟨false,[]⟩⟩:Qr)).bind λx8=>(some (x0.length:Int)).bind λdK=>(b8 (λ(s8:Int×(List Qr))=>match s8 with|⟨rS,At⟩=>(show Option ((Int×(List Qr))⊕((List Qr)))from(some (decide ((rS:Int)<dK))).bind λdg=>(bif dg then(cY x0 rS).bind λdO=>(c7 dO).bind λ⟨⟨qo,qp⟩,⟨Mw,Mx⟩⟩=>(tB At rS).bind λjw=>(stM At jw ⟨⟨qo,qp⟩,⟨Mw,Mx⟩⟩).bind λqC=>(some (IntKind.i64.wrap (rS+1))).bind λfZ=>some (.inl (fZ,qC))else some (.inr At)))) (0,x8)).bind λuB=>some uB
noncomputable def dB(x0:List Qr)(x1:List Qr):Option (Int×Bool):=(ko (λ(k:Nat) (Au:Int)=>(show Option ((Int)⊕(Int×Bool))from(some (x0.getD k (⟨⟨false,[]⟩,⟨false,[]⟩⟩:Qr))).bind λ⟨⟨xR,xS⟩,⟨xT,xU⟩⟩=>(some (x1.getD k (⟨⟨false,[]⟩,⟨false,[]⟩⟩:Qr))).bind λ⟨⟨Fz,FA⟩,⟨FB,FC⟩⟩=>(ga ⟨⟨xR,xS⟩,⟨xT,xU⟩⟩ ⟨⟨Fz,FA⟩,⟨FB,FC⟩⟩).bind λeM=>(some (decide ((0:Int)<eM))).bind λeU=>(bif eU then some (.inr (Au,true))else(some (IntKind.i64.wrap (Au+1))).bind λjU=>some (.inl jU)))) (max x0.length x1.length) 0).bind λe5=>match e5 with|.inr v5=>some v5|.inl Au=>some (0,false)
end
section
open Go.Fw Go.Fw.Z Go.RowKit
theorem pR(a b:List Qr):Pure ah 80 [(slc 4 (List.map eQ a)),(slc 4 (List.map eQ b))] (oM 112 [ref [(slc 4 (List.map eQ a))],ref [(slc 4 (List.map eQ b))]]):=by
 refine aZ Tryz.func80 Y (af Y) (λdI M vs hvs=>?_);refine sr<|RT.CZ .none (s:=.sv _) Y T Y Y<|RT.CZ .none (s:=.sv _) Y T Y Y<|ag Y<|dn<|sr<|RT.makeFunc .none (.box Y (.box Y (.nil))) T<|an (s:=.fD _ _) Y<|dn<|bM (k7 (i:=2) Y [(slc 4 (List.map eQ a))] (.cons Y .nil) .any 0 [(4,.fD 112 [.val (ref [(slc 4 (List.map eQ a))]),.box 3])] (λ_ _ _=>trivial) (tR.h (l:=[(slc 4 (List.map eQ a))])) ⟨@FT.fD _ _ _ _ _ 4 112 [.box 2,.box 3] Y,aq⟩) ?_;exact bM (k7 (i:=3) Y [(slc 4 (List.map eQ b))] (.cons Y .nil) .any 0 [(4,.fD 112 [.val (ref [(slc 4 (List.map eQ a))]),.val (ref [(slc 4 (List.map eQ b))])])] (λ_ _ _=>trivial) (tR.h (l:=[(slc 4 (List.map eQ b))])) ⟨@FT.fD _ _ _ _ _ 4 112 [.val (ref [(slc 4 (List.map eQ a))]),.box 3] Y,aq⟩)<|bM (C9 4 (oM 112 [ref [(slc 4 (List.map eQ a))],ref [(slc 4 (List.map eQ b))]]) (λ_ _ h=>Da h))<|bf<|⟨.inr Y,C5 (.tmp Y (.nil)) Y⟩
theorem pS(a b:List Qr):Iter ah 112 [ref [(slc 4 (List.map eQ a))],ref [(slc 4 (List.map eQ b))]] (max a.length b.length) (λk=>[.agg (eQ (a.getD k (⟨⟨false,[]⟩,⟨false,[]⟩⟩:Qr))),.agg (eQ (b.getD k (⟨⟨false,[]⟩,⟨false,[]⟩⟩:Qr)))]):=by
 refine pJ Tryz.func112 Y Y (af Y) (λdI M O l J hJ we hr=>?_);obtain⟨qA,we⟩:=we;have hla:a.length<=9223372036854775807:=by cases qA with|nil=>exact we.elim|cons _ qA=>exact sn we.1
 have hlb:b.length<=9223372036854775807:=by cases qA with|nil=>exact we.elim|cons _ qA=>cases qA with|nil=>exact we.2.elim|cons _ _=>exact sn we.2.1
 refine bz ?_;refine aW ?_;refine RT.cE .none Y Y (tl Y) ?_;refine RT.len .none Y (tl Y) ?_;refine RT.cE .none Y Y (tl Y) ?_;refine RT.len .none Y (tl Y) ?_;refine RT.max .none (((max a.length b.length:Nat):Int)) Y Y (tl Y) (by simp only[List.length_map];split<;>omega) ?_;refine RT.mv .none Y (tl Y) ?_;refine RT.done ?_;refine aV.n ?_;refine bj ?_
 refine uQ (I:=λx:{i:Nat//i<=max a.length b.length}=>AS.cq 37 [(0,.sv (.v (.func (.yield l) #[] #[]))),(1,.sv (ref [(slc 4 (List.map eQ a))])),(2,.sv (ref [(slc 4 (List.map eQ b))])),(11,ai ((max a.length b.length:Nat):Int)),(12,ai ((x.1:Nat):Int))] [] [] (x.1)) (μ:=λx=>max a.length b.length-x.1) ⟨0,by omega⟩ (by(try dsimp only);exact da id Y Y Y Y Y ⟨.sv (by first|exact au|exact SV.aY (by omega)|exact SV.aY (by push_cast;omega)|exact SV.aY (by dsimp only;omega)|exact SV.imp_eq (by simp)),.sv (by first|exact au|exact SV.aY (by omega)|exact SV.aY (by push_cast;omega)|exact SV.aY (by dsimp only;omega)|exact SV.imp_eq (by simp)),.sv (by first|exact au|exact SV.aY (by omega)|exact SV.aY (by push_cast;omega)|exact SV.aY (by dsimp only;omega)|exact SV.imp_eq (by simp)),.sv (by first|exact au|exact SV.aY (by omega)|exact SV.aY (by push_cast;omega)|exact SV.aY (by dsimp only;omega)|exact SV.imp_eq (by simp)),.sv (by first|exact au|exact SV.aY (by omega)|exact SV.aY (by push_cast;omega)|exact SV.aY (by dsimp only;omega)|exact SV.imp_eq (by simp)),aq⟩ trivial trivial (λ_ _=>Y)) ?_;rintro⟨i,Q4⟩
 try dsimp only
 rcases zS a b i Q4 with⟨hi,wE,Bs⟩|⟨hi,wE,Bs⟩|⟨hi,wE,Bs⟩|hi
 ·
  refine bz ?_;refine aW ?_;refine RT.lss .none (true) Y Y (tl Y) (by simp;omega) ?_;refine RT.done ?_;refine aV.n ?_;refine bz ?_;refine cz Y ?_;refine bu ?_;refine aV.n ?_;refine bz ?_;refine bj ?_;refine bz ?_;refine aW ?_;refine RT.mv .none Y (tl Y) ?_;refine RT.zG .none Y (tl Y) ?_;refine RT.done ?_;refine aV.n ?_;refine bz ?_;refine aW ?_;refine RT.pK .none (cs:=eQ ⟨⟨false,[]⟩,⟨false,[]⟩⟩) (by exact⟨au,aB,au,aB,aq⟩) Y (tl Y) Y Y ?_;refine RT.pK .none (cs:=eQ ⟨⟨false,[]⟩,⟨false,[]⟩⟩) (by exact⟨au,aB,au,aB,aq⟩) Y (tl Y) Y Y ?_;refine RT.done ?_;refine aV.n ?_;refine bz ?_;refine bz ?_;refine aW ?_;refine RT.mv .none Y (tl Y) ?_;refine RT.cE .none Y Y (tl Y) ?_;refine RT.len .none Y (tl Y) ?_;refine RT.lss .none (true) Y Y (tl Y) (by simp only[List.length_map];simp;omega) ?_;refine RT.done ?_;refine aV.n ?_;refine cz Y ?_;refine aW ?_;refine RT.cE .none Y Y (tl Y) ?_;refine RT.mv .none Y (tl Y) ?_
  refine RT.Li .none [az ((a.getD i (⟨⟨false,[]⟩,⟨false,[]⟩⟩:Qr)).num.neg),slc 1 ((a.getD i (⟨⟨false,[]⟩,⟨false,[]⟩⟩:Qr)).num.w.map aX),az ((a.getD i (⟨⟨false,[]⟩,⟨false,[]⟩⟩:Qr)).den.neg),slc 1 ((a.getD i (⟨⟨false,[]⟩,⟨false,[]⟩⟩:Qr)).den.w.map aX)] (Int.natCast_nonneg i) (by rw[Int.toNat_natCast,List.getElem?_map,cH wE];rfl) Y Y (tl Y) ?_;refine RT.nT .none Y (tl Y) (cs:=[az ((a.getD i (⟨⟨false,[]⟩,⟨false,[]⟩⟩:Qr)).num.neg),slc 1 ((a.getD i (⟨⟨false,[]⟩,⟨false,[]⟩⟩:Qr)).num.w.map aX),az ((a.getD i (⟨⟨false,[]⟩,⟨false,[]⟩⟩:Qr)).den.neg),slc 1 ((a.getD i (⟨⟨false,[]⟩,⟨false,[]⟩⟩:Qr)).den.w.map aX)]) Y Y ?_;refine RT.store .none Y Y Y Y Y ?_;refine RT.done ?_;refine aV.n ?_;refine bz ?_;refine bz ?_;refine aW ?_;refine RT.mv .none Y (tl Y) ?_;refine RT.cE .none Y Y (tl Y) ?_;refine RT.len .none Y (tl Y) ?_;refine RT.lss .none (true) Y Y (tl Y) (by simp only[List.length_map];simp;omega) ?_;refine RT.done ?_;refine aV.n ?_;refine cz Y ?_;refine aW ?_;refine RT.cE .none Y Y (tl Y) ?_;refine RT.mv .none Y (tl Y) ?_
  refine RT.Li .none [az ((b.getD i (⟨⟨false,[]⟩,⟨false,[]⟩⟩:Qr)).num.neg),slc 1 ((b.getD i (⟨⟨false,[]⟩,⟨false,[]⟩⟩:Qr)).num.w.map aX),az ((b.getD i (⟨⟨false,[]⟩,⟨false,[]⟩⟩:Qr)).den.neg),slc 1 ((b.getD i (⟨⟨false,[]⟩,⟨false,[]⟩⟩:Qr)).den.w.map aX)] (Int.natCast_nonneg i) (by rw[Int.toNat_natCast,List.getElem?_map,cH Bs];rfl) Y Y (tl Y) ?_;refine RT.nT .none Y (tl Y) (cs:=[az ((b.getD i (⟨⟨false,[]⟩,⟨false,[]⟩⟩:Qr)).num.neg),slc 1 ((b.getD i (⟨⟨false,[]⟩,⟨false,[]⟩⟩:Qr)).num.w.map aX),az ((b.getD i (⟨⟨false,[]⟩,⟨false,[]⟩⟩:Qr)).den.neg),slc 1 ((b.getD i (⟨⟨false,[]⟩,⟨false,[]⟩⟩:Qr)).den.w.map aX)]) Y Y ?_;refine RT.store .none Y Y Y Y Y ?_;refine RT.done ?_;refine aV.n ?_;refine bz ?_;refine aW ?_;refine RT.mv .none Y (tl Y) ?_;refine RT.load .none Y Y (.k4 Y Y Y Y) Y (tl Y) ?_;refine RT.load .none Y Y (.k4 Y Y Y Y) Y (tl Y) ?_;refine RT.yield .none hr Y (λ_ h=>h) Y (i) Y Y hi (by exact⟨Y,Y,aq⟩) (tl Y) (λyb=>?_);cases yb
  ·
   refine RT.not .none Y (tl Y) true Y ?_;refine RT.done ?_;refine aV.n ?_;refine cz Y ?_;refine bf ?_;refine bw.r ?_;refine aV.r ?_;refine aV.r ?_;refine bw.r ?_;exact⟨.inr rfl,(λh=>by cases h)⟩
  refine RT.not .none Y (tl Y) false Y ?_;refine RT.done ?_;refine aV.n ?_;refine dJ Y ?_;refine bu ?_;refine bw.n ?_;refine aV.n ?_;refine aW ?_;refine RT.add .none (((i:Nat):Int)+1) Y Y (tl Y) (kn (by omega)) ?_;refine RT.mv .none Y (tl Y) ?_;refine RT.done ?_;refine aV.n ?_;refine⟨⟨i+1,by omega⟩,(by dsimp only;omega),?_⟩
  try dsimp only
  exact da id Y Y Y Y Y ⟨.sv (by first|exact au|exact SV.aY (by omega)|exact SV.aY (by push_cast;omega)|exact SV.aY (by dsimp only;omega)|exact SV.imp_eq (by simp)),.sv (by first|exact au|exact SV.aY (by omega)|exact SV.aY (by push_cast;omega)|exact SV.aY (by dsimp only;omega)|exact SV.imp_eq (by simp)),.sv (by first|exact au|exact SV.aY (by omega)|exact SV.aY (by push_cast;omega)|exact SV.aY (by dsimp only;omega)|exact SV.imp_eq (by simp)),.sv (by first|exact au|exact SV.aY (by omega)|exact SV.aY (by push_cast;omega)|exact SV.aY (by dsimp only;omega)|exact SV.imp_eq (by simp)),.sv (by first|exact au|exact SV.aY (by omega)|exact SV.aY (by push_cast;omega)|exact SV.aY (by dsimp only;omega)|exact SV.imp_eq (by simp)),aq⟩ trivial trivial (λ_ _=>Y)
 ·
  refine bz ?_;refine aW ?_;refine RT.lss .none (true) Y Y (tl Y) (by simp;omega) ?_;refine RT.done ?_;refine aV.n ?_;refine bz ?_;refine cz Y ?_;refine bu ?_;refine aV.n ?_;refine bz ?_;refine bj ?_;refine bz ?_;refine aW ?_;refine RT.mv .none Y (tl Y) ?_;refine RT.zG .none Y (tl Y) ?_;refine RT.done ?_;refine aV.n ?_;refine bz ?_;refine aW ?_;refine RT.pK .none (cs:=eQ ⟨⟨false,[]⟩,⟨false,[]⟩⟩) (by exact⟨au,aB,au,aB,aq⟩) Y (tl Y) Y Y ?_;refine RT.pK .none (cs:=eQ ⟨⟨false,[]⟩,⟨false,[]⟩⟩) (by exact⟨au,aB,au,aB,aq⟩) Y (tl Y) Y Y ?_;refine RT.done ?_;refine aV.n ?_;refine bz ?_;refine bz ?_;refine aW ?_;refine RT.mv .none Y (tl Y) ?_;refine RT.cE .none Y Y (tl Y) ?_;refine RT.len .none Y (tl Y) ?_;refine RT.lss .none (true) Y Y (tl Y) (by simp only[List.length_map];simp;omega) ?_;refine RT.done ?_;refine aV.n ?_;refine cz Y ?_;refine aW ?_;refine RT.cE .none Y Y (tl Y) ?_;refine RT.mv .none Y (tl Y) ?_
  refine RT.Li .none [az ((a.getD i (⟨⟨false,[]⟩,⟨false,[]⟩⟩:Qr)).num.neg),slc 1 ((a.getD i (⟨⟨false,[]⟩,⟨false,[]⟩⟩:Qr)).num.w.map aX),az ((a.getD i (⟨⟨false,[]⟩,⟨false,[]⟩⟩:Qr)).den.neg),slc 1 ((a.getD i (⟨⟨false,[]⟩,⟨false,[]⟩⟩:Qr)).den.w.map aX)] (Int.natCast_nonneg i) (by rw[Int.toNat_natCast,List.getElem?_map,cH wE];rfl) Y Y (tl Y) ?_;refine RT.nT .none Y (tl Y) (cs:=[az ((a.getD i (⟨⟨false,[]⟩,⟨false,[]⟩⟩:Qr)).num.neg),slc 1 ((a.getD i (⟨⟨false,[]⟩,⟨false,[]⟩⟩:Qr)).num.w.map aX),az ((a.getD i (⟨⟨false,[]⟩,⟨false,[]⟩⟩:Qr)).den.neg),slc 1 ((a.getD i (⟨⟨false,[]⟩,⟨false,[]⟩⟩:Qr)).den.w.map aX)]) Y Y ?_;refine RT.store .none Y Y Y Y Y ?_;refine RT.done ?_;refine aV.n ?_;refine bz ?_;refine bz ?_;refine aW ?_;refine RT.mv .none Y (tl Y) ?_;refine RT.cE .none Y Y (tl Y) ?_;refine RT.len .none Y (tl Y) ?_;refine RT.lss .none (false) Y Y (tl Y) (by simp only[List.length_map];simp;omega) ?_;refine RT.done ?_;refine aV.n ?_;refine dJ Y ?_;refine bu ?_;refine aV.n ?_;refine bz ?_;refine aW ?_;refine RT.mv .none Y (tl Y) ?_;refine RT.load .none Y Y (.k4 Y Y Y Y) Y (tl Y) ?_;refine RT.load .none Y Y (.k4 Y Y Y Y) Y (tl Y) ?_
  refine RT.yield .none hr Y (λ_ h=>h) Y (i) Y Y hi (by exact⟨Y,(by show AV.sv _=AV.sv _;rw[eE Bs]),aq⟩) (tl Y) (λyb=>?_);cases yb
  ·
   refine RT.not .none Y (tl Y) true Y ?_;refine RT.done ?_;refine aV.n ?_;refine cz Y ?_;refine bf ?_;refine bw.r ?_;refine aV.r ?_;refine aV.r ?_;refine bw.r ?_;exact⟨.inr rfl,(λh=>by cases h)⟩
  refine RT.not .none Y (tl Y) false Y ?_;refine RT.done ?_;refine aV.n ?_;refine dJ Y ?_;refine bu ?_;refine bw.n ?_;refine aV.n ?_;refine aW ?_;refine RT.add .none (((i:Nat):Int)+1) Y Y (tl Y) (kn (by omega)) ?_;refine RT.mv .none Y (tl Y) ?_;refine RT.done ?_;refine aV.n ?_;refine⟨⟨i+1,by omega⟩,(by dsimp only;omega),?_⟩
  try dsimp only
  exact da id Y Y Y Y Y ⟨.sv (by first|exact au|exact SV.aY (by omega)|exact SV.aY (by push_cast;omega)|exact SV.aY (by dsimp only;omega)|exact SV.imp_eq (by simp)),.sv (by first|exact au|exact SV.aY (by omega)|exact SV.aY (by push_cast;omega)|exact SV.aY (by dsimp only;omega)|exact SV.imp_eq (by simp)),.sv (by first|exact au|exact SV.aY (by omega)|exact SV.aY (by push_cast;omega)|exact SV.aY (by dsimp only;omega)|exact SV.imp_eq (by simp)),.sv (by first|exact au|exact SV.aY (by omega)|exact SV.aY (by push_cast;omega)|exact SV.aY (by dsimp only;omega)|exact SV.imp_eq (by simp)),.sv (by first|exact au|exact SV.aY (by omega)|exact SV.aY (by push_cast;omega)|exact SV.aY (by dsimp only;omega)|exact SV.imp_eq (by simp)),aq⟩ trivial trivial (λ_ _=>Y)
 ·
  refine bz ?_;refine aW ?_;refine RT.lss .none (true) Y Y (tl Y) (by simp;omega) ?_;refine RT.done ?_;refine aV.n ?_;refine bz ?_;refine cz Y ?_;refine bu ?_;refine aV.n ?_;refine bz ?_;refine bj ?_;refine bz ?_;refine aW ?_;refine RT.mv .none Y (tl Y) ?_;refine RT.zG .none Y (tl Y) ?_;refine RT.done ?_;refine aV.n ?_;refine bz ?_;refine aW ?_;refine RT.pK .none (cs:=eQ ⟨⟨false,[]⟩,⟨false,[]⟩⟩) (by exact⟨au,aB,au,aB,aq⟩) Y (tl Y) Y Y ?_;refine RT.pK .none (cs:=eQ ⟨⟨false,[]⟩,⟨false,[]⟩⟩) (by exact⟨au,aB,au,aB,aq⟩) Y (tl Y) Y Y ?_;refine RT.done ?_;refine aV.n ?_;refine bz ?_;refine bz ?_;refine aW ?_;refine RT.mv .none Y (tl Y) ?_;refine RT.cE .none Y Y (tl Y) ?_;refine RT.len .none Y (tl Y) ?_;refine RT.lss .none (false) Y Y (tl Y) (by simp only[List.length_map];simp;omega) ?_;refine RT.done ?_;refine aV.n ?_;refine dJ Y ?_;refine bu ?_;refine aV.n ?_;refine bz ?_;refine bz ?_;refine aW ?_;refine RT.mv .none Y (tl Y) ?_;refine RT.cE .none Y Y (tl Y) ?_;refine RT.len .none Y (tl Y) ?_;refine RT.lss .none (true) Y Y (tl Y) (by simp only[List.length_map];simp;omega) ?_;refine RT.done ?_;refine aV.n ?_;refine cz Y ?_;refine aW ?_;refine RT.cE .none Y Y (tl Y) ?_
  refine RT.mv .none Y (tl Y) ?_;refine RT.Li .none [az ((b.getD i (⟨⟨false,[]⟩,⟨false,[]⟩⟩:Qr)).num.neg),slc 1 ((b.getD i (⟨⟨false,[]⟩,⟨false,[]⟩⟩:Qr)).num.w.map aX),az ((b.getD i (⟨⟨false,[]⟩,⟨false,[]⟩⟩:Qr)).den.neg),slc 1 ((b.getD i (⟨⟨false,[]⟩,⟨false,[]⟩⟩:Qr)).den.w.map aX)] (Int.natCast_nonneg i) (by rw[Int.toNat_natCast,List.getElem?_map,cH Bs];rfl) Y Y (tl Y) ?_;refine RT.nT .none Y (tl Y) (cs:=[az ((b.getD i (⟨⟨false,[]⟩,⟨false,[]⟩⟩:Qr)).num.neg),slc 1 ((b.getD i (⟨⟨false,[]⟩,⟨false,[]⟩⟩:Qr)).num.w.map aX),az ((b.getD i (⟨⟨false,[]⟩,⟨false,[]⟩⟩:Qr)).den.neg),slc 1 ((b.getD i (⟨⟨false,[]⟩,⟨false,[]⟩⟩:Qr)).den.w.map aX)]) Y Y ?_;refine RT.store .none Y Y Y Y Y ?_;refine RT.done ?_;refine aV.n ?_;refine bz ?_;refine aW ?_;refine RT.mv .none Y (tl Y) ?_;refine RT.load .none Y Y (.k4 Y Y Y Y) Y (tl Y) ?_;refine RT.load .none Y Y (.k4 Y Y Y Y) Y (tl Y) ?_;refine RT.yield .none hr Y (λ_ h=>h) Y (i) Y Y hi (by exact⟨(by show AV.sv _=AV.sv _;rw[eE wE]),Y,aq⟩) (tl Y) (λyb=>?_);cases yb
  ·
   refine RT.not .none Y (tl Y) true Y ?_;refine RT.done ?_;refine aV.n ?_;refine cz Y ?_;refine bf ?_;refine bw.r ?_;refine aV.r ?_;refine aV.r ?_;refine bw.r ?_;exact⟨.inr rfl,(λh=>by cases h)⟩
  refine RT.not .none Y (tl Y) false Y ?_;refine RT.done ?_;refine aV.n ?_;refine dJ Y ?_;refine bu ?_;refine bw.n ?_;refine aV.n ?_;refine aW ?_;refine RT.add .none (((i:Nat):Int)+1) Y Y (tl Y) (kn (by omega)) ?_;refine RT.mv .none Y (tl Y) ?_;refine RT.done ?_;refine aV.n ?_;refine⟨⟨i+1,by omega⟩,(by dsimp only;omega),?_⟩
  try dsimp only
  exact da id Y Y Y Y Y ⟨.sv (by first|exact au|exact SV.aY (by omega)|exact SV.aY (by push_cast;omega)|exact SV.aY (by dsimp only;omega)|exact SV.imp_eq (by simp)),.sv (by first|exact au|exact SV.aY (by omega)|exact SV.aY (by push_cast;omega)|exact SV.aY (by dsimp only;omega)|exact SV.imp_eq (by simp)),.sv (by first|exact au|exact SV.aY (by omega)|exact SV.aY (by push_cast;omega)|exact SV.aY (by dsimp only;omega)|exact SV.imp_eq (by simp)),.sv (by first|exact au|exact SV.aY (by omega)|exact SV.aY (by push_cast;omega)|exact SV.aY (by dsimp only;omega)|exact SV.imp_eq (by simp)),.sv (by first|exact au|exact SV.aY (by omega)|exact SV.aY (by push_cast;omega)|exact SV.aY (by dsimp only;omega)|exact SV.imp_eq (by simp)),aq⟩ trivial trivial (λ_ _=>Y)
 subst hi;refine bz ?_;refine aW ?_;refine RT.lss .none (false) Y Y (tl Y) (by simp) ?_;refine RT.done ?_;refine aV.n ?_;refine bz ?_;refine dJ Y ?_;refine bN ?_;refine aV.x ?_;refine aV.x ?_;refine bw.x ?_;exact⟨.inl Y,(λ_=>Y)⟩
end
section
open Go.Fw Go.Fw.Z Go.RowKit
theorem DF{x0:Qr}{x1:Qr}{c0:Qr}{r:Qr}(h:lQ x0 x1 c0=some r):Lp ah 78 [.agg (eQ x0),.agg (eQ x1)] 36 (eQ c0) (.any) (eQ r):=by
 obtain⟨⟨bt,bp⟩,⟨bD,bG⟩⟩:=x0;obtain⟨⟨cc,bY⟩,⟨iv,iw⟩⟩:=x1;obtain⟨⟨Ms,Mt⟩,⟨Mu,Mv⟩⟩:=c0;refine zK Tryz.func78 Y (af Y) (λdI M β=>?_);unfold lQ at h;refine sr<|bx Y<|bx Y<|dn<|qq ?_;refine bC h (λj3=>AS.cq 18 [(2,.ptr 1000 0),(3,.ptr 3 0),(4,.ptr 4 0),(12,aj j3)] [(4,⟨36,[aj cc,.sv (slc 1 (List.map aX bY)),aj iv,.sv (slc 1 (List.map aX iw))]⟩),(3,⟨36,[aj bt,.sv (slc 1 (List.map aX bp)),aj bD,.sv (slc 1 (List.map aX bG))]⟩),(1000,⟨36,[aj Ms,.sv (slc 1 (List.map aX Mt)),aj Mu,.sv (slc 1 (List.map aX Mv))]⟩)] []) (λh=>?_) (λAn h=>?_);refine aW<|ld Y Y (.k4 Y Y Y Y)<|bE h λx6 h6 h=>cl (pQ h6) ⟨Y,aq⟩<|lE h λx7 h7 h=>ne _ Y Y (yV (p:=x6) (q:=0) h7)<|mv Y<|bE h λRA xN h=>?_;cases x7;obtain rfl:=O (F xN);exact ww<|ww<|ww<|pF Y<|dn<|⟨false,h,wR []⟩;refine gl Y Y (.k4 Y Y Y Y)<|bE (V xN) λdK fY xN=>gc (pQ fY) ⟨Y,aq⟩<|lE xN λgu mw xN=>gq _ Y Y (yV (p:=dK) (q:=0) mw) ?_;obtain rfl:=O xN;exact pT Y<|dn<|⟨gu,h,wR []⟩
 try dsimp only
 refine aV.n ?_;refine bC h (λj5=>AS.cq 18 [(2,.ptr 1000 0)] [(1000,⟨36,[aj j5.1,.sv (slc 1 (List.map aX j5.2.1)),aj j5.2.2.1,.sv (slc 1 (List.map aX j5.2.2.2))]⟩)] []) (λh=>?_) (λj5 h=>?_);cases An;exact fs<|⟨(Ms,Mt,Mu,Mv),(F h),wR []⟩;refine cT<|bh mixed<|ld Y Y (.k4 Y Y Y Y)<|ld Y Y (.k4 Y Y Y Y)<|ld Y Y (.k4 Y Y Y Y) ?_;obtain⟨⟨⟨iQ,iS⟩,⟨rQ,rR⟩⟩,iL,h⟩:=bS (V h);refine cl (rO iL) ⟨Y,Y,aq⟩ ?_;obtain⟨⟨⟨nZ,n5⟩,⟨qt,qu⟩⟩,lj,h⟩:=bS h;refine cl (Fx lj) ⟨Y,Y,aq⟩<|so Y Y Y ?_;refine RT.done ⟨by kernel_rfl,?_⟩;exact aV.n<|⟨(nZ,n5,qt,qu),h,wR []⟩;obtain⟨Cx,Cy,Cz,CA⟩:=j5
 try dsimp only
 obtain rfl:=O h;exact⟨.inl Y,mI .nil (λ_ _ _=>trivial),Y⟩
theorem mR{x0:Qr}{x1:List Qr}{r:List Qr}(h:gV x0 x1=some r):Pure ah 55 [.agg (eQ x0),slc 4 (List.map eQ x1)] (slc 4 (List.map eQ r)):=by
 obtain⟨⟨bt,bp⟩,⟨bD,bG⟩⟩:=x0;refine aZ Tryz.func55 Y (af Y) (λdI M vs hvs=>?_);unfold gV at h;refine sr<|bx Y<|aI Y (aB (n:=4) (e:=eQ))<|dn<|sr<|mv Y<|lE h λx9 h9 h=>ln Y h9<|bE h λdK fY h=>RT.oN (n:=4) (e:=eQ) .none Y Y T Y T (by rfl) (by decide) (by exact⟨au,aB,au,aB,aq⟩) fY<|an (s:=.row _) Y<|dn<|qq<|sr<|mv Y<|lE h λdg fP h=>ln Y fP<|mv Y<|dn<|bE h λe8 z9 rj=>?_;refine bJ (λ(dW:(List Qr))=>AS.cq 26 [(5,.row 10)] [] [(10,TR 36 4 eQ dW)]) (λdW=>dW=e8) ?_ (λdW Aa=>?_);refine bj ?_;refine bK z9 (λs8=>AS.cq 26 [(2,.ptr 2 0),(5,.row 10),(11,.sv (slc 4 (List.map eQ x1))),(12,ai dg),(13,ai s8.1)] [(2,⟨36,[aj bt,.sv (slc 1 (List.map aX bp)),aj bD,.sv (slc 1 (List.map aX bG))]⟩)] [(10,TR 36 4 eQ s8.2)]) (wR []) (λs8 y8 G8 h Ab Ad=>?_);obtain⟨fR,fS⟩:=s8
 try dsimp only
 refine sr<|lE h λdO jh h=>ls _ Y Y jh<|dn<|qq ?_;cases dO;refine cF<|bN<|aV.x<|aV.x<|bw.x<|aV.n ?_;obtain rfl:=O (F h);exact⟨fS,Ad _ Y,wR []⟩;refine cT<|bu<|aV.n<|qq<|bj<|sr<|mv Y ?_;obtain⟨⟨⟨iQ,iS⟩,⟨rQ,rR⟩⟩,iL,h⟩:=bS (V h);refine ix Y Y iL<|RT.nT (cs:=[_,_,_,_]) .none Y T Y Y<|al (cs:=[az false,ax,az false,ax]) (by exact⟨au,aB,au,aB,aq⟩) Y<|ag Y<|so Y Y Y<|dn<|aW<|mo (s:=.row _) Y<|mv Y<|ld Y Y (.k4 Y Y Y Y)<|ld Y Y (.k4 Y Y Y Y) ?_;obtain⟨⟨⟨n7,n8⟩,⟨n9,oa⟩⟩,nm,h⟩:=bS h;refine cl (rO nm) ⟨Y,Y,aq⟩<|bE h λiC oR h=>iR Y Y Y oR<|bE h λqC lO h=>sA ⟨⟨n7,n8⟩,⟨n9,oa⟩⟩ Y Y Y lO<|RT.done<|bw.n<|aV.n<|aW<|lE h λgU oG h=>ad _ Y Y oG<|mv Y<|RT.done ?_;obtain rfl:=O h;exact aV.n ⟨(gU,qC),Ab _ Y,wR []⟩;subst Aa
 try dsimp only
 refine aV.n<|sr<|mo (s:=.row _) Y<|an (s:=.row _) Y<|dn<|bM (cn (i:=10) (E1:=36) (n:=4) (e:=eQ) (l:=dW) Y)<|bf ?_;obtain rfl:=O rj;exact R1 Y
theorem pU{x0:List Qr}{x1:List Qr}{r:Qr}(h:gO x0 x1=some r):Pure ah 32 [slc 4 (List.map eQ x0),slc 4 (List.map eQ x1)] (.agg (eQ r)):=by
 refine aZ Tryz.func32 Y (af Y) (λdI M vs hvs=>?_);unfold gO at h;refine sr<|al (cs:=[az false,ax,az false,ax]) (by exact⟨au,aB,au,aB,aq⟩) Y<|dn<|sr<|al (cs:=[az false,ax,az false,ax]) (by exact⟨au,aB,au,aB,aq⟩) Y<|dn<|sr<|RT.makeFunc .none (.box Y (.nil)) T<|RT.alloc .none T Y Y<|RT.jK (cells:=[_]) .none (s:=.fD _ _) Y Y Y T Y ?_;refine dn<|sr<|mv Y<|lE h λdg fP h=>ln Y fP<|mv Y<|lE h λdO jh h=>ln Y jh<|lE h λeM jL h=>RT.min .none _ Y Y T (OW (p:=dg) (q:=dO) jL)<|ag Y<|dn<|qq<|qq<|bh mixed<|mv Y<|mv Y<|bE h λfK kR h=>RT.wK .none 0 eM Y Y ⟨_,Y⟩ T kR<|mv Y<|mv Y<|bE h λfZ my h=>RT.wK .none 0 eM Y Y ⟨_,Y⟩ T my<|cl (pR fK fZ) ⟨Y,Y,aq⟩ ?_;refine RT.done ⟨by kernel_rfl,?_⟩;refine aV.n<|bj<|bE h λe7 WC O8=>?_;obtain⟨J5,WD,WE,WG⟩:=oO WC
 refine mJ (pS fK fZ) (λ_ _ _ _ _=>trivial) Y (λk=>AS.cq 30 [(4,.ptr 4 0),(5,.ptr 5 0),(6,.ptr 6 0),(22,.sv (oM 112 [ref [slc 4 (List.map eQ fK)],ref [slc 4 (List.map eQ fZ)]]))] [(6,⟨91,[.fD 78 [.box 5]]⟩),(5,⟨36,[aj ((J5 k).1),.sv (slc 1 (List.map aX (J5 k).2.1)),aj ((J5 k).2.2.1),.sv (slc 1 (List.map aX (J5 k).2.2.2))]⟩),(4,⟨36,[aj false,.sv ax,aj false,.sv ax]⟩)] []) [6,5,4] Y (λ_=>⟨Y,Y⟩) (qN Y) (λ_=>Y) (qO Y) (by(try dsimp only);rw[WD];(try dsimp only);exact da id Y Y Y Y Y ⟨.ptr,.ptr,.ptr,.sv au,aq⟩ ⟨⟨_,Y,⟨.fD,aq⟩⟩,⟨_,Y,⟨.sv au,.sv au,.sv au,.sv au,aq⟩⟩,⟨_,Y,⟨.sv au,.sv au,.sv au,.sv au,aq⟩⟩,aq⟩ trivial (λ_ _=>Y)) (λk hk D hD=>?_) ?_;have h:=WE k hk;obtain⟨sk,O9⟩:∃q,J5 k=q:=⟨_,Y⟩;rw[O9]at h⊢;obtain⟨Ao,Ap,Aq,Ar⟩:=sk;dsimp only[AS.Oq,qM]
 try dsimp only at h
 obtain⟨⟨⟨RB,RC⟩,⟨RE,RF⟩⟩,acd,h⟩:=bS h;rw[Option.some.inj acd];obtain⟨⟨⟨RG,RH⟩,⟨RI,RJ⟩⟩,ace,h⟩:=bS h;rw[Option.some.inj ace];refine sr<|al (cs:=[az false,ax,az false,ax]) (by exact⟨au,aB,au,aB,aq⟩) Y<|so Y Y Y<|dn<|aW<|al (cs:=[az false,ax,az false,ax]) (by exact⟨au,aB,au,aB,aq⟩) Y<|so Y Y Y<|RT.done ?_;refine aV.n ⟨Y,?_⟩;dsimp only[AS.Bu];refine bj<|aW<|RT.nh .none (s:=.fD _ _) Y Y Y T<|ld Y Y (.k4 Y Y Y Y)<|ld Y Y (.k4 Y Y Y Y) ?_;obtain⟨⟨⟨WW,WX⟩,⟨WY,WZ⟩⟩,sZ,h⟩:=bS h;refine cB (DF sZ) 5 Y ⟨Y,Y,aq⟩<|RT.done<|bw.n ?_;replace h:=Option.some.inj h;refine⟨aq,Y,Y,?_⟩
 try dsimp only
 rw[<-h]
 try dsimp only
 exact wR [];rw[WG];obtain⟨Ao,Ap,Aq,Ar⟩:=e7
 try dsimp only
 refine bw.n<|aV.n<|sr<|ld Y Y (.k4 Y Y Y Y)<|so Y Y Y<|dn<|bf ?_;obtain rfl:=O O8;exact RZ (.agg Y Y (.k4 Y Y Y Y) Y (.nil))
theorem gP{x0:List Qr}{x1:List Qr}{r:Int}(h:dy x0 x1=some r):Pure ah 36 [slc 4 (List.map eQ x0),slc 4 (List.map eQ x1)] (ay r):=by
 refine aZ Tryz.func36 Y (af Y) (λdI M vs hvs=>?_);unfold dy at h;refine sr<|al (cs:=[ay 0]) (by exact⟨au,aq⟩) Y<|dn<|qq<|sr<|mv Y<|mv Y<|cl (pR x0 x1) ⟨Y,Y,aq⟩<|dn<|bj<|bE h λe3 S3 TP=>?_;obtain⟨m3,st3,YC,ht3,hn3⟩:=sq S3;refine jy (pS x0 x1) (λ_ _ _ _ _=>trivial) Y (λk=>AS.cq 19 [(4,.ptr 4 0),(10,.sv (oM 112 [ref [slc 4 (List.map eQ x0)],ref [slc 4 (List.map eQ x1)]]))] [(4,⟨3,[ai 0]⟩)] []) [4] Y (λ_=>⟨Y,Y⟩) (qN Y) (λ_=>Y) (qO Y) (by(try dsimp only);(try dsimp only);exact da id Y Y Y Y Y ⟨.ptr,.sv au,aq⟩ ⟨⟨_,Y,⟨.sv au,aq⟩⟩,aq⟩ trivial (λ_ _=>Y)) m3 (λk hk hkm D hD=>?_) (λhdn=>?_);obtain⟨y3,h,hG3,hE3⟩:=ht3 k hk hkm;dsimp only[AS.Oq,qM]
 try dsimp only at h
 obtain⟨⟨⟨xR,xS⟩,⟨xT,xU⟩⟩,Hz,h⟩:=bS h;rw[Option.some.inj Hz];obtain⟨⟨⟨Fz,FA⟩,⟨FB,FC⟩⟩,TQ,h⟩:=bS h;rw[Option.some.inj TQ];refine sr<|al (cs:=[az false,ax,az false,ax]) (by exact⟨au,aB,au,aB,aq⟩) Y<|so Y Y Y<|dn<|aW<|al (cs:=[az false,ax,az false,ax]) (by exact⟨au,aB,au,aB,aq⟩) Y<|so Y Y Y<|RT.done ?_;refine aV.n ⟨Y,?_⟩;dsimp only[AS.Bu];refine bj<|sr<|ld Y Y (.k4 Y Y Y Y)<|ld Y Y (.k4 Y Y Y Y)<|bE h λeM jL h=>cl (lP jL) ⟨Y,Y,aq⟩<|ag Y<|dn<|sr<|mv Y<|lE h λfz lj h=>ne _ Y Y (yV (p:=eM) (q:=0) lj)<|dn ?_;cases fz;refine cF<|bu<|bw.n ?_;obtain rfl:=O (F h);obtain⟨hm3,hq3⟩:=hG3 _ Y;exact⟨hm3,Y,Y,wR []⟩;refine cT<|sr<|mv Y<|RT.jK (cells:=[_]) .none (s:=.sv _) Y Y Y T Y<|dn<|bf<|bw.r ?_;obtain rfl:=O (V h);have he3:=hE3 _ Y;subst he3;refine⟨Y,Y,?_⟩;refine bw.r<|aV.r ?_;obtain rfl:=O TP;exact RZ (.one Y Y Y (.nil));have hd3:=hn3 hdn;subst hd3;obtain⟨ee3,TS⟩:∃q,st3 (max x0.length x1.length)=q:=⟨_,Y⟩;rw[TS]at TP
 try dsimp only
 refine bw.n<|aV.n<|sr<|RT.jK (cells:=[_]) .none (s:=.sv _) Y Y Y T Y<|dn<|bf ?_;obtain rfl:=O TP;exact RZ (.one Y Y Y (.nil))
theorem jk{x0:List Qr}{x1:List Qr}{r:Bool}(h:dU x0 x1=some r):Pure ah 37 [slc 4 (List.map eQ x0),slc 4 (List.map eQ x1)] (az r):=by
 refine aZ Tryz.func37 Y (af Y) (λdI M vs hvs=>?_);unfold dU at h;refine sr<|ag Y<|dn<|sr<|mv Y<|mv Y<|bE h λx7 h7 h=>cl (gP h7) ⟨Y,Y,aq⟩<|lE h λx8 h8 h=>eq _ Y Y (o9 (p:=x7) (q:=0) h8)<|ag Y<|dn<|bf ?_;obtain rfl:=O h;exact R1 Y
theorem BS{x0:List Qr}{x1:Int}{r:List Qr}(h:ji x0 x1=some r):Pure ah 59 [slc 4 (List.map eQ x0),ay x1] (slc 4 (List.map eQ r)):=by
 refine aZ Tryz.func59 Y (af Y) (λdI M vs hvs=>?_);unfold ji at h;refine sr<|aI Y (aB (n:=4) (e:=eQ))<|dn<|qq<|sr<|mv Y<|lE h λx8 h8 h=>ls _ Y Y h8<|dn ?_;cases x8;refine fs<|sr<|mv Y<|lE (F h) λdK fY h=>RT.min .none _ Y Y T (OW (p:=x1) (q:=65536) fY)<|bE h λgu mw h=>RT.oN (n:=4) (e:=eQ) .none Y Y T Y T (by rfl) (by decide) (by exact⟨au,aB,au,aB,aq⟩) mw<|an (s:=.row _) Y<|dn<|qq<|sr<|mv Y<|lE h λjz lf h=>ln Y lf<|mo (s:=.row _) Y<|lE h λeM jL h=>lL Y Y jL<|lE h λeU iL h=>?_;refine RT.min .none _ Y Y T (OW (p:=jz) (q:=eM) iL)<|mv Y<|dn<|bE h λe8 z9 rj=>?_;refine bJ (λ(As:(List Qr))=>AS.cq 30 [(5,.row 11)] [] [(11,TR 36 4 eQ As)]) (λAs=>As=e8) ?_ (λAs Aa=>?_);refine bj ?_;refine bK z9 (λs8=>AS.cq 30 [(0,.sv (slc 4 (List.map eQ x0))),(5,.row 11),(16,ai eU),(17,ai s8.1)] [] [(11,TR 36 4 eQ s8.2)]) (wR []) (λs8 y8 G8 h Ab Ad=>?_);obtain⟨FD,FE⟩:=s8
 try dsimp only
 refine sr<|lE h λfK kR h=>ls _ Y Y kR<|dn<|qq ?_;cases fK;refine cF<|bN<|aV.x<|aV.x<|bw.x<|aV.n ?_;obtain rfl:=O (F h);exact⟨FE,Ad _ Y,wR []⟩;refine cT<|bu<|aV.n<|qq<|bj<|sr<|mv Y<|ag Y<|dn<|aW<|mo (s:=.row _) Y<|mv Y<|mv Y<|mv Y ?_;obtain⟨⟨⟨xV,xW⟩,⟨xX,xY⟩⟩,oG,h⟩:=bS (V h);refine ix Y Y oG<|RT.nT (cs:=[_,_,_,_]) .none Y T Y Y ?_;obtain⟨⟨⟨xZ,ya⟩,⟨yc,yd⟩⟩,uu,h⟩:=bS h;refine cl (iK uu) ⟨Y,aq⟩<|bE h λgx m7 h=>iR Y Y Y m7<|bE h λqC lO h=>sA ⟨⟨xZ,ya⟩,⟨yc,yd⟩⟩ Y Y Y lO<|RT.done<|bw.n<|aV.n<|aW<|lE h λmm sZ h=>ad _ Y Y sZ<|mv Y<|RT.done ?_;obtain rfl:=O h;exact aV.n ⟨(mm,qC),Ab _ Y,wR []⟩;subst Aa
 try dsimp only
 refine aV.n<|sr<|mo (s:=.row _) Y<|an (s:=.row _) Y<|dn<|bM (cn (i:=11) (E1:=36) (n:=4) (e:=eQ) (l:=As) Y)<|bf ?_;obtain rfl:=O rj;exact R1 Y;refine cT<|sr<|aI Y (aB (n:=4) (e:=eQ))<|dn<|bf<|aV.r ?_;obtain rfl:=O (V h);exact R1 Y
theorem eR{x0:List Int}{r:List Qr}(h:cU x0=some r):Pure ah 42 [slc 1 (List.map bL x0)] (slc 4 (List.map eQ r)):=by
 refine aZ Tryz.func42 Y (af Y) (λdI M vs hvs=>?_);unfold cU at h;refine sr<|aI Y (aB (n:=4) (e:=eQ))<|dn<|sr<|mv Y<|lE h λx7 h7 h=>ln Y h7<|bE h λx8 h8 h=>RT.oN (n:=4) (e:=eQ) .none Y Y T Y T (by rfl) (by decide) (by exact⟨au,aB,au,aB,aq⟩) h8<|an (s:=.row _) Y<|dn<|qq<|sr<|mv Y<|lE h λdK fY h=>ln Y fY<|mv Y<|dn<|bE h λe8 z9 rj=>?_;refine bJ (λ(uB:(List Qr))=>AS.cq 23 [(3,.row 8)] [] [(8,TR 36 4 eQ uB)]) (λuB=>uB=e8) ?_ (λuB Aa=>?_);refine bj ?_;refine bK z9 (λs8=>AS.cq 23 [(3,.row 8),(9,.sv (slc 1 (List.map bL x0))),(10,ai dK),(11,ai s8.1)] [] [(8,TR 36 4 eQ s8.2)]) (wR []) (λs8 y8 G8 h Ab Ad=>?_);obtain⟨rS,At⟩:=s8
 try dsimp only
 refine sr<|lE h λdg fP h=>ls _ Y Y fP<|dn<|qq ?_;cases dg;refine cF<|bN<|aV.x<|aV.x<|bw.x<|aV.n ?_;obtain rfl:=O (F h);exact⟨At,Ad _ Y,wR []⟩;refine cT<|bu<|aV.n<|qq<|bj<|sr<|mv Y<|bE (V h) λdO jh h=>ix Y Y jh<|lr Y Y<|ag Y<|ag Y<|dn<|aW<|mo (s:=.row _) Y<|mv Y<|mv Y ?_;obtain⟨⟨⟨qo,qp⟩,⟨Mw,Mx⟩⟩,mM,h⟩:=bS h;refine cl (iJ mM) ⟨Y,aq⟩<|bE h λjw oQ h=>iR Y Y Y oQ<|bE h λqC lO h=>sA ⟨⟨qo,qp⟩,⟨Mw,Mx⟩⟩ Y Y Y lO<|RT.done<|bw.n<|aV.n<|aW<|lE h λfZ my h=>ad _ Y Y my<|mv Y<|RT.done ?_;obtain rfl:=O h;exact aV.n ⟨(fZ,qC),Ab _ Y,wR []⟩;subst Aa
 try dsimp only
 refine aV.n<|sr<|mo (s:=.row _) Y<|an (s:=.row _) Y<|dn<|bM (cn (i:=8) (E1:=36) (n:=4) (e:=eQ) (l:=uB) Y)<|bf ?_;obtain rfl:=O rj;exact R1 Y
theorem tj{x0:List Qr}{x1:List Qr}{r:Int×Bool}(h:dB x0 x1=some r):Pure ah 38 [slc 4 (List.map eQ x0),slc 4 (List.map eQ x1)] (.yy [ay r.1,az r.2]):=by
 refine aZ Tryz.func38 Y (af Y) (λdI M vs hvs=>?_);unfold dB at h;refine sr<|al (cs:=[ay 0]) (by exact⟨au,aq⟩) Y<|al (cs:=[az false]) (by exact⟨au,aq⟩) Y<|dn<|qq<|sr<|mv Y<|mv Y<|cl (pR x0 x1) ⟨Y,Y,aq⟩<|dn<|bj<|bE h λe5 hl5 W0=>?_;obtain⟨m5,Vu,hs5,ht5,hn5⟩:=sq hl5;refine jy (pS x0 x1) (λ_ _ _ _ _=>trivial) Y (λk=>AS.cq 20 [(4,.ptr 4 0),(5,.ptr 5 0),(10,.sv (oM 112 [ref [slc 4 (List.map eQ x0)],ref [slc 4 (List.map eQ x1)]]))] [(5,⟨4,[aj false]⟩),(4,⟨3,[ai (Vu k)]⟩)] []) [5,4] Y (λ_=>⟨Y,Y⟩) (qN Y) (λ_=>Y) (qO Y) (by(try dsimp only);rw[hs5];(try dsimp only);exact da id Y Y Y Y Y ⟨.ptr,.ptr,.sv au,aq⟩ ⟨⟨_,Y,⟨.sv au,aq⟩⟩,⟨_,Y,⟨.sv au,aq⟩⟩,aq⟩ trivial (λ_ _=>Y)) m5 (λk hk hkm D hD=>?_) (λhdn=>?_);obtain⟨y5,h,hG5,hE5⟩:=ht5 k hk hkm;obtain⟨Au,O9⟩:∃q,Vu k=q:=⟨_,Y⟩;rw[O9]at h⊢;dsimp only[AS.Oq,qM]
 try dsimp only at h
 obtain⟨⟨⟨xR,xS⟩,⟨xT,xU⟩⟩,Hz,h⟩:=bS h;rw[Option.some.inj Hz];obtain⟨⟨⟨Fz,FA⟩,⟨FB,FC⟩⟩,TQ,h⟩:=bS h;rw[Option.some.inj TQ];refine sr<|al (cs:=[az false,ax,az false,ax]) (by exact⟨au,aB,au,aB,aq⟩) Y<|so Y Y Y<|dn<|aW<|al (cs:=[az false,ax,az false,ax]) (by exact⟨au,aB,au,aB,aq⟩) Y<|so Y Y Y<|RT.done ?_;refine aV.n ⟨Y,?_⟩;dsimp only[AS.Bu];refine bj<|qq<|sr<|ld Y Y (.k4 Y Y Y Y)<|ld Y Y (.k4 Y Y Y Y)<|bE h λeM jL h=>cl (lP jL) ⟨Y,Y,aq⟩<|lE h λeU iL h=>gt _ Y Y iL<|dn ?_;cases eU;refine fs<|aW<|lV Y Y Y<|lE (F h) λjU mM h=>ad _ Y Y mM<|RT.jK (cells:=[_]) .none (s:=.sv _) Y Y Y T Y<|RT.done<|bw.n ?_;obtain rfl:=O h;obtain⟨hm5,hq5⟩:=hG5 _ Y;refine⟨hm5,Y,Y,?_⟩
 try dsimp only
 rw[<-hq5]
 try dsimp only
 exact wR [];refine cT<|sr<|lV Y Y Y<|RT.jK (cells:=[_]) .none (s:=.sv _) Y Y Y T Y<|RT.jK (cells:=[_]) .none (s:=.sv _) Y Y Y T Y<|dn<|bf<|aV.r<|bw.r ?_;obtain rfl:=O (V h);have he5:=hE5 _ Y;subst he5;refine⟨Y,Y,?_⟩;refine bw.r<|aV.r ?_;obtain rfl:=O W0;exact RZ (.one Y Y Y (.one Y Y Y (.nil)));have hd5:=hn5 hdn;subst hd5;obtain⟨Au,acu⟩:∃q,Vu (max x0.length x1.length)=q:=⟨_,Y⟩;rw[acu]at W0⊢
 try dsimp only
 refine bw.n<|aV.n<|sr<|RT.jK (cells:=[_]) .none (s:=.sv _) Y Y Y T Y<|RT.jK (cells:=[_]) .none (s:=.sv _) Y Y Y T Y<|dn<|bf ?_;obtain rfl:=O W0;exact RZ (.one Y Y Y (.one Y Y Y (.nil)))
end
section
open Go.Fw
noncomputable def lp(x0:List (List Qr))(x1:Int):Option (List Qr):=cm (λ(An:Bool)=>(bif An then some []else(cY x0 x1).bind λeM=>some eM)) λK3=>(some (decide ((x1:Int)<0))).bind λx6=>(bif x6 then some true else(some (x0.length:Int)).bind λdK=>(some (decide ((dK:Int)<=x1))).bind λgu=>some gu).bind λRK=>K3 RK
noncomputable def lq(x0:List (List Qr)):Option (Int):=(some (x0.length:Int)).bind λx7=>(b8 (λ(s6:Int×Int)=>match s6 with|⟨lS,Pj⟩=>(show Option ((Int×Int)⊕(Int))from(some (decide ((Pj:Int)<x7))).bind λx9=>(bif x9 then(cY x0 Pj).bind λdK=>(some (dK.length:Int)).bind λdO=>(some (max (lS:Int) dO)).bind λeM=>(some (IntKind.i64.wrap (Pj+1))).bind λeU=>some (.inl (eM,eU))else some (.inr lS)))) (0,0)).bind λoS=>some oS
noncomputable def oT(x0:List (List Qr))(x1:Int)(x2:Int):Option (Qr):=(lp x0 x1).bind λdK=>cm (λ(My:Bool)=>(bif My then some ⟨⟨false,[]⟩,⟨false,[]⟩⟩else(cY dK x2).bind λ⟨⟨n7,n8⟩,⟨n9,oa⟩⟩=>(c8 ⟨⟨n7,n8⟩,⟨n9,oa⟩⟩).bind λ⟨⟨xV,xW⟩,⟨xX,xY⟩⟩=>some ⟨⟨xV,xW⟩,⟨xX,xY⟩⟩)) λK3=>(some (decide ((x2:Int)<0))).bind λdg=>(bif dg then some true else(some (dK.length:Int)).bind λeU=>(some (decide ((eU:Int)<=x2))).bind λfz=>some fz).bind λRL=>K3 RL
noncomputable def kC(x0:List (List Qr))(x1:List Qr):Option (List Qr):=(some (x0.length:Int)).bind λx9=>(Ce 64 x9 (⟨⟨false,[]⟩,⟨false,[]⟩⟩:Qr)).bind λdK=>(some (x0.length:Int)).bind λdg=>(b8 (λ(s8:Int×(List Qr))=>match s8 with|⟨fR,fS⟩=>(show Option ((Int×(List Qr))⊕((List Qr)))from(some (decide ((fR:Int)<dg))).bind λdO=>(bif dO then(cY x0 fR).bind λeU=>(gO eU x1).bind λ⟨⟨n7,n8⟩,⟨n9,oa⟩⟩=>(tB fS fR).bind λiC=>(stM fS iC ⟨⟨n7,n8⟩,⟨n9,oa⟩⟩).bind λqC=>(some (IntKind.i64.wrap (fR+1))).bind λgU=>some (.inl (gU,qC))else some (.inr fS)))) (0,dK)).bind λdW=>some dW
noncomputable def lT(x0:Qr)(x1:List (List Qr)):Option (List (List Qr)):=match x0 with|⟨⟨bt,bp⟩,⟨bD,bG⟩⟩=>(some (x1.length:Int)).bind λx9=>(Ce 24 x9 ([]:List Qr)).bind λdK=>(some (x1.length:Int)).bind λdg=>(b8 (λ(s8:Int×(List (List Qr)))=>match s8 with|⟨fR,fS⟩=>(show Option ((Int×(List (List Qr)))⊕((List (List Qr))))from(some (decide ((fR:Int)<dg))).bind λdO=>(bif dO then(cY x1 fR).bind λeU=>(gV ⟨⟨bt,bp⟩,⟨bD,bG⟩⟩ eU).bind λiB=>(tB fS fR).bind λiC=>(stM fS iC iB).bind λqC=>(some (IntKind.i64.wrap (fR+1))).bind λgU=>some (.inl (gU,qC))else some (.inr fS)))) (0,dK)).bind λdW=>some dW
noncomputable def mS(x0:Qr)(x1:List (List Qr)):Option (List (List Qr)):=match x0 with|⟨⟨bt,bp⟩,⟨bD,bG⟩⟩=>(some (x1.length:Int)).bind λx9=>(Ce 24 x9 ([]:List Qr)).bind λdK=>(some (x1.length:Int)).bind λdg=>(b8 (λ(s8:Int×(List (List Qr)))=>match s8 with|⟨fR,fS⟩=>(show Option ((Int×(List (List Qr)))⊕((List (List Qr))))from(some (decide ((fR:Int)<dg))).bind λdO=>(bif dO then(cY x1 fR).bind λeU=>(gV ⟨⟨bt,bp⟩,⟨bD,bG⟩⟩ eU).bind λiB=>(tB fS fR).bind λiC=>(stM fS iC iB).bind λqC=>(some (IntKind.i64.wrap (fR+1))).bind λgU=>some (.inl (gU,qC))else some (.inr fS)))) (0,dK)).bind λdW=>some dW
noncomputable def iZ(x0:List (List Qr))(x1:List (List Qr)):Option (Bool):=(ko (λ(k:Nat) (s3:Unit)=>(show Option ((Unit)⊕(Bool))from(some (x0.getD k [])).bind λTd=>(some (x1.getD k [])).bind λp11=>(dU Td p11).bind λdO=>(some (!dO)).bind λeM=>(bif eM then some (.inr false)else some (.inl ())))) (max x0.length x1.length) ()).bind λe3=>match e3 with|.inr v3=>some v3|.inl _=>some true
noncomputable def eH(x0:List (List Int)):Option (List (List Qr)):=(some (x0.length:Int)).bind λx7=>(Ce 24 x7 ([]:List Qr)).bind λx8=>(some (x0.length:Int)).bind λdK=>(b8 (λ(s8:Int×(List (List Qr)))=>match s8 with|⟨rS,At⟩=>(show Option ((Int×(List (List Qr)))⊕((List (List Qr))))from(some (decide ((rS:Int)<dK))).bind λdg=>(bif dg then(cY x0 rS).bind λdO=>(cU dO).bind λjU=>(tB At rS).bind λjw=>(stM At jw jU).bind λqC=>(some (IntKind.i64.wrap (rS+1))).bind λfZ=>some (.inl (fZ,qC))else some (.inr At)))) (0,x8)).bind λuB=>some uB
end
section
open Go.Fw Go.Fw.Z Go.RowKit
theorem uC{x0:List (List Qr)}{x1:Int}{r:List Qr}(h:lp x0 x1=some r):Pure ah 96 [slc 1 (List.map (eS 4 eQ) x0),.v (.int .i64 x1)] (slc 4 (List.map eQ r)):=by
 refine aZ Tryz.func96 Y (af Y) (λdI M vs hvs=>?_);unfold lp at h;refine sr<|aI Y (aB (n:=4) (e:=eQ))<|dn<|qq<|qq ?_;refine bC h (λj3=>AS.cq 17 [(0,.sv (slc 1 (List.map (eS 4 eQ) x0))),(1,.sv (.v (.int .i64 x1))),(12,.sv (.v (.bool j3)))] [] []) (λh=>?_) (λAn h=>?_);refine aW<|mv Y<|lE h λx6 h6 h=>ls _ Y Y h6<|mv Y<|bE h λRK sE h=>?_;cases x6;refine gm Y<|gm Y<|lE (F sE) λdK fY sE=>gn Y fY<|lE sE λgu mw sE=>RT.geq (.some Y Y) _ Y Y T mw ?_;obtain rfl:=O sE;exact pF Y<|dn<|⟨gu,h,wR []⟩;obtain rfl:=O (V sE);exact ww<|ww<|ww<|ww<|pT Y<|dn<|⟨true,h,wR []⟩
 try dsimp only
 refine aV.n ?_;cases An;refine fs<|sr<|mv Y<|mv Y<|bE (F h) λeM jL h=>ix Y Y jL<|lr Y Y<|ag Y<|dn<|bf ?_;obtain rfl:=O h;exact R1 Y;refine cT<|sr<|aI Y (aB (n:=4) (e:=eQ))<|dn<|bf<|aV.r ?_;obtain rfl:=O (V h);exact R1 Y
theorem Av(a:List (List Qr))(i:Nat):lp a (i:Int)=some (a.getD i []):=by
 unfold lp;unfold cm;by_cases h:i<a.length;simp[cY,h,show ¬((i:Int)<0) by omega,show ¬((a.length:Int)<=(i:Int)) by omega,List.getD];simp[h,show ¬((i:Int)<0) by omega,show((a.length:Int)<=(i:Int)) by omega,eE (Nat.not_lt.1 h)]
theorem yJ(a b:List (List Qr)):Pure ah 90 [(slc 1 (List.map (eS 4 eQ) a)),(slc 1 (List.map (eS 4 eQ) b))] (oM 120 [ref [(slc 1 (List.map (eS 4 eQ) a))],ref [(slc 1 (List.map (eS 4 eQ) b))]]):=by
 refine aZ Tryz.func90 Y (af Y) (λdI M vs hvs=>?_);refine sr<|RT.CZ .none (s:=.sv _) Y T Y Y<|RT.CZ .none (s:=.sv _) Y T Y Y<|ag Y<|dn<|sr<|RT.makeFunc .none (.box Y (.box Y (.nil))) T<|an (s:=.fD _ _) Y<|dn<|bM (k7 (i:=2) Y [(slc 1 (List.map (eS 4 eQ) a))] (.cons Y .nil) .any 0 [(4,.fD 120 [.val (ref [(slc 1 (List.map (eS 4 eQ) a))]),.box 3])] (λ_ _ _=>trivial) (tR.h (l:=[(slc 1 (List.map (eS 4 eQ) a))])) ⟨@FT.fD _ _ _ _ _ 4 120 [.box 2,.box 3] Y,aq⟩) ?_;exact bM (k7 (i:=3) Y [(slc 1 (List.map (eS 4 eQ) b))] (.cons Y .nil) .any 0 [(4,.fD 120 [.val (ref [(slc 1 (List.map (eS 4 eQ) a))]),.val (ref [(slc 1 (List.map (eS 4 eQ) b))])])] (λ_ _ _=>trivial) (tR.h (l:=[(slc 1 (List.map (eS 4 eQ) b))])) ⟨@FT.fD _ _ _ _ _ 4 120 [.val (ref [(slc 1 (List.map (eS 4 eQ) a))]),.box 3] Y,aq⟩)<|bM (C9 4 (oM 120 [ref [(slc 1 (List.map (eS 4 eQ) a))],ref [(slc 1 (List.map (eS 4 eQ) b))]]) (λ_ _ h=>Da h))<|bf<|⟨.inr Y,C5 (.tmp Y (.nil)) Y⟩
theorem yK(a b:List (List Qr)):Iter ah 120 [ref [(slc 1 (List.map (eS 4 eQ) a))],ref [(slc 1 (List.map (eS 4 eQ) b))]] (max a.length b.length) (λk=>[(slc 4 (List.map eQ (a.getD k []))),(slc 4 (List.map eQ (b.getD k [])))]):=by
 refine pJ Tryz.func120 Y Y (af Y) (λdI M O l J hJ we hr=>?_);obtain⟨qA,we⟩:=we;have hla:a.length<=9223372036854775807:=by cases qA with|nil=>exact we.elim|cons _ qA=>exact sn we.1
 have hlb:b.length<=9223372036854775807:=by cases qA with|nil=>exact we.elim|cons _ qA=>cases qA with|nil=>exact we.2.elim|cons _ _=>exact sn we.2.1
 refine bz ?_;refine aW ?_;refine RT.cE .none Y Y (tl Y) ?_;refine RT.len .none Y (tl Y) ?_;refine RT.cE .none Y Y (tl Y) ?_;refine RT.len .none Y (tl Y) ?_;refine RT.max .none (((max a.length b.length:Nat):Int)) Y Y (tl Y) (by simp only[List.length_map];split<;>omega) ?_;refine RT.mv .none Y (tl Y) ?_;refine RT.done ?_;refine aV.n ?_;refine bj ?_
 refine uQ (I:=λx:{i:Nat//i<=max a.length b.length}=>AS.cq 23 [(0,.sv (.v (.func (.yield l) #[] #[]))),(1,.sv (ref [(slc 1 (List.map (eS 4 eQ) a))])),(2,.sv (ref [(slc 1 (List.map (eS 4 eQ) b))])),(9,.sv (.v (.int .i64 ((max a.length b.length:Nat):Int)))),(10,.sv (.v (.int .i64 ((x.1:Nat):Int))))] [] [] (x.1)) (μ:=λx=>max a.length b.length-x.1) ⟨0,by omega⟩ (by(try dsimp only);exact da id rfl rfl rfl rfl rfl ⟨.sv (by first|exact au|exact SV.aY (by omega)|exact SV.aY (by push_cast;omega)|exact SV.aY (by dsimp only;omega)|exact SV.imp_eq (by simp)),.sv (by first|exact au|exact SV.aY (by omega)|exact SV.aY (by push_cast;omega)|exact SV.aY (by dsimp only;omega)|exact SV.imp_eq (by simp)),.sv (by first|exact au|exact SV.aY (by omega)|exact SV.aY (by push_cast;omega)|exact SV.aY (by dsimp only;omega)|exact SV.imp_eq (by simp)),.sv (by first|exact au|exact SV.aY (by omega)|exact SV.aY (by push_cast;omega)|exact SV.aY (by dsimp only;omega)|exact SV.imp_eq (by simp)),.sv (by first|exact au|exact SV.aY (by omega)|exact SV.aY (by push_cast;omega)|exact SV.aY (by dsimp only;omega)|exact SV.imp_eq (by simp)),aq⟩ trivial trivial (λ_ _=>rfl)) ?_;rintro⟨i,Q4⟩
 try dsimp only
 rcases Nat.lt_or_eq_of_le Q4 with hi|hi
 ·
  refine bz ?_;refine aW ?_;refine RT.lss .none (true) Y Y (tl Y) (by simp;omega) ?_;refine RT.done ?_;refine aV.n ?_;refine bz ?_;refine cz Y ?_;refine bu ?_;refine aV.n ?_;refine bz ?_;refine bj ?_;refine bz ?_;refine aW ?_;refine RT.mv .none Y (tl Y) ?_;refine RT.zG .none Y (tl Y) ?_;refine RT.done ?_;refine aV.n ?_;refine bz ?_;refine zU 7 mixed ?_;refine RT.mv .none Y (tl Y) ?_;refine RT.cE .none Y Y (tl Y) ?_;refine RT.mv .none Y (tl Y) ?_;refine RT.call .none (uC (Av a i)) Y ⟨Y,Y,aq⟩ (tl Y) ?_;refine RT.cE .none Y Y (tl Y) ?_;refine RT.mv .none Y (tl Y) ?_;refine RT.call .none (uC (Av b i)) Y ⟨Y,Y,aq⟩ (tl Y) ?_;refine RT.done ⟨by kernel_rfl,?_⟩;refine RT.yield .none hr Y (λ_ h=>h) Y (i) Y Y hi (by exact⟨Y,Y,aq⟩) (tl Y) (λyb=>?_);cases yb
  ·
   refine RT.not .none Y (tl Y) true Y ?_;refine RT.done ?_;refine aV.n ?_;refine cz Y ?_;refine bf ?_;refine bw.r ?_;refine aV.r ?_;refine aV.r ?_;refine bw.r ?_;exact⟨.inr rfl,(λh=>by cases h)⟩
  refine RT.not .none Y (tl Y) false Y ?_;refine RT.done ?_;refine aV.n ?_;refine dJ Y ?_;refine bu ?_;refine bw.n ?_;refine aV.n ?_;refine aW ?_;refine RT.add .none (((i:Nat):Int)+1) Y Y (tl Y) (kn (by omega)) ?_;refine RT.mv .none Y (tl Y) ?_;refine RT.done ?_;refine aV.n ?_;refine⟨⟨i+1,by omega⟩,(by dsimp only;omega),?_⟩
  try dsimp only
  exact da id rfl rfl rfl rfl rfl ⟨.sv (by first|exact au|exact SV.aY (by omega)|exact SV.aY (by push_cast;omega)|exact SV.aY (by dsimp only;omega)|exact SV.imp_eq (by simp)),.sv (by first|exact au|exact SV.aY (by omega)|exact SV.aY (by push_cast;omega)|exact SV.aY (by dsimp only;omega)|exact SV.imp_eq (by simp)),.sv (by first|exact au|exact SV.aY (by omega)|exact SV.aY (by push_cast;omega)|exact SV.aY (by dsimp only;omega)|exact SV.imp_eq (by simp)),.sv (by first|exact au|exact SV.aY (by omega)|exact SV.aY (by push_cast;omega)|exact SV.aY (by dsimp only;omega)|exact SV.imp_eq (by simp)),.sv (by first|exact au|exact SV.aY (by omega)|exact SV.aY (by push_cast;omega)|exact SV.aY (by dsimp only;omega)|exact SV.imp_eq (by simp)),aq⟩ trivial trivial (λ_ _=>rfl)
 subst hi;refine bz ?_;refine aW ?_;refine RT.lss .none (false) Y Y (tl Y) (by simp) ?_;refine RT.done ?_;refine aV.n ?_;refine bz ?_;refine dJ Y ?_;refine bN ?_;refine aV.x ?_;refine aV.x ?_;refine bw.x ?_;exact⟨.inl rfl,(λ_=>rfl)⟩
theorem ye{x0:List (List Qr)}{r:Int}(h:lq x0=some r):Pure ah 58 [slc 1 (List.map (eS 4 eQ) x0)] (.v (.int .i64 r)):=by
 refine aZ Tryz.func58 Y (af Y) (λdI M vs hvs=>?_);unfold lq at h;refine sr<|ag Y<|dn<|sr<|ag Y<|dn<|qq<|sr<|mv Y<|lE h λx7 h7 h=>ln Y h7<|mv Y<|dn<|bE h λe6 BG jW=>?_;refine bJ (λ(oS:Int)=>AS.cq 18 [(3,.sv (.v (.int .i64 oS)))] [] []) (λoS=>oS=e6) ?_ (λoS BH=>?_);refine bj ?_;refine bK BG (λs6=>AS.cq 18 [(3,.sv (.v (.int .i64 s6.1))),(6,.sv (slc 1 (List.map (eS 4 eQ) x0))),(7,.sv (.v (.int .i64 x7))),(8,.sv (.v (.int .i64 s6.2)))] [] []) (wR []) (λs6 y6 G6 h BI wU=>?_);obtain⟨lS,Pj⟩:=s6
 try dsimp only
 refine sr<|lE h λx9 h9 h=>ls _ Y Y h9<|dn<|qq ?_;cases x9;refine cF<|bN<|aV.x<|aV.x<|bw.x<|aV.n ?_;obtain rfl:=O (F h);exact⟨lS,wU _ Y,wR []⟩;refine cT<|bu<|aV.n<|qq<|bj<|sr<|bE (V h) λdK fY h=>ix Y Y fY<|lr Y Y<|ag Y<|dn<|aW<|mv Y<|mv Y<|lE h λdO jh h=>ln Y jh<|lE h λeM jL h=>RT.max .none _ Y Y T (OV (p:=lS) (q:=dO) jL)<|ag Y<|RT.done<|bw.n<|aV.n<|aW<|lE h λeU iL h=>ad _ Y Y iL<|mv Y<|RT.done ?_;obtain rfl:=O h;exact aV.n ⟨(eM,eU),BI _ Y,wR []⟩;subst BH
 try dsimp only
 refine aV.n<|sr<|mv Y<|ag Y<|dn<|bf ?_;obtain rfl:=O jW;exact R1 Y
theorem CB{x0:List (List Qr)}{x1:Int}{x2:Int}{r:Qr}(h:oT x0 x1 x2=some r):Pure ah 57 [slc 1 (List.map (eS 4 eQ) x0),.v (.int .i64 x1),.v (.int .i64 x2)] (.agg (eQ r)):=by
 refine aZ Tryz.func57 Y (af Y) (λdI M vs hvs=>?_);unfold oT at h;refine sr<|al (cs:=[.v (.bool false),slc 1 (List.map aX []),.v (.bool false),slc 1 (List.map aX [])]) (by exact⟨au,aB,au,aB,aq⟩) Y<|dn<|sr<|mv Y<|mv Y<|bE h λdK fY h=>cl (uC fY) ⟨Y,Y,aq⟩<|ag Y<|dn<|qq<|qq ?_;refine bC h (λj3=>AS.cq 25 [(2,.sv (.v (.int .i64 x2))),(6,.ptr 6 0),(7,.sv (slc 4 (List.map eQ dK))),(18,.sv (.v (.bool j3)))] [(6,⟨36,[.sv (.v (.bool false)),.sv (slc 1 (List.map aX [])),.sv (.v (.bool false)),.sv (slc 1 (List.map aX []))]⟩)] []) (λh=>?_) (λMy h=>?_);refine aW<|mv Y<|lE h λdg fP h=>ls _ Y Y fP<|mv Y<|bE h λRL sE h=>?_;cases dg;refine gm Y<|gm Y<|lE (F sE) λeU iL sE=>gn Y iL<|lE sE λfz lj sE=>RT.geq (.some Y Y) _ Y Y T lj ?_;obtain rfl:=O sE;exact pF Y<|dn<|⟨fz,h,wR []⟩;obtain rfl:=O (V sE);exact ww<|ww<|ww<|ww<|pT Y<|dn<|⟨true,h,wR []⟩
 try dsimp only
 refine aV.n ?_;cases My;refine fs<|sr<|mv Y<|mv Y ?_;obtain⟨⟨⟨n7,n8⟩,⟨n9,oa⟩⟩,nm,h⟩:=bS (F h);refine ix Y Y nm<|RT.nT (cs:=[_,_,_,_]) .none Y T Y Y ?_;obtain⟨⟨⟨xV,xW⟩,⟨xX,xY⟩⟩,oG,h⟩:=bS h;refine cl (iK oG) ⟨Y,aq⟩<|so Y Y Y<|dn<|bf ?_;obtain rfl:=O h;exact RZ (.agg Y Y (.cons Y (.cons Y (.cons Y (.cons Y (.nil))))) Y (.nil));refine cT<|sr<|bI (cs:=[_,_,_,_]) (cs':=[.v (.bool false),slc 1 (List.map aX []),.v (.bool false),slc 1 (List.map aX [])]) (.nil) ⟨au,aB,au,aB,aq⟩<|so Y Y Y<|dn<|bf<|aV.r ?_;obtain rfl:=O (V h);exact RZ (.agg Y Y (.cons Y (.cons Y (.cons Y (.cons Y (.nil))))) Y (.nil))
theorem BT{x0:List (List Qr)}{x1:List Qr}{r:List Qr}(h:kC x0 x1=some r):Pure ah 63 [slc 1 (List.map (eS 4 eQ) x0),slc 4 (List.map eQ x1)] (slc 4 (List.map eQ r)):=by
 refine aZ Tryz.func63 Y (af Y) (λdI M vs hvs=>?_);unfold kC at h;refine sr<|aI Y (aB (n:=4) (e:=eQ))<|dn<|sr<|mv Y<|lE h λx9 h9 h=>ln Y h9<|bE h λdK fY h=>RT.oN (n:=4) (e:=eQ) .none Y Y T Y T (by rfl) (by decide) (by exact⟨au,aB,au,aB,aq⟩) fY<|an (s:=.row _) Y<|dn<|qq<|sr<|mv Y<|lE h λdg fP h=>ln Y fP<|mv Y<|dn<|bE h λe8 z9 rj=>?_;refine bJ (λ(dW:(List Qr))=>AS.cq 26 [(5,.row 10)] [] [(10,TR 36 4 eQ dW)]) (λdW=>dW=e8) ?_ (λdW Aa=>?_);refine bj ?_;refine bK z9 (λs8=>AS.cq 26 [(1,.sv (slc 4 (List.map eQ x1))),(5,.row 10),(11,.sv (slc 1 (List.map (eS 4 eQ) x0))),(12,.sv (.v (.int .i64 dg))),(13,.sv (.v (.int .i64 s8.1)))] [] [(10,TR 36 4 eQ s8.2)]) (wR []) (λs8 y8 G8 h Ab Ad=>?_);obtain⟨fR,fS⟩:=s8
 try dsimp only
 refine sr<|lE h λdO jh h=>ls _ Y Y jh<|dn<|qq ?_;cases dO;refine cF<|bN<|aV.x<|aV.x<|bw.x<|aV.n ?_;obtain rfl:=O (F h);exact⟨fS,Ad _ Y,wR []⟩;refine cT<|bu<|aV.n<|qq<|bj<|sr<|mv Y<|bE (V h) λeU iL h=>ix Y Y iL<|lr Y Y<|ag Y<|ag Y<|dn<|aW<|mo (s:=.row _) Y<|mv Y<|mv Y<|mv Y ?_;obtain⟨⟨⟨n7,n8⟩,⟨n9,oa⟩⟩,nm,h⟩:=bS h;refine cl (pU nm) ⟨Y,Y,aq⟩<|bE h λiC oR h=>iR Y Y Y oR<|bE h λqC lO h=>sA ⟨⟨n7,n8⟩,⟨n9,oa⟩⟩ Y Y Y lO<|RT.done<|bw.n<|aV.n<|aW<|lE h λgU oG h=>ad _ Y Y oG<|mv Y<|RT.done ?_;obtain rfl:=O h;exact aV.n ⟨(gU,qC),Ab _ Y,wR []⟩;subst Aa
 try dsimp only
 refine aV.n<|sr<|mo (s:=.row _) Y<|an (s:=.row _) Y<|dn<|bM (cn (i:=10) (E1:=36) (n:=4) (e:=eQ) (l:=dW) Y)<|bf ?_;obtain rfl:=O rj;exact R1 Y
theorem DG{x0:Qr}{x1:List (List Qr)}{r:List (List Qr)}(h:lT x0 x1=some r):Pure ah 88 [.agg (eQ x0),slc 1 (List.map (eS 4 eQ) x1)] (slc 1 (List.map (eS 4 eQ) r)):=by
 obtain⟨⟨bt,bp⟩,⟨bD,bG⟩⟩:=x0;refine aZ Tryz.func88 Y (af Y) (λdI M vs hvs=>?_);unfold lT at h;refine sr<|bx Y<|aI Y (aB (n:=1) (e:=(eS 4 eQ)))<|dn<|sr<|mv Y<|lE h λx9 h9 h=>ln Y h9<|bE h λdK fY h=>RT.oN (n:=1) (e:=(eS 4 eQ)) .none Y Y T Y T (by rfl) (by decide) (by exact⟨aB,aq⟩) fY<|an (s:=.row _) Y<|dn<|qq<|sr<|mv Y<|lE h λdg fP h=>ln Y fP<|mv Y<|dn<|bE h λe8 z9 rj=>?_;refine bJ (λ(dW:(List (List Qr)))=>AS.cq 26 [(5,.row 10)] [] [(10,TR 24 1 (eS 4 eQ) dW)]) (λdW=>dW=e8) ?_ (λdW Aa=>?_);refine bj ?_;refine bK z9 (λs8=>AS.cq 26 [(2,.ptr 2 0),(5,.row 10),(11,.sv (slc 1 (List.map (eS 4 eQ) x1))),(12,.sv (.v (.int .i64 dg))),(13,.sv (.v (.int .i64 s8.1)))] [(2,⟨36,[.sv (.v (.bool bt)),.sv (slc 1 (List.map aX bp)),.sv (.v (.bool bD)),.sv (slc 1 (List.map aX bG))]⟩)] [(10,TR 24 1 (eS 4 eQ) s8.2)]) (wR []) (λs8 y8 G8 h Ab Ad=>?_);obtain⟨fR,fS⟩:=s8
 try dsimp only
 refine sr<|lE h λdO jh h=>ls _ Y Y jh<|dn<|qq ?_;cases dO;refine cF<|bN<|aV.x<|aV.x<|bw.x<|aV.n ?_;obtain rfl:=O (F h);exact⟨fS,Ad _ Y,wR []⟩;refine cT<|bu<|aV.n<|qq<|bj<|sr<|mv Y<|bE (V h) λeU iL h=>ix Y Y iL<|lr Y Y<|ag Y<|ag Y<|dn<|aW<|mo (s:=.row _) Y<|mv Y<|ld Y Y (.cons Y (.cons Y (.cons Y (.cons Y (.nil)))))<|mv Y<|bE h λiB nm h=>cl (mR nm) ⟨Y,Y,aq⟩<|bE h λiC oR h=>iR Y Y Y oR<|bE h λqC lO h=>sR iB Y Y Y Y lO ?_;refine RT.done<|bw.n<|aV.n<|aW<|lE h λgU oG h=>ad _ Y Y oG<|mv Y<|RT.done ?_;obtain rfl:=O h;exact aV.n ⟨(gU,qC),Ab _ Y,wR []⟩;subst Aa
 try dsimp only
 refine aV.n<|sr<|mo (s:=.row _) Y<|an (s:=.row _) Y<|dn<|bM (cn (i:=10) (E1:=24) (n:=1) (e:=(eS 4 eQ)) (l:=dW) Y)<|bf ?_;obtain rfl:=O rj;exact R1 Y
theorem BU{x0:Qr}{x1:List (List Qr)}{r:List (List Qr)}(h:mS x0 x1=some r):GW ah 88 [.agg (eQ x0),slc 1 (List.map (eS 4 eQ) x1)] (TR 24 1 (eS 4 eQ) r):=by
 obtain⟨⟨bt,bp⟩,⟨bD,bG⟩⟩:=x0;refine pH Tryz.func88 Y (af Y) (λdI M vs hvs=>?_);unfold mS at h;refine sr<|bx Y<|ag Y<|dn<|bM (gL 4 304 24 1 Y Y T)<|sr<|mv Y<|lE h λx9 h9 h=>ln Y h9<|bE h λdK fY h=>RT.oN (n:=1) (e:=(eS 4 eQ)) .none Y Y T Y T (by rfl) (by decide) (by exact⟨aB,aq⟩) fY<|an (s:=.row _) Y<|dn<|qq<|sr<|mv Y<|lE h λdg fP h=>ln Y fP<|mv Y<|dn<|bE h λe8 z9 rj=>?_;refine bJ (λ(dW:(List (List Qr)))=>AS.cq 26 [(5,.row 10)] [] [(10,TR 24 1 (eS 4 eQ) dW)]) (λdW=>dW=e8) ?_ (λdW Aa=>?_);refine bj ?_;refine bK z9 (λs8=>AS.cq 26 [(2,.ptr 2 0),(5,.row 10),(11,.sv (slc 1 (List.map (eS 4 eQ) x1))),(12,.sv (.v (.int .i64 dg))),(13,.sv (.v (.int .i64 s8.1)))] [(2,⟨36,[.sv (.v (.bool bt)),.sv (slc 1 (List.map aX bp)),.sv (.v (.bool bD)),.sv (slc 1 (List.map aX bG))]⟩)] [(10,TR 24 1 (eS 4 eQ) s8.2)]) (wR []) (λs8 y8 G8 h Ab Ad=>?_);obtain⟨fR,fS⟩:=s8
 try dsimp only
 refine sr<|lE h λdO jh h=>ls _ Y Y jh<|dn<|qq ?_;cases dO;refine cF<|bN<|aV.x<|aV.x<|bw.x<|aV.n ?_;obtain rfl:=O (F h);exact⟨fS,Ad _ Y,wR []⟩;refine cT<|bu<|aV.n<|qq<|bj<|sr<|mv Y<|bE (V h) λeU iL h=>ix Y Y iL<|lr Y Y<|ag Y<|ag Y<|dn<|aW<|mo (s:=.row _) Y<|mv Y<|ld Y Y (.cons Y (.cons Y (.cons Y (.cons Y (.nil)))))<|mv Y<|bE h λiB nm h=>cl (mR nm) ⟨Y,Y,aq⟩<|bE h λiC oR h=>iR Y Y Y oR<|bE h λqC lO h=>sR iB Y Y Y Y lO ?_;refine RT.done<|bw.n<|aV.n<|aW<|lE h λgU oG h=>ad _ Y Y oG<|mv Y<|RT.done ?_;obtain rfl:=O h;exact aV.n ⟨(gU,qC),Ab _ Y,wR []⟩;subst Aa
 try dsimp only
 refine aV.n<|sr<|mo (s:=.row _) Y<|an (s:=.row _) Y<|dn<|bf ?_;obtain rfl:=O rj;exact⟨.inr Y,_,.tmp Y,Y⟩
theorem vu{x0:List (List Qr)}{x1:List (List Qr)}{r:Bool}(h:iZ x0 x1=some r):Pure ah 51 [slc 1 (List.map (eS 4 eQ) x0),slc 1 (List.map (eS 4 eQ) x1)] (.v (.bool r)):=by
 refine aZ Tryz.func51 Y (af Y) (λdI M vs hvs=>?_);unfold iZ at h;refine sr<|al (cs:=[.v (.bool false)]) (by exact⟨au,aq⟩) Y<|dn<|qq<|sr<|mv Y<|mv Y<|cl (yJ x0 x1) ⟨Y,Y,aq⟩<|dn<|bj<|bE h λe3 S3 TP=>?_;obtain⟨m3,st3,YC,ht3,hn3⟩:=sq S3;refine jy (yK x0 x1) (λ_ _ _ _ _=>trivial) rfl (λk=>AS.cq 16 [(4,.ptr 4 0),(9,.sv (oM 120 [ref [slc 1 (List.map (eS 4 eQ) x0)],ref [slc 1 (List.map (eS 4 eQ) x1)]]))] [(4,⟨4,[.sv (.v (.bool false))]⟩)] []) [4] rfl (λ_=>⟨rfl,rfl⟩) (qN rfl) (λ_=>rfl) (qO rfl) (by(try dsimp only);(try dsimp only);exact da id rfl rfl rfl rfl rfl ⟨.ptr,.sv au,aq⟩ ⟨⟨_,rfl,⟨.sv au,aq⟩⟩,aq⟩ trivial (λ_ _=>rfl)) m3 (λk hk hkm D hD=>?_) (λhdn=>?_);obtain⟨y3,h,hG3,hE3⟩:=ht3 k hk hkm;dsimp only[AS.Oq,qM]
 try dsimp only at h
 refine lE h λTd TT h=>?_;rw[TT];refine lE h λp11 Hz h=>?_;rw[Hz];refine sr<|ag Y<|dn<|aW<|ag Y<|RT.done ?_;refine aV.n ⟨Y,?_⟩;dsimp only[AS.Bu];refine bj<|sr<|mv Y<|mv Y<|bE h λdO jh h=>cl (jk jh) ⟨Y,Y,aq⟩<|lE h λeM jL h=>nt Y _ jL<|dn ?_;cases eM;refine cF<|bu<|bw.n ?_;obtain rfl:=O (F h);obtain⟨hm3,hq3⟩:=hG3 _ Y;exact⟨hm3,Y,Y,wR []⟩;refine cT<|sr<|RT.jK (cells:=[_]) .none (s:=.sv _) Y Y Y T Y<|dn<|bf<|bw.r ?_;obtain rfl:=O (V h);have he3:=hE3 _ Y;subst he3;refine⟨Y,Y,?_⟩;refine bw.r<|aV.r ?_;obtain rfl:=O TP;exact RZ (.one Y Y Y (.nil));have hd3:=hn3 hdn;subst hd3;obtain⟨ee3,TS⟩:∃q,st3 (max x0.length x1.length)=q:=⟨_,Y⟩;rw[TS]at TP
 try dsimp only
 refine bw.n<|aV.n<|sr<|RT.jK (cells:=[_]) .none (s:=.sv _) Y Y Y T Y<|dn<|bf ?_;obtain rfl:=O TP;exact RZ (.one Y Y Y (.nil))
theorem jG{x0:List (List Int)}{r:List (List Qr)}(h:eH x0=some r):Pure ah 41 [slc 1 (List.map (eS 1 bL) x0)] (slc 1 (List.map (eS 4 eQ) r)):=by
 refine aZ Tryz.func41 Y (af Y) (λdI M vs hvs=>?_);unfold eH at h;refine sr<|aI Y (aB (n:=1) (e:=(eS 4 eQ)))<|dn<|sr<|mv Y<|lE h λx7 h7 h=>ln Y h7<|bE h λx8 h8 h=>RT.oN (n:=1) (e:=(eS 4 eQ)) .none Y Y T Y T (by rfl) (by decide) (by exact⟨aB,aq⟩) h8<|an (s:=.row _) Y<|dn<|qq<|sr<|mv Y<|lE h λdK fY h=>ln Y fY<|mv Y<|dn<|bE h λe8 z9 rj=>?_;refine bJ (λ(uB:(List (List Qr)))=>AS.cq 23 [(3,.row 8)] [] [(8,TR 24 1 (eS 4 eQ) uB)]) (λuB=>uB=e8) ?_ (λuB Aa=>?_);refine bj ?_;refine bK z9 (λs8=>AS.cq 23 [(3,.row 8),(9,.sv (slc 1 (List.map (eS 1 bL) x0))),(10,.sv (.v (.int .i64 dK))),(11,.sv (.v (.int .i64 s8.1)))] [] [(8,TR 24 1 (eS 4 eQ) s8.2)]) (wR []) (λs8 y8 G8 h Ab Ad=>?_);obtain⟨rS,At⟩:=s8
 try dsimp only
 refine sr<|lE h λdg fP h=>ls _ Y Y fP<|dn<|qq ?_;cases dg;refine cF<|bN<|aV.x<|aV.x<|bw.x<|aV.n ?_;obtain rfl:=O (F h);exact⟨At,Ad _ Y,wR []⟩;refine cT<|bu<|aV.n<|qq<|bj<|sr<|mv Y<|bE (V h) λdO jh h=>ix Y Y jh<|lr Y Y<|ag Y<|ag Y<|dn<|aW<|mo (s:=.row _) Y<|mv Y<|mv Y<|bE h λjU mM h=>cl (eR mM) ⟨Y,aq⟩<|bE h λjw oQ h=>iR Y Y Y oQ<|bE h λqC lO h=>sR jU Y Y Y Y lO<|RT.done<|bw.n<|aV.n<|aW<|lE h λfZ my h=>ad _ Y Y my ?_;refine mv Y<|RT.done ?_;obtain rfl:=O h;exact aV.n ⟨(fZ,qC),Ab _ Y,wR []⟩;subst Aa
 try dsimp only
 refine aV.n<|sr<|mo (s:=.row _) Y<|an (s:=.row _) Y<|dn<|bM (cn (i:=8) (E1:=24) (n:=1) (e:=(eS 4 eQ)) (l:=uB) Y)<|bf ?_;obtain rfl:=O rj;exact R1 Y
end
end Go.Proofs.YtfoldppidpmchaaGreat
namespace Go.Fw
section
open Go.RowKit
theorem Mz{α:Type}{e:α->List SV}{l:List α}{n:Nat}{s t:SV}{r:List SV}{M:Mem}{v:Value}(h:(ref (s::t::slc n (l.map e)::r)).h M v):l.length<=9223372036854775807:=by
 obtain⟨b,o,_,h⟩:=h;obtain⟨y,_,_,h⟩:=h 2 _ Y;exact IA h
theorem HA{α β:Type}(a:List α)(b:List β)(i:Nat)(h:i<=a.length):(i<a.length/\i<b.length)\/(i<a.length/\b.length<=i)\/i=a.length:=by omega
class W2 (P:Program) (T:TypeId) (I:outParam TypeId):Prop where
 fs:(match P.underlying T with|some (.struct fs)=>(match fs.toList with|[f1,f2,f3,f4]=>(decide (f1.type=I)&&decide (f1.offset=0)&&decide (f1.name≠ "_"))&&(decide (f2.type=I)&&decide (f2.offset=1)&&decide (f2.name≠ "_"))&&(decide (f3.type=I)&&decide (f3.offset=2)&&decide (f3.name≠ "_"))&&(decide (f4.type=I)&&decide (f4.offset=3)&&decide (f4.name≠ "_"))|_=>false)|_=>false)=true
 hp:P.stoodInHeld T=false
 hI:P.underlying I=some (.int .i64)
 hg:P.eqGuardType P.depth T=false
theorem W2.ex{P:Program}{T I:TypeId}(h:W2 P T I):∃f1 f2 f3 f4:Field,P.underlying T=some (.struct #[f1,f2,f3,f4])/\(f1.type=I/\f1.offset=0/\f1.name≠ "_")/\(f2.type=I/\f2.offset=1/\f2.name≠ "_")/\(f3.type=I/\f3.offset=2/\f3.name≠ "_")/\(f4.type=I/\f4.offset=3/\f4.name≠ "_"):=by
 have h1:=h.fs;cases hu:P.underlying T with
 |none=>rw[hu]at h1;cases h1
 |some d=>
  rw[hu]at h1;cases d with
  |struct fs=>
   obtain⟨l⟩:=fs
   match l,h1 with
   |[f1,f2,f3,f4],h1=>
    simp only[Bool.and_eq_true,decide_eq_true_eq]at h1;obtain⟨⟨⟨⟨⟨a1,a2⟩,a3⟩,⟨⟨b1,b2⟩,b3⟩⟩,⟨⟨c1,c2⟩,c3⟩⟩,⟨⟨d1,d2⟩,d3⟩⟩:=h1;exact⟨f1,f2,f3,f4,Y,⟨a1,a2,a3⟩,⟨b1,b2,b3⟩,⟨c1,c2,c3⟩,⟨d1,d2,d3⟩⟩
  |_=>cases h1
theorem TU{P:Program}{T I:TypeId}[tI:pz P I][t4:W2 P T I](w:World)(a1 a2 a3 a4 b1 b2 b3 b4:Int):
  (binOp .neq T (.agg #[.int .i64 a1,.int .i64 a2,.int .i64 a3,.int .i64 a4]) (.agg #[.int .i64 b1,.int .i64 b2,.int .i64 b3,.int .i64 b4])).run P w=.ok (.bool (!(a1==b1&&(a2==b2&&(a3==b3&&a4==b4))))) w:=by
 obtain⟨f1,f2,f3,f4,hT,h1,h2,h3,h4⟩:=t4.ex;have hf:P.fieldsOf T=#[f1,f2,f3,f4]:=by simp[Program.fieldsOf,hT]
 rw[run_neq_struct,run_equalIn_struct w 9999 T _ _ (by rw[hf];exact hT) t4.hp,hf];have hpt:∀(xs:Array Value) (o:Nat) (v:Value),xs[o]? =some v->(part I xs o).run P w=.ok v w:=by
  intro xs o v h;simp[part,pz.isAgg,h]
 have step:∀(f:Field) (l:List Field) (o:Nat) (xs ys:Array Value) (a b:Int),(f.type=I/\f.offset=o/\f.name≠ "_")->xs[o]? =some (.int .i64 a)->ys[o]? =some (.int .i64 b)->
   ∀r,(Op.eqFields 9999 xs ys l).run P w=.ok r w->(Op.eqFields 9999 xs ys (f::l)).run P w=.ok (a==b&&r) w:=by
  intro f l o xs ys a b ⟨q1,q2,q3⟩ hx hy r hr;simp only[Op.eqFields,q1,q2,q3,ne_eq,not_false_eq_true,if_true,Sem.run_bind];rw[hpt _ o _ hx,Result.andThen_ok,hpt _ o _ hy,Result.andThen_ok,run_equalIn_int w _ I .i64 .i64 _ _ t4.hI,Result.andThen_ok];cases e:(a==b)
  ·simp
  simpa using hr
 have nil:∀(xs ys:Array Value),(Op.eqFields 9999 xs ys []).run P w=.ok true w:=λ_ _=>by simp[Op.eqFields]
 have:=step f1 [f2,f3,f4] 0 #[.int .i64 a1,.int .i64 a2,.int .i64 a3,.int .i64 a4] #[.int .i64 b1,.int .i64 b2,.int .i64 b3,.int .i64 b4] a1 b1 h1 Y Y _
  (step f2 [f3,f4] 1 _ _ a2 b2 h2 Y Y _ (step f3 [f4] 2 _ _ a3 b3 h3 Y Y _ (step f4 [] 3 _ _ a4 b4 h4 Y Y _ (nil _ _))))
 rw[this,Result.andThen_ok];simp
section steps
variable {P:Program}{C:Ctx}{ops:Array Oper}{S:AS}{nd:Bool}{K:List Ac->AS->Prop}{rest:List Oper}{acc:List Ac}
variable {gd:Option (Nat×Bool)}{rg:List Nat}{d:Nat}{ty:TypeId}{pos:String}{aft:Array Edge}{x y z:Operand}{T U E0:TypeId}
theorem W4{M:Mem}{v:Value}{a b c d:Int}(h:(SV.agg [.v (.int .i64 a),.v (.int .i64 b),.v (.int .i64 c),.v (.int .i64 d)]).h M v):v=.agg #[.int .i64 a,.int .i64 b,.int .i64 c,.int .i64 d]:=by
 obtain⟨vs,rfl,h⟩:=h
 match vs,h with
 |[_,_,_,_],⟨h1,h2,h3,h4,_⟩=>
  have e1:_=_:=h1;have e2:_=_:=h2;have e3:_=_:=h3;have e4:_=_:=h4;rw[e1,e2,e3,e4]
theorem RT.TU(hg:Gd ops S gd rg){I:TypeId}[tI:pz P I][t4:W2 P T I]{a1 a2 a3 a4 b1 b2 b3 b4:Int}{c:Bool}(hx:S.ev x=.sv (.agg [.v (.int .i64 a1),.v (.int .i64 a2),.v (.int .i64 a3),.v (.int .i64 a4)]))(hy:S.ev y=.sv (.agg [.v (.int .i64 b1),.v (.int .i64 b2),.v (.int .i64 b3),.v (.int .i64 b4)]))(hd:d<S.n)
  (hc:(!(a1==b1&&(a2==b2&&(a3==b3&&a4==b4))))=c)
  (next:RunT P C ops nd K rest (⟨rg++(bg x++bg y),[],[],⟨some (d,.sv (.v (.bool c))),[],[]⟩⟩::acc) (S.set d (.sv (.v (.bool c))))):RunT P C ops nd K (⟨some d,.binOp .neq T x y U,ty,pos,aft,gd⟩::rest) acc S:=
 RT.value hg (bg x++bg y) [] [] (.sv (.v (.bool c))) hd (by intro c h;cases h) (λS' ht _ _ E a w h=>by
  have h1:=h.ev x;rw[bA (λ_ h=>List.mem_append_left _ h) ht,hx]at h1;have h2:=h.ev y;rw[bA (λ_ h=>List.mem_append_right _ h) ht,hy]at h2;refine⟨.bool c,?_,Y,gw⟩;have e:=Fw.TU (P:=P) (T:=T) (I:=I) w a1 a2 a3 a4 b1 b2 b3 b4;rw[hc]at e;simp only[execOp,W4 h1,W4 h2,Sem.run_bind,run_eqGuard_agg w .neq T x y _ _ t4.hg,Result.andThen_ok,e];rfl) next
end steps
end
section
open Go.RowKit
def W5(olds:List Nat)(news:List (Nat×Row×Value)):List (Nat×mD):=olds.map (λj=>(j,.dead))++news.map (λn=>(n.1,.live n.2.1))
theorem HB{l:List (Nat×mD)}{j:Nat}{R:mD}(h:eD l j=some R):(j,R)∈l:=by
 induction l with
 |nil=>cases h
 |cons p l ih=>
  obtain⟨i,R'⟩:=p;rw[eD]at h;cases e:eD l j with
  |some R2=>rw[e]at h;cases h;exact List.mem_cons_of_mem _ (ih e)
  |none=>
   rw[e]at h;by_cases q:j=i
   ·subst q;simp at h;subst h;simp
   simp[q]at h
theorem MA{l:List (Nat×mD)}{j:Nat}{R:mD}(h:(j,R)∈l):∃R',eD l j=some R':=by
 induction l with
 |nil=>cases h
 |cons p l ih=>
  obtain⟨i,R'⟩:=p;rw[eD];rcases List.mem_cons.1 h with e|e
  ·cases e;cases q:eD l j with
   |some R2=>exact⟨R2,Y⟩
   |none=>exact⟨R,by simp⟩
  obtain⟨R2,h2⟩:=ih e;exact⟨R2,by rw[h2]⟩
section swap
variable {C:Ctx}{S:AS}
end swap
end
section
open Go.RowKit
inductive Oc where
 |s (x:SV)
 |r (R:Row)
def tL(M:Mem)(w:World):List Oc->List Value->Prop
 |[],[]=>True
 |.s x::l,v::vs=>x.h M v/\tL M w l vs
 |.r R::l,v::vs=>(∃us:List Value,w.ownsRow 0 R.E R.sz v R.n us/\SV.eK M R.cells us)/\tL M w l vs
 |_,_=>False
def rowsOf:List Oc->List Row
 |[]=>[]
 |.s _::l=>rowsOf l
 |.r R::l=>R::rowsOf l
def gC:List Oc->List Value->List (Row×Value)
 |.s _::l,_::vs=>gC l vs
 |.r R::l,v::vs=>(R,v)::gC l vs
 |_,_=>[]
def CC(c:List Oc)(us:List Value)(g:Nat):Prop:=∃p∈gC c us,p.2.ownBlock=some g
def nw:List Nat->List Oc->List AV
 |ids,.s x::l=>.sv x::nw ids l
 |i::ids,.r _::l=>.row i::nw ids l
 |[],.r _::l=>.sv .any::nw [] l
 |_,[]=>[]
def II(l:List (Row×Value)):Prop:=l.Pairwise λp q=>∀g,p.2.ownBlock=some g->q.2.ownBlock≠some g
structure RM (M:Mem) (w:World) (β:Nat) (T:TypeId) (c:List Oc) (us:List Value):Prop where
 hp:w.heap[β]? =some (.cells ⟨us⟩ T (0,0))
 al:tL M w c us
 nb:∀o,M β o=none
 nr:∀g,CC c us g->g≠β/\∀o,M g o=none
 ap:II (gC c us)
theorem oc{M:Mem}{w:World}:∀{c:List Oc} {us:List Value},tL M w c us->(gC c us).map (·.1)=rowsOf c
 |[],[],_=>rfl
 |.s _::l,_::vs,h=>oc (c:=l) (us:=vs) h.2
 |.r R::l,v::vs,h=>congrArg (R:: ·) (oc (c:=l) (us:=vs) h.2)
 |[],_::_,h=>h.elim
 |.s _::_,[],h=>h.elim
 |.r _::_,[],h=>h.elim
theorem uD{M:Mem}{w:World}:∀{c:List Oc} {us:List Value},tL M w c us->∀p∈gC c us,∃vs:List Value,w.ownsRow 0 p.1.E p.1.sz p.2 p.1.n vs/\SV.eK M p.1.cells vs
 |[],[],_,p,hp=>by cases hp
 |.s _::l,_::vs,h,p,hp=>uD (c:=l) (us:=vs) h.2 p hp
 |.r R::l,v::vs,h,p,hp=>by
  rcases List.mem_cons.1 hp with rfl|hp
  ·exact h.1
  exact uD (c:=l) (us:=vs) h.2 p hp
 |[],_::_,h,_,_=>h.elim
 |.s _::_,[],h,_,_=>h.elim
 |.r _::_,[],h,_,_=>h.elim
theorem DH{α β:Type}:∀{l:List α} {k:List β} {a:α} {b:β},(a,b)∈l.zip k->a∈l/\b∈k
 |_::_,_::_,_,_,h=>by
  rw[List.zip_cons_cons]at h;rcases List.mem_cons.1 h with e|e
  ·cases e;simp
  have:=DH e;exact⟨List.mem_cons_of_mem _ this.1,List.mem_cons_of_mem _ this.2⟩
 |[],_,_,_,h=>by simp at h
 |_::_,[],_,_,h=>by simp at h
def Lv(S:AS):List Nat->List Row->Prop
 |[],[]=>True
 |j::js,R::Rs=>S.r j=.live R/\Lv S js Rs
 |_,_=>False
theorem Lv.len{S:AS}:∀{js:List Nat} {Rs:List Row},Lv S js Rs->js.length=Rs.length
 |[],[],_=>rfl
 |_::_,_::_,h=>congrArg (· +1) (Lv.len h.2)
 |[],_::_,h=>h.elim
 |_::_,[],h=>h.elim
theorem Lv.mem{S:AS}:∀{js:List Nat} {Rs:List Row},Lv S js Rs->∀j∈js,∃R,S.r j=.live R
 |j::js,R::Rs,h,k,hk=>by
  rcases List.mem_cons.1 hk with rfl|hk
  ·exact⟨R,h.1⟩
  exact Lv.mem h.2 k hk
 |[],_,_,k,hk=>by cases hk
 |_::_,[],h,_,_=>h.elim
theorem Aw{C:Ctx}{S:AS}{E:Env}{a:Act}{w:World}(h:bk C S E a w):∀{js:List Nat} {c:List Oc} {us:List Value},Lv S js (rowsOf c)->dw E (nw js c) us->tL E.M w c us/\gC c us=(rowsOf c).zip (js.map E.ν)
 |[],[],[],_,_=>⟨aq,Y⟩
 |js,.s x::l,v::vs,hL,hv=>by
  have pE:dw E (AV.sv x::nw js l) (v::vs):=by cases js<;>exact hv
  obtain⟨h1,h2⟩:=Aw h (js:=js) (c:=l) (us:=vs) hL pE.2;exact⟨⟨pE.1,h1⟩,h2⟩
 |j::js,.r R::l,v::vs,hL,hv=>by
  have hL:S.r j=.live R/\Lv S js (rowsOf l):=hL;have pE:dw E (AV.row j::nw js l) (v::vs):=hv;obtain⟨h1,h2⟩:=Aw h (js:=js) (c:=l) (us:=vs) hL.2 pE.2;have e:v=E.ν j:=pE.1;obtain⟨q1,_⟩:=h.rx j R hL.1;rw[<-e]at q1;refine⟨⟨q1,h1⟩,?_⟩;rw[gC,h2,e];rfl
 |[],.r _::_,_,hL,_=>hL.elim
 |_::_,[],_,hL,_=>hL.elim
 |[],[],_::_,_,hv=>by simp[nw]at hv;exact hv.elim
 |js,.s x::l,[],_,hv=>by
  have pE:dw E (AV.sv x::nw js l) []:=by cases js<;>exact hv
  exact pE.elim
 |_::_,.r _::_,[],_,hv=>hv.elim
theorem yf{α β:Type}:∀{l:List α} {k:List β} {b:β},l.length=k.length->b∈k->∃a,(a,b)∈l.zip k
 |a::l,c::k,b,h,hb=>by
  rcases List.mem_cons.1 hb with rfl|hb
  ·exact⟨a,by rw[List.zip_cons_cons];simp⟩
  obtain⟨a',h'⟩:=yf (l:=l) (k:=k) (by simpa using h) hb;exact⟨a',by rw[List.zip_cons_cons];exact List.mem_cons_of_mem _ h'⟩
 |[],[],_,_,hb=>by cases hb
 |[],_::_,_,h,_=>by simp at h
theorem MB{C:Ctx}{S:AS}{E:Env}{a:Act}{w:World}(h:bk C S E a w){i:Nat}{T:TypeId}{js:List Nat}{c:List Oc}(hB:S.b i=some ⟨T,nw js c⟩)(hL:Lv S js (rowsOf c))(hn:js.Nodup):
  ∃us,RM E.M w (E.β i) T c us/\(∀g,CC c us g↔∃j∈js,(E.ν j).ownBlock=some g):=by
 obtain⟨_,q1,_,us,q2,q3⟩:=h.bx i _ hB;obtain⟨p1,p2⟩:=Aw h hL q3;have hlen:=hL.len;have GF:∀g,CC c us g↔∃j∈js,(E.ν j).ownBlock=some g:=λg=>by
  unfold CC;rw[p2];constructor
  ·rintro⟨⟨R,v⟩,hm,hg⟩;obtain⟨j,hj,rfl⟩:=List.mem_map.1 (DH hm).2;exact⟨j,hj,hg⟩
  rintro⟨j,hj,hg⟩;obtain⟨R,hR⟩:=yf (l:=rowsOf c) (k:=js.map E.ν) (by simp[hlen]) (List.mem_map.2 ⟨j,hj,Y⟩);exact⟨(R,E.ν j),hR,hg⟩
 refine⟨us,⟨q2,p1,q1,λg hg=>?_,?_⟩,GF⟩
 ·obtain⟨j,hj,GS⟩:=(GF g).1 hg;obtain⟨R,hR⟩:=hL.mem j hj;obtain⟨_,q4⟩:=h.rx j R hR;obtain⟨_,q5,_,q6⟩:=q4 g GS;exact⟨λe=>q6 i _ hB e.symm,q5⟩
 rw[p2];have key:∀(js:List Nat) (Rs:List Row),Lv S js Rs->js.Nodup->II (Rs.zip (js.map E.ν)):=by
  intro js
  induction js with
  |nil=>intro Rs hL _;cases Rs with|nil=>exact List.Pairwise.nil|cons _ _=>exact hL.elim
  |cons j js ih=>
   intro Rs hL hn;cases Rs with
   |nil=>exact hL.elim
   |cons R Rs=>
    rw[List.nodup_cons]at hn;rw[List.map_cons,List.zip_cons_cons];refine List.pairwise_cons.2 ⟨λp hp g e1 e2=>?_,ih Rs hL.2 hn.2⟩;obtain⟨R',v'⟩:=p;obtain⟨j',hj',rfl⟩:=List.mem_map.1 (DH hp).2;obtain⟨R2,hR2⟩:=hL.2.mem j' hj';have:=h.fX j j' R R2 hL.1 hR2 g e1 e2;subst this;exact hn.1 hj'
 exact key js _ hL hn
end
section
open Go.RowKit
def Un(S:AS):List Nat->Prop
 |[]=>True
 |k::ks=>(S.r k=.un/\k<1000)/\Un S ks
theorem Un.congr{S S':AS}:∀{ks:List Nat},(∀k∈ks,S'.r k=S.r k)->Un S ks->Un S' ks
 |[],_,_=>trivial
 |k::ks,h,hu=>⟨by rw[h k (by simp)];exact hu.1,Un.congr (λj hj=>h j (List.mem_cons_of_mem _ hj)) hu.2⟩
def Kf(js ks:List Nat)(c:List Oc):List (Nat×mD):=js.map (λj=>(j,mD.dead))++(ks.zip (rowsOf c)).map (λp=>(p.1,.live p.2))
theorem FF:∀(ks:List Nat) (l:List (Row×Value)),(ks.zip l).map (λn=>(n.1,mD.live n.2.1))=(ks.zip (l.map (·.1))).map (λp=>(p.1,.live p.2))
 |[],_=>rfl
 |_::_,[]=>rfl
 |k::ks,p::l=>by rw[List.map_cons,List.zip_cons_cons,List.zip_cons_cons,List.map_cons,List.map_cons,FF ks l]
theorem MC{M:Mem}{w:World}{c:List Oc}{us:List Value}(h:tL M w c us)(js ks:List Nat):W5 js (ks.zip (gC c us))=Kf js ks c:=by
 unfold W5 Kf;rw[FF,oc h]
section steps
variable {P:Program}{C:Ctx}{ops:Array Oper}{S:AS}{nd:Bool}{K:List Ac->AS->Prop}{rest:List Oper}{acc:List Ac}
variable {gd:Option (Nat×Bool)}{rg:List Nat}{d:Nat}{ty:TypeId}{pos:String}{aft:Array Edge}{x y z:Operand}{T U E0:TypeId}
def Fc.av:Fc->AV
 |.val s=>.sv s
 |.box i=>.ptr i 0
 |.row i=>.row i
theorem MD{w:World}{M:Mem}{S':AS}{E:Env}{a:Act}{w':World}{k:Nat}{ks:List Nat}{c:List Oc}(hB:S'.b k=some ⟨T,nw ks c⟩)(hL:Lv S' ks (rowsOf c))(hk:ks.Nodup)(hh:bk (JK w M) S' E a w'):
  ∃us,M.le E.M/\(∀b o x,E.M b o=some x->M b o=some x\/w.heap.size<=b)/\E.M.dM w'/\RM E.M w' (E.β k) T c us/\w.heap.size<=E.β k/\(∀g,CC c us g->w.heap.size<=g)/\Below w.heap.size w w':=by
 obtain⟨us,ho,Ld⟩:=MB hh hB hL hk;refine⟨us,hh.m0,λb o x e=>?_,hh.dM,ho,(hh.bx k _ hB).1.elim id (λh=>h.elim),λg hg=>?_,hh.os,hh.tape,hh.output,hh.grown,λk hk=>hh.frame k hk (λh=>h)⟩
 ·rcases hh.fE b o x e with h|h|h
  ·exact .inl h
  ·exact .inr h
  exact h.elim
 obtain⟨j,hj,GS⟩:=(Ld g).1 hg;obtain⟨R,hR⟩:=hL.mem j hj;exact((hh.rx j R hR).2 g GS).1.elim id (λh=>h.elim)
theorem bk.IJ{a:Act}{w:World}:∀(ks:List Nat) (l:List (Row×Value)) {S:AS} {E:Env},bk C S E a w->ks.length=l.length->ks.Nodup->Un S ks->(∀p∈l,∃vs:List Value,w.ownsRow 0 p.1.E p.1.sz p.2 p.1.n vs/\SV.eK E.M p.1.cells vs)->II l->(∀p∈l,∀g,p.2.ownBlock=some g->K1 C S E g)->
  ∃E':Env,E'.M=E.M/\E'.β=E.β/\E'.O=E.O/\(∀i p,(i,p)∈ks.zip l->E'.ν i=p.2)/\(∀i,i∉ks->E'.ν i=E.ν i)/\bk C (AS.cg ((ks.zip l).map (λn=>(n.1,.live n.2.1))) S) E' a w
 |[],[],S,E,h,_,_,_,_,_,_=>⟨E,Y,Y,Y,λi p hm=>(by simp at hm),λ_ _=>Y,h⟩
 |k::ks,p::l,S,E,h,hl,hn,hu,ho,ha,hf=>by
  obtain⟨R,v⟩:=p;rw[List.nodup_cons]at hn;obtain⟨ha1,ha2⟩:=List.pairwise_cons.1 ha;obtain⟨vs,ho1,ho2⟩:=ho (R,v) (by simp);have h1:=h.C3 hu.1.1 hu.1.2 [] none (.inl ⟨Y,Y⟩) (R':=R) ho1 ho2 (λg hg=>.inr (hf (R,v) (by simp) g hg)) (pI w none);have hu':Un (AS.cg ([]++[(k,.live R)]) S) ks:=hu.2.congr (λj hj=>by
   show(AS.pq S k _).r j=_;exact AS.jI _ _ _ _ (λe=>hn.1 (e▸hj)))
  obtain⟨E',q1,q2,q3,q4,q5,q6⟩:=bk.IJ ks l h1 (by simpa using hl) hn.2 hu' (λp hp=>ho p (List.mem_cons_of_mem _ hp)) ha2 (λp hp g hg=>by
   obtain⟨f1,f2,f3,f4,f5⟩:=hf p (List.mem_cons_of_mem _ hp) g hg;refine⟨f1,f2,f3,f4,λj R' wD e=>?_⟩;have wD:(AS.pq S k (.live R)).r j=.live R':=wD;by_cases ej:j=k
   ·subst ej;have e:(if j=j then v else E.ν j).ownBlock=some g:=e;rw[if_pos rfl]at e;exact ha1 p hp g e hg
   rw[AS.jI _ _ _ _ ej]at wD;have e:(if j=k then v else E.ν j).ownBlock=some g:=e;rw[if_neg ej]at e;exact f5 j R' wD e)
  refine⟨E',q1,q2,q3,λi p hm=>?_,λi hi=>?_,q6⟩
  ·rw[List.zip_cons_cons]at hm;rcases List.mem_cons.1 hm with e|e
   ·cases e;rw[q5 k hn.1];show(if k=k then v else E.ν k)=v;rw[if_pos rfl]
   exact q4 i p e
  rw[q5 i (λhm=>hi (List.mem_cons_of_mem _ hm))];show(if i=k then v else E.ν i)=E.ν i;rw[if_neg (λe=>hi (by rw[e];simp))]
 |[],_::_,_,_,_,hl,_,_,_,_,_=>by simp at hl
 |_::_,[],_,_,_,hl,_,_,_,_,_=>by simp at hl
theorem yg{α β:Type}:∀{l:List α} {k:List β} {a:α},l.length=k.length->a∈l->∃b,(a,b)∈l.zip k
 |a::l,c::k,b,h,hb=>by
  rcases List.mem_cons.1 hb with rfl|hb
  ·exact⟨c,by rw[List.zip_cons_cons];simp⟩
  obtain⟨a',h'⟩:=yg (l:=l) (k:=k) (by simpa using h) hb;exact⟨a',by rw[List.zip_cons_cons];exact List.mem_cons_of_mem _ h'⟩
 |[],_,_,_,hb=>by cases hb
 |_::_,[],_,h,_=>by simp at h
end steps
end
section
open Go.RowKit
def yL:List Nat->List Oc->List Fc
 |ids,.s x::l=>.val x::yL ids l
 |i::ids,.r _::l=>.row i::yL ids l
 |[],.r _::l=>.val .any::yL [] l
 |_,[]=>[]
theorem Ax{E:Env}{w:World}:∀{ids:List Nat} {c:List Oc} {us:List Value},ids.length=(rowsOf c).length->tL E.M w c us->(∀i p,(i,p)∈ids.zip (gC c us)->E.ν i=p.2)->CS E (yL ids c) us
 |ids,[],[],_,_,_=>by cases ids<;>exact trivial
 |ids,.s x::l,v::vs,hl,h,hv=>by
  have ih:=Ax (E:=E) (w:=w) (ids:=ids) (c:=l) (us:=vs) hl h.2 hv;cases ids<;>exact⟨h.1,ih⟩
 |i::ids,.r R::l,v::vs,hl,h,hv=>by
  refine⟨(hv i (R,v) (by rw[gC,List.zip_cons_cons];simp)).symm,Ax (w:=w) (ids:=ids) (c:=l) (us:=vs) (by simpa[rowsOf]using hl) h.2 (λj p hm=>hv j p ?_)⟩;rw[gC,List.zip_cons_cons];exact List.mem_cons_of_mem _ hm
 |[],.r R::l,_::_,hl,_,_=>by simp[rowsOf]at hl
 |_,[],_::_,_,h,_=>h.elim
 |_,.s _::_,[],_,h,_=>h.elim
 |_,.r _::_,[],_,h,_=>h.elim
theorem Ay:∀{ids:List Nat} {c:List Oc},(∀j,¬Fc.box j∈yL ids c)/\∀j,Fc.row j∈yL ids c->j∈ids
 |ids,[]=>by cases ids<;>simp[yL]
 |ids,.s y::l=>by
  have ih:=Ay (ids:=ids) (c:=l);have e:yL ids (.s y::l)=.val y::yL ids l:=by cases ids<;>rfl
  rw[e];exact⟨λj h=>by rcases List.mem_cons.1 h with h|h;cases h;exact ih.1 j h,λj h=>by rcases List.mem_cons.1 h with h|h;cases h;exact ih.2 j h⟩
 |i::ids,.r R::l=>by
  have ih:=Ay (ids:=ids) (c:=l);exact⟨λj h=>by rcases List.mem_cons.1 h with h|h;cases h;exact ih.1 j h,λj h=>by
   rcases List.mem_cons.1 h with h|h
   ·cases h;simp
   exact List.mem_cons_of_mem _ (ih.2 j h)⟩
 |[],.r R::l=>by
  have ih:=Ay (ids:=[]) (c:=l);exact⟨λj h=>by rcases List.mem_cons.1 h with h|h;cases h;exact ih.1 j h,λj h=>by rcases List.mem_cons.1 h with h|h;cases h;exact ih.2 j h⟩
theorem w7{M:Mem}{w:World}:∀{c:List Oc} {us:List Value},tL M w c us->us.length=c.length
 |[],[],_=>rfl
 |.s _::l,_::vs,h=>congrArg (· +1) (w7 (c:=l) (us:=vs) h.2)
 |.r _::l,_::vs,h=>congrArg (· +1) (w7 (c:=l) (us:=vs) h.2)
 |[],_::_,h=>h.elim
 |.s _::_,[],h=>h.elim
 |.r _::_,[],h=>h.elim
section
variable {P:Program}
def TV(P:Program)(f:FuncId)(args:List SV)(c:List Oc):Prop:=
 ∀(M:Mem) (w:World) (vs:List Value),M.dM w->SV.eK M args vs->
  Calls P f ⟨vs⟩ w λe w'=>∃us M',e=.returned (.agg ⟨us⟩)/\M.le M'/\(∀b o x,M' b o=some x->M b o=some x\/w.heap.size<=b)/\M'.dM w'/\tL M' w' c us/\
   (∀g,CC c us g->w.heap.size<=g/\∀o,M' g o=none)/\II (gC c us)/\Below w.heap.size w w'
theorem HC{f:FuncId}{fn:Func}{code:Code}{args:List SV}{c:List Oc}{t n:Nat}{T:TypeId}[tA:wz P T n](hf:P.funcs[f]? =some fn)(hb:fn.body=some code)(hn:args.length<=fn.ntmps)(hres:fn.results=#[.cell t T])(tX:c.length=n)
  (h:∀(w:World) (M:Mem) (vs:List Value),SV.eK M args vs->Ok P (JK w M) code (AS.init fn.ntmps args) (λe S=>(e=.normal\/e=.ret)/\∃(k:Nat) (ks:List Nat),S.t t=.ptr k 0/\S.b k=some ⟨T,nw ks c⟩/\Lv S ks (rowsOf c)/\ks.Nodup)):TV P f args c:=by
 intro M w vs hM hvs;refine jR Y hf hb (ni hM hvs hn) (h w M vs hvs) ?_;rintro S' E a w' ⟨k,ks,TW,hB,hL,hk⟩ hh;have h1:=hh.tm t;rw[TW]at h1;have h1:a.tmps.getD t undef=.pointer (some ⟨E.β k,0,none⟩):=h1;obtain⟨us,q1,q2,q3,q4,q5,q6,q7⟩:=MD hB hL hk hh;refine⟨.agg ⟨us⟩,?_,us,E.M,Y,q1,q2,q3,q4.al,λg hg=>⟨q6 g hg,(q4.nr g hg).2⟩,q4.ap,q7⟩;have hl:=w7 q4.al;have hld:=nS (P:=P) (T:=T) (n:=n) (w:=w') (b:=E.β k) (o:=0) (vs:=us) (by omega) (λj v e=>by simp[World.cell?,q4.hp];simpa using e);rw[Array.getD_eq_getD_getElem?]at h1;simp[results,hres,h1,asAddr,hld]
end
section
variable {P:Program}{C:Ctx}{ops:Array Oper}{S:AS}{nd:Bool}{K:List Ac->AS->Prop}{rest:List Oper}{acc:List Ac}
variable {gd:Option (Nat×Bool)}{rg:List Nat}{d:Nat}{ty:TypeId}{pos:String}{aft:Array Edge}{x y z:Operand}{T U E0:TypeId}
theorem RT.TX(hg:Gd ops S gd rg){f:FuncId}[cZ P f]{g:Operand}{xs:Array Operand}{at_:Array TypeId}{args:List SV}{c:List Oc}(hp:TV P f args c)(ks:List Nat)(hks:ks.Nodup)(It:ks.length=(rowsOf c).length)(hku:Un S ks)(hf:S.ev g=.sv (.v (.func (.func f) #[] #[])))(hargs:jQ S xs.toList args)(hd:d<S.n)
  (next:RunT P C ops nd K rest (⟨rg++(bg g++xs.toList.flatMap bg),[],ks,⟨some (d,.cmp .agg (yL ks c)),[],Kf [] ks c⟩⟩::acc) ((AS.cg (Kf [] ks c) S).set d (.cmp .agg (yL ks c)))):RunT P C ops nd K (⟨some d,.call ⟨.value g,xs,at_⟩,ty,pos,aft,gd⟩::rest) acc S:=by
 refine .inl ⟨_,[],ks,_,?_,next⟩;rintro S' hn ht hb hr i a w L Q ho ⟨E,h⟩ hL;refine cM (C:=C) ho (hg.wanted h (λs hs=>ht s (List.mem_append_left _ hs)) Y) ?_;have GO:a.eval g=.func (.func f) #[] ⟨[]⟩:=by
  have h1:=h.ev g;rw[bA (λ_ h=>List.mem_append_right _ (List.mem_append_left _ h)) ht,hf]at h1;exact h1
 have hall:=jQ.vals h hargs (λs hs=>ht s (List.mem_append_right _ (List.mem_append_right _ hs)));refine cO (C:=C) (by intro c h;cases h) (qL GO) ?_;rw[List.append_nil];refine⟨λh=>by simp at h,nf ((hp E.M w _ h.dM hall).mono ?_)⟩;rintro e w' ⟨us,M',rfl,hM,hnew,hin,YD,hgb,hap,Z3⟩;have hrv:(gC c us).length=(rowsOf c).length:=by rw[<-oc YD,List.length_map]
 obtain⟨E1,q1,q2,q3,q4,q5,h1⟩:=bk.IJ ks (gC c us) (h.grow hM hnew hin Z3) (by omega) hks (hku.congr hr) (uD YD) hap (λp hp g GB=>h.C8 (hgb g ⟨p,hp,GB⟩).1 (hgb g ⟨p,hp,GB⟩).2);have hS1:AS.cg ((ks.zip (gC c us)).map (λn=>(n.1,.live n.2.1))) S'=AS.cg (Kf [] ks c) S':=by rw[<-MC YD [] ks];rfl
 rw[hS1]at h1;refine hL _ _ ⟨_,h1.put (x:=.cmp .agg (yL ks c)) (v:=.agg ⟨us⟩) ⟨us,Y,Ax (w:=w') It (by rw[q1];exact YD) q4⟩ ?_ ⟨λj e=>(Ay.1 j e).elim,λj e=>?_⟩⟩
 ·rw[(iI _ _).1];show d<S'.n;omega
 have hj:=Ay.2 j e;obtain⟨R,hm⟩:=yg (l:=ks) (k:=rowsOf c) It hj;obtain⟨R',wD⟩:=MA (l:=Kf [] ks c) (j:=j) (R:=.live R) (List.mem_map.2 ⟨(j,R),hm,Y⟩);rw[mH,wD];obtain⟨x,hx,e⟩:=List.mem_map.1 (show(j,R')∈(ks.zip (rowsOf c)).map (λp=>(p.1,mD.live p.2))from HB wD);rw[<-show mD.live x.2=R' from congrArg Prod.snd e];simp
def HD(S:AS):List Fc->Prop
 |[]=>True
 |.val s::l=>(∀M v,s.h M v->v.oneCell'=true)/\HD S l
 |.row i::l=>(∃R,S.r i=.live R)/\HD S l
 |.box _::l=>HD S l
def oB:List Fc->List Nat
 |[]=>[]
 |.row i::l=>i::oB l
 |.val _::l=>oB l
 |.box _::l=>oB l
theorem vv{S':AS}{E:Env}{a:Act}{w:World}(h:bk C S' E a w):∀{js:List Fc} {us:List Value},HD S js->(∀i∈oB js,S'.r i=S.r i)->CS E js us->dw E (js.map Fc.av) us/\∀u∈us,u.oneCell'=true
 |[],[],_,_,_=>⟨aq,by simp⟩
 |.val s::l,u::us,ho,hr,ha=>by
  obtain⟨i1,i2⟩:=vv h (js:=l) (us:=us) ho.2 hr ha.2;exact⟨⟨ha.1,i1⟩,λv hv=>by rcases List.mem_cons.1 hv with rfl|hv;exact ho.1 _ _ ha.1;exact i2 v hv⟩
 |.row i::l,u::us,ho,hr,ha=>by
  obtain⟨i1,i2⟩:=vv h (js:=l) (us:=us) ho.2 (λj hj=>hr j (List.mem_cons_of_mem _ hj)) ha.2;obtain⟨R,hR⟩:=ho.1;obtain⟨⟨ws,hw,_⟩,_⟩:=h.rx i R (by rw[hr i (by simp[oB])];exact hR);have hu:u=E.ν i:=ha.1;refine⟨⟨hu,i1⟩,λv hv=>?_⟩;rcases List.mem_cons.1 hv with rfl|hv
  ·rw[hu];rcases hw.2 with⟨h3,_⟩|⟨g,cap,cur,h3,_⟩<;>rw[h3]<;>rfl
  exact i2 v hv
 |.box i::l,u::us,ho,hr,ha=>by
  obtain⟨i1,i2⟩:=vv h (js:=l) (us:=us) ho hr ha.2;have hu:u=.pointer (some ⟨E.β i,0,none⟩):=ha.1;exact⟨⟨hu,i1⟩,λv hv=>by rcases List.mem_cons.1 hv with rfl|hv;rw[hu];rfl;exact i2 v hv⟩
 |[],_::_,_,_,ha=>ha.elim
 |_::_,[],_,_,ha=>ha.elim
theorem RT.ME(hg:Gd ops S gd rg){n:Nat}[tA:wz P T n]{j:Nat}{B:nM}{js:List Fc}(hx:S.ev x=.ptr j 0)(hB:S.b j=some B)(hy:S.ev y=.cmp .agg js)(hok:HD S js)(tX:js.length=n)(hn:B.cells.length=n)(rr:List Nat)(JJ:oB js=rr)(cells:List AV)(hc:js.map Fc.av=cells)
  (next:RunT P C ops nd K rest (⟨rg++(bg x++bg y),[j],rr,⟨none,[(j,⟨B.T,cells⟩)],[]⟩⟩::acc) (S.kP j ⟨B.T,cells⟩)):RunT P C ops nd K (⟨none,.store T x y,ty,pos,aft,gd⟩::rest) acc S:=by
 subst hc;refine RT.C0 hg rr hx hB (cs:=js.map Fc.av) ?_ (λw=>tA.size w) (by simp[tX]) (by omega) (cells:=js.map Fc.av) (wB (js.map Fc.av) [] B.cells (by simp;omega)) next
 intro S' E a w h e hr;have h2:=h.ev y;rw[e,hy]at h2;obtain⟨us,hu,hall⟩:=h2;have hu:a.eval y=.agg ⟨us⟩:=hu;obtain⟨k1,k2⟩:=vv h hok (by rw[JJ];exact hr) hall;refine⟨us,by rw[hu];rfl,k1,k2,λz hz=>?_⟩;obtain⟨l1,l2⟩:=lA h.wf (e.trans hy);obtain⟨q,hq,rfl⟩:=List.mem_map.1 hz;cases q with
 |val s=>exact gw
 |box k=>exact⟨λi e=>l1 i (by have e:i=k:=e;subst e;exact hq),λi e=>e.elim⟩
 |row k=>exact⟨λi e=>e.elim,λi e=>l2 i (by have e:i=k:=e;subst e;exact hq)⟩
inductive uE (S:AS):List (Nat×Operand)->List (Nat×Fc)->Prop
 |nil:uE S [] []
 |one {i:Nat} {x:Operand} {s:SV} {ps:List (Nat×Operand)} {qs:List (Nat×Fc)} [o:One s] (h:S.ev x=.sv s) (t:uE S ps qs):uE S ((i,x)::ps) ((i,.val s)::qs)
 |row {i j:Nat} {x:Operand} {R:Row} {ps:List (Nat×Operand)} {qs:List (Nat×Fc)} (h:S.ev x=.row j) (hR:S.r j=.live R) (t:uE S ps qs):uE S ((i,x)::ps) ((i,.row j)::qs)
def YE(E:Env):Fc->SV
 |.val s=>s
 |.row j=>.v (E.ν j)
 |.box _=>.any
def AV.oU(E:Env):AV->AV
 |.row i=>.sv (.v (E.ν i))
 |x=>x
def AS.oU(S:AS)(E:Env):AS:={S with t:=λs=>(S.t s).oU E}
theorem w8{E:Env}(x:AV):(∀v,x.holds E v->(x.oU E).holds E v)/\(∀j,(x.oU E).mb j->x.mb j)/\∀j,(x.oU E).mr j->x.mr j:=by
 cases x with
 |row i=>exact⟨λv hv=>hv,λj hj=>False.elim hj,λj hj=>False.elim hj⟩
 |_=>exact⟨λv hv=>hv,λj hj=>hj,λj hj=>hj⟩
theorem bk.oU{E:Env}{a:Act}{w:World}(h:bk C S E a w):bk C (S.oU E) E a w:={h with
  wf:=⟨λs j hj=>h.wf.tb s j ((w8 (S.t s)).2.1 j hj),λs j hj=>h.wf.tr s j ((w8 (S.t s)).2.2 j hj),h.wf.bb,h.wf.br⟩
  tm:=λs=>(w8 (S.t s)).1 _ (h.tm s)}
theorem MF{E:Env}{s:SV}(h:S.ev x=.sv s):(S.oU E).ev x=.sv s:=by
 cases x with
 |tmp t=>
  have h:S.t t=.sv s:=h;show(S.t t).oU E=_;rw[h];rfl
 |_=>exact h
theorem Kg{E:Env}{j:Nat}(h:S.ev x=.row j):(S.oU E).ev x=.sv (.v (E.ν j)):=by
 cases x with
 |tmp t=>
  have h:S.t t=.row j:=h;show(S.t t).oU E=_;rw[h];rfl
 |_=>cases h
theorem DI{S':AS}{E:Env}{a:Act}{w:World}(h:bk C S' E a w){ps:List (Nat×Operand)}{qs:List (Nat×Fc)}(hp:uE S ps qs)(ht:∀s∈gK ps,S'.t s=S.t s)(hr:∀q∈qs,∀j,q.2=.row j->S'.r j=S.r j):kX (S'.oU E) ps (qs.map λq=>(q.1,[YE E q.2])):=by
 induction hp with
 |nil=>exact .nil
 | @one i x s ps qs o hx _ ih=>
  have hx':S'.ev x=.sv s:=by rw[bA (rs:=gK ((i,x)::ps)) (λs hs=>by simp only[gK,List.flatMap_cons];exact List.mem_append_left _ hs) ht];exact hx
  exact kX.one (s:=s) (MF hx') (ih (λs hs=>ht s (by simp only[gK,List.flatMap_cons];exact List.mem_append_right _ hs)) (λq hq=>hr q (List.mem_cons_of_mem _ hq)))
 | @row i j x R ps qs hx hR _ ih=>
  have hx':S'.ev x=.row j:=by rw[bA (rs:=gK ((i,x)::ps)) (λs hs=>by simp only[gK,List.flatMap_cons];exact List.mem_append_left _ hs) ht];exact hx
  obtain⟨⟨ws,hw,_⟩,_⟩:=h.rx j R (by rw[hr (i,.row j) (by simp) j rfl];exact hR);have o:One (.v (E.ν j)):=⟨λM v hv=>by
   have hv:v=E.ν j:=hv;rw[hv];rcases hw.2 with⟨h3,_⟩|⟨g,cap,cur,h3,_⟩<;>rw[h3]<;>rfl⟩
  exact kX.one (s:=.v (E.ν j)) (Kg hx') (ih (λs hs=>ht s (by simp only[gK,List.flatMap_cons];exact List.mem_append_right _ hs)) (λq hq=>hr q (List.mem_cons_of_mem _ hq)))
theorem DJ{E:Env}:∀{js:List Fc} {us:List Value},(∀j,Fc.box j∉js)->SV.eK E.M (js.map (YE E)) us->CS E js us
 |[],[],_,_=>trivial
 |.val s::l,u::us,hb,h=>⟨h.1,DJ (λj hj=>hb j (List.mem_cons_of_mem _ hj)) h.2⟩
 |.row i::l,u::us,hb,h=>⟨h.1,DJ (λj hj=>hb j (List.mem_cons_of_mem _ hj)) h.2⟩
 |.box i::l,_,hb,_=>(hb i (by simp)).elim
 |[],_::_,_,h=>h.elim
 |.val _::_,[],_,h=>h.elim
 |.row _::_,[],_,h=>h.elim
def IK:List Fc->Bool
 |[]=>true
 |.box _::_=>false
 |.val _::l=>IK l
 |.row _::l=>IK l
theorem y7:∀{js:List Fc},IK js=true->∀j,Fc.box j∉js
 |[],_,j,h=>by cases h
 |.box _::_,h,_,_=>by cases h
 |.val _::l,h,j,hj=>by rcases List.mem_cons.1 hj with e|e;cases e;exact y7 (js:=l) h j e
 |.row _::l,h,j,hj=>by rcases List.mem_cons.1 hj with e|e;cases e;exact y7 (js:=l) h j e
theorem rT:∀{js:List Fc} {j:Nat},Fc.row j∈js->j∈oB js
 |.box _::l,j,h=>by rcases List.mem_cons.1 h with e|e;cases e;exact rT (js:=l) e
 |.val _::l,j,h=>by rcases List.mem_cons.1 h with e|e;cases e;exact rT (js:=l) e
 |.row i::l,j,h=>by
  rcases List.mem_cons.1 h with e|e
  ·cases e;simp[oB]
  exact List.mem_cons_of_mem _ (rT (js:=l) e)
theorem sF:∀{js:List Fc} {j:Nat},HD S js->Fc.row j∈js->∃R,S.r j=.live R
 |.box _::l,j,ho,h=>by rcases List.mem_cons.1 h with e|e;cases e;exact sF (js:=l) ho e
 |.val _::l,j,ho,h=>by rcases List.mem_cons.1 h with e|e;cases e;exact sF (js:=l) ho.2 e
 |.row i::l,j,ho,h=>by
  rcases List.mem_cons.1 h with e|e
  ·cases e;exact ho.1
  exact sF (js:=l) ho.2 e
theorem RT.TY(hg:Gd ops S gd rg){pl:List (Nat×Nat)}{zc:List Value}[tP:iq P T pl zc]{parts:Array (Nat×Operand)}{qs:List (Nat×Fc)}(hp:uE S parts.toList qs)(js:List Fc)(hf:∀E:Env,qJ (λi=>pl[i]?) (zc.map SV.v) (qs.map λq=>(q.1,[YE E q.2]))=some (js.map (YE E)))(hnb:IK js=true)(hok:HD S js)(rr:List Nat)(JJ:oB js=rr)(W6:oB (qs.map (·.2))=rr)(hd:d<S.n)
  (next:RunT P C ops nd K rest (⟨rg++gK parts.toList,[],rr,⟨some (d,.cmp .agg js),[],[]⟩⟩::acc) (S.set d (.cmp .agg js))):RunT P C ops nd K (⟨some d,.build T parts,ty,pos,aft,gd⟩::rest) acc S:=
 RT.value hg (gK parts.toList) [] rr (.cmp .agg js) hd (by intro c h;cases h) (λS' ht _ hr E a w h=>by
  have hu:=tP.h;cases hT:P.underlying T with
  |none=>rw[hT]at hu;cases hu
  |some u=>
   rw[hT]at hu;cases u with
   |struct fs=>
    simp only at hu;have hz:(zeroValue T).run P w=.ok (.agg ⟨zc⟩) w:=gJ.run (t:=⟨tP.hz⟩) w;have TZ:=DI h hp ht (λq hq j e=>hr j (by rw[<-W6];exact rT (List.mem_map.2 ⟨q,hq,e⟩)));obtain⟨us,h1,h2,_⟩:=uT h.oU (λi=>pl[i]?) TZ (λs _=>rfl) (cells:=zc.map SV.v) (vs:=zc) (by
     have:∀l:List Value,SV.eK E.M (l.map SV.v) l:=by
      intro l;induction l with
      |nil=>trivial
      |cons v l ih=>exact⟨Y,ih⟩
     exact this zc) (List.all_eq_true.1 tP.o) (hf E)
    refine⟨.agg ⟨us⟩,?_,⟨us,Y,DJ (y7 hnb) h2⟩,λj e=>(y7 hnb j e).elim,λj e=>?_⟩
    ·have hm:(fs.mapM (λf=>do pure (f.offset,<-sizeOf f.type):Field->Sem (Nat×Nat))).run P w=.ok pl.toArray w:=by
      have:=nV (P:=P) (w:=w) hu;rw[<-Array.toArray_toList (xs:=fs),List.mapM_toArray];rw[Sem.run_map,this];rfl
     have h1':Instr.fill (λi=>pl.toArray[i]?) ⟨zc⟩ (parts.toList.map λp=>(p.1,a.eval p.2))=some ⟨us⟩:=by simpa using h1
     simp only[execOp,Instr.build,underlying];simp only[Sem.run_bind,hz,Result.andThen_ok,run_program,hT,Sem.run_pure,Value.cells];have hm':(Array.mapM (λf=>do
       let __do_lift<-sizeOf f.type
       pure (f.offset,__do_lift)) fs:Sem _).run P w=.ok pl.toArray w:=hm
     simp only[hm',Result.andThen_ok];have e4:(Array.map (λx=>match x with|(i,x)=>(i,a.eval x)) parts).toList=parts.toList.map λp=>(p.1,a.eval p.2):=by simp
     simp only[e4,h1',Sem.run_pure,Result.andThen_ok]
    obtain⟨R,hR⟩:=sF hok e;rw[hr j (by rw[<-JJ];exact rT e),hR];simp
   |_=>cases hu) next
end
end
end Go.Fw
namespace Go.Proofs.YtfoldppidpmchaaGreat
section
open Go.Fw
noncomputable def ic(x0:Lr):Option (Sz):=match x0 with|⟨bt,bp,bD,bG⟩=>(some (bp.length:Int)).bind λx7=>(some (bD.length:Int)).bind λdK=>(some (bG.length:Int)).bind λjz=>some ⟨bt,x7,dK,jz⟩
noncomputable def ja(x0:Lr):Option (Bool):=match x0 with|⟨bt,bp,bD,bG⟩=>(ic ⟨bt,bp,bD,bG⟩).bind λ⟨BQ,Fv,BR,DD⟩=>cm (λ(MG:Bool)=>(bif MG then some false else cm (λ(HE:Bool)=>(bif HE then some false else cm (λ(RN:Bool)=>some RN) λK16=>(lq bp).bind λuO=>(some (decide ((uO:Int)<=BQ))).bind λqD=>(bif qD then(lq bD).bind λCp=>(some (decide ((Cp:Int)<=BQ))).bind λqV=>some qV else some false).bind λMH=>K16 MH)) λLK=>(some (decide ((128:Int)<BR))).bind λmG=>(bif mG then some true else(some (decide ((DD:Int)≠BR))).bind λir=>some ir).bind λMI=>LK MI)) λYF=>(some (decide ((BQ:Int)<0))).bind λx8=>(bif x8 then some true else(some (decide ((64:Int)<BQ))).bind λdg=>some dg).bind λMJ=>(bif MJ then some true else(some (decide ((Fv:Int)<1))).bind λfz=>some fz).bind λT0=>(bif T0 then some true else(some (decide ((4:Int)<Fv))).bind λiB=>some iB).bind λT1=>YF T1
noncomputable def cK(x0:Lr)(x1:List Qr):Option (Bool):=match x0 with|⟨bt,bp,bD,bG⟩=>cm (λ(MK:Bool)=>(bif MK then some false else(some (x1.length:Int)).bind λfZ=>(b8 (λ(IL:Int)=>(show Option ((Int)⊕((Unit)⊕(Bool)))from(some (decide ((IL:Int)<fZ))).bind λiC=>(bif iC then(cY x1 IL).bind λ⟨⟨xV,xW⟩,⟨xX,xY⟩⟩=>(iX ⟨⟨xV,xW⟩,⟨xX,xY⟩⟩).bind λgx=>(some (decide ((gx:Int)<0))).bind λmm=>(bif mm then some (.inr (.inr false))else(some (IntKind.i64.wrap (IL+1))).bind λiM=>some (.inl iM))else some (.inr (.inl ()))))) 0).bind λe9=>match e9 with|.inr v9=>some v9|.inl _=>(ko (λ(k:Nat) (GH:Unit)=>(show Option ((Unit)⊕(Bool))from(some ((Lr.rows ⟨bt,bp,bD,bG⟩).getD k [])).bind λp32=>(some ((Lr.bounds ⟨bt,bp,bD,bG⟩).getD k (⟨⟨false,[]⟩,⟨false,[]⟩⟩:Qr))).bind λ⟨⟨RO,RQ⟩,⟨RR,RU⟩⟩=>(gO p32 x1).bind λ⟨⟨qY,qZ⟩,⟨Ft,Fu⟩⟩=>(ga ⟨⟨qY,qZ⟩,⟨Ft,Fu⟩⟩ ⟨⟨RO,RQ⟩,⟨RR,RU⟩⟩).bind λxG=>(some (decide ((xG:Int)=1))).bind λmL=>(bif mL then some (.inr false)else some (.inl ())))) ((Lr.rows ⟨bt,bp,bD,bG⟩).length) ()).bind λOu=>match Ou with|.inr v12=>some v12|.inl _=>some true)) λK3=>(ja ⟨bt,bp,bD,bG⟩).bind λgu=>(some (!gu)).bind λdg=>(bif dg then some true else(some (x1.length:Int)).bind λeM=>(some (decide ((bt:Int)<eM))).bind λfK=>some fK).bind λML=>K3 ML
noncomputable def eC(x0:Lr)(x1:List Qr):Option (List Qr):=match x0 with|⟨bt,bp,bD,bG⟩=>(kC bp x1).bind λx8=>some x8
noncomputable def lu(x0:Lr)(x1:List Qr):Option (List Qr):=match x0 with|⟨bt,bp,bD,bG⟩=>(ou (λ(k:Nat) (w9:(List Qr))=>(show Option ((List Qr))from(some ((Lr.rows ⟨bt,bp,bD,bG⟩).getD k [])).bind λTd=>(some ((Lr.bounds ⟨bt,bp,bD,bG⟩).getD k (⟨⟨false,[]⟩,⟨false,[]⟩⟩:Qr))).bind λ⟨⟨xR,xS⟩,⟨xT,xU⟩⟩=>(gO Td x1).bind λ⟨⟨iQ,iS⟩,⟨rQ,rR⟩⟩=>(nv ⟨⟨xR,xS⟩,⟨xT,xU⟩⟩ ⟨⟨iQ,iS⟩,⟨rQ,rR⟩⟩).bind λ⟨⟨nZ,n5⟩,⟨qt,qu⟩⟩=>(sX 64 w9 [⟨⟨nZ,n5⟩,⟨qt,qu⟩⟩]).bind λjU=>some jU)) ((Lr.rows ⟨bt,bp,bD,bG⟩).length) []).bind λw9=>some w9
noncomputable def fT(x0:Lr)(x1:List Qr)(x2:List Qr):Option (Int):=match x0 with|⟨bt,bp,bD,bG⟩=>(eC ⟨bt,bp,bD,bG⟩ x1).bind λdK=>(eC ⟨bt,bp,bD,bG⟩ x2).bind λjz=>(dy dK jz).bind λdO=>(some (decide ((dO:Int)≠0))).bind λeU=>(bif eU then some dO else(dy x2 x1).bind λjw=>some jw)
noncomputable def oV(x0:Lr):Option (Lr×Int):=match x0 with|⟨bt,bp,bD,bG⟩=>cm (λ(MM:Bool)=>(bif MM then some (⟨0,[],[],[]⟩,1)else(some (bD.length:Int)).bind λgx=>(c7 (-1)).bind λ⟨⟨Az,FG⟩,⟨FH,FI⟩⟩=>(gV ⟨⟨Az,FG⟩,⟨FH,FI⟩⟩ bG).bind λm6=>(b8 (λ(T2:Int×(List (List Qr))×(List Qr))=>match T2 with|⟨pV,sG,sH⟩=>(show Option ((Int×(List (List Qr))×(List Qr))⊕((List (List Qr))×(List Qr)))from(some (decide ((pV:Int)<bt))).bind λqD=>(bif qD then(Ce 64 gx (⟨⟨false,[]⟩,⟨false,[]⟩⟩:Qr)).bind λug=>(some (ug.length:Int)).bind λBC=>(b8 (λ(Vv:Int×(List Qr))=>match Vv with|⟨AA,AB⟩=>(show Option ((Int×(List Qr))⊕((List Qr)))from(some (decide ((AA:Int)<BC))).bind λqV=>(bif qV then(oT bD AA pV).bind λ⟨⟨RV,RW⟩,⟨RX,RY⟩⟩=>(iY ⟨⟨RV,RW⟩,⟨RX,RY⟩⟩).bind λ⟨⟨MN,MO⟩,⟨MP,MQ⟩⟩=>(tB AB AA).bind λQ6=>(stM AB Q6 ⟨⟨MN,MO⟩,⟨MP,MQ⟩⟩).bind λl36=>(some (IntKind.i64.wrap (AA+1))).bind λKL=>some (.inl (KL,l36))else some (.inr AB)))) (0,ug)).bind λpW=>(sX 24 sG [pW]).bind λx62=>(oT bp 0 pV).bind λ⟨⟨R3,R4⟩,⟨R5,R6⟩⟩=>(iY ⟨⟨R3,R4⟩,⟨R5,R6⟩⟩).bind λ⟨⟨IM,IN⟩,⟨IP,IQ⟩⟩=>(sX 64 sH [⟨⟨IM,IN⟩,⟨IP,IQ⟩⟩]).bind λLV=>(some (IntKind.i64.wrap (pV+1))).bind λO7=>some (.inl (O7,x62,LV))else some (.inr (sG,sH))))) (0,[],[])).bind λe26=>match e26 with|⟨DK,DL⟩=>some (⟨gx,[m6],DK,DL⟩,0))) λK6=>(ja ⟨bt,bp,bD,bG⟩).bind λgu=>(some (!gu)).bind λdg=>(bif dg then some true else(some (bD.length:Int)).bind λeU=>(some (decide ((64:Int)<eU))).bind λfz=>some fz).bind λMR=>(bif MR then some true else(some (decide ((128:Int)<bt))).bind λiB=>some iB).bind λT3=>K6 T3
noncomputable def mU(x0:Qr)(x1:List Qr):Option (List Qr):=match x0 with|⟨⟨bt,bp⟩,⟨bD,bG⟩⟩=>(some (x1.length:Int)).bind λx9=>(Ce 64 x9 (⟨⟨false,[]⟩,⟨false,[]⟩⟩:Qr)).bind λdK=>(some (x1.length:Int)).bind λdg=>(b8 (λ(s8:Int×(List Qr))=>match s8 with|⟨fR,fS⟩=>(show Option ((Int×(List Qr))⊕((List Qr)))from(some (decide ((fR:Int)<dg))).bind λdO=>(bif dO then(cY x1 fR).bind λ⟨⟨iQ,iS⟩,⟨rQ,rR⟩⟩=>(jM ⟨⟨bt,bp⟩,⟨bD,bG⟩⟩ ⟨⟨iQ,iS⟩,⟨rQ,rR⟩⟩).bind λ⟨⟨n7,n8⟩,⟨n9,oa⟩⟩=>(tB fS fR).bind λiC=>(stM fS iC ⟨⟨n7,n8⟩,⟨n9,oa⟩⟩).bind λqC=>(some (IntKind.i64.wrap (fR+1))).bind λgU=>some (.inl (gU,qC))else some (.inr fS)))) (0,dK)).bind λdW=>some dW
noncomputable def kD(x0:Lr):Option (Int×(List (List Qr))×(List (List Qr))×(List Qr)):=match x0 with|⟨bt,bp,bD,bG⟩=>(c7 1).bind λ⟨⟨mP,mQ⟩,⟨xb,xd⟩⟩=>(lT ⟨⟨mP,mQ⟩,⟨xb,xd⟩⟩ bp).bind λdK=>(mS ⟨⟨mP,mQ⟩,⟨xb,xd⟩⟩ bD).bind λdO=>(mU ⟨⟨mP,mQ⟩,⟨xb,xd⟩⟩ bG).bind λfK=>some (bt,dK,dO,fK)
noncomputable def jX(x0:Lr)(x1:List Cn):Option (Lr×Int):=match x0 with|⟨bt,bp,bD,bG⟩=>cm (λ(MS:Bool)=>(bif MS then some (⟨0,[],[],[]⟩,1)else(some (x1.length:Int)).bind λnK=>(b8 (λ(yh:Int)=>(show Option ((Int)⊕((Unit)⊕(Lr×Int)))from(some (decide ((yh:Int)<nK))).bind λgx=>(bif gx then(cY x1 yh).bind λ⟨Az,⟨⟨FG,FH⟩,⟨FI,R7⟩⟩⟩=>(some (Az.length:Int)).bind λir=>(some (decide ((bt:Int)<ir))).bind λsu=>(bif su then some (.inr (.inr (⟨0,[],[],[]⟩,1)))else(some (IntKind.i64.wrap (yh+1))).bind λwc=>some (.inl wc))else some (.inr (.inl ()))))) 0).bind λe9=>match e9 with|.inr v9=>some v9|.inl _=>(kD ⟨bt,bp,bD,bG⟩).bind λ⟨FJ,FK,R8,R9⟩=>(some (x1.length:Int)).bind λv8=>(b8 (λ(T4:Int×(List (List Qr))×(List Qr))=>match T4 with|⟨DM,za,zb⟩=>(show Option ((Int×(List (List Qr))×(List Qr))⊕((List (List Qr))×(List Qr)))from(some (decide ((DM:Int)<v8))).bind λCp=>(bif Cp then(cY x1 DM).bind λ⟨Cu,⟨⟨Ff,Sa⟩,⟨Sb,Sc⟩⟩⟩=>(some (Cu.length:Int)).bind λyZ=>(ji Cu yZ).bind λKO=>(sX 24 za [KO]).bind λJZ=>(c8 ⟨⟨Ff,Sa⟩,⟨Sb,Sc⟩⟩).bind λ⟨⟨IS,IT⟩,⟨IU,IV⟩⟩=>(sX 64 zb [⟨⟨IS,IT⟩,⟨IU,IV⟩⟩]).bind λKM=>(some (IntKind.i64.wrap (DM+1))).bind λIE=>some (.inl (IE,JZ,KM))else some (.inr (za,zb))))) (0,R8,R9)).bind λe15=>match e15 with|⟨DN,DO⟩=>some (⟨FJ,FK,DN,DO⟩,0))) λK3=>(ja ⟨bt,bp,bD,bG⟩).bind λdg=>(some (!dg)).bind λjz=>(bif jz then some true else(some (bD.length:Int)).bind λfz=>(some (x1.length:Int)).bind λjU=>(some (IntKind.i64.wrap (fz+jU))).bind λjw=>(some (decide ((128:Int)<jw))).bind λfZ=>some fZ).bind λMT=>K3 MT
noncomputable def dD(x0:Lr)(x1:List Qr)(x2:Qr):Option (Lr×Int):=match x0 with|⟨bt,bp,bD,bG⟩=>match x2 with|⟨⟨kS,kT⟩,⟨pO,pP⟩⟩=>(jX ⟨bt,bp,bD,bG⟩ [⟨x1,⟨⟨kS,kT⟩,⟨pO,pP⟩⟩⟩]).bind λ⟨⟨jt,ju,MU,MV⟩,th⟩=>some (⟨jt,ju,MU,MV⟩,th)
noncomputable def c9(x0:Lr)(x1:List Qr)(x2:Qr):Option (Lr×Int):=match x0 with|⟨bt,bp,bD,bG⟩=>match x2 with|⟨⟨kS,kT⟩,⟨pO,pP⟩⟩=>(c7 (-1)).bind λ⟨⟨FL,FM⟩,⟨W7,W8⟩⟩=>(gV ⟨⟨FL,FM⟩,⟨W7,W8⟩⟩ x1).bind λgu=>(iY ⟨⟨kS,kT⟩,⟨pO,pP⟩⟩).bind λ⟨⟨z4,z5⟩,⟨IW,IX⟩⟩=>(jX ⟨bt,bp,bD,bG⟩ [⟨x1,⟨⟨kS,kT⟩,⟨pO,pP⟩⟩⟩,⟨gu,⟨⟨z4,z5⟩,⟨IW,IX⟩⟩⟩]).bind λ⟨⟨rE,rF,MW,MX⟩,Kh⟩=>some (⟨rE,rF,MW,MX⟩,Kh)
noncomputable def nx(x0:Lr)(x1:Lr):Option (Bool):=match x0 with|⟨bt,bp,bD,bG⟩=>match x1 with|⟨cc,bY,iv,iw⟩=>(ic ⟨bt,bp,bD,bG⟩).bind λ⟨yM,yN,W9,Xa⟩=>(ic ⟨cc,bY,iv,iw⟩).bind λ⟨wZ,w5,Xb,Xc⟩=>(some (!(((yM:Int)==wZ)&&(((yN:Int)==w5)&&(((W9:Int)==Xb)&&((Xa:Int)==Xc)))))).bind λx9=>(bif x9 then some false else cm (λ(Xd:Bool)=>some Xd) λK6=>(iZ bp bY).bind λdO=>(bif dO then(iZ bD iv).bind λjw=>some jw else some false).bind λSd=>(bif Sd then(dU bG iw).bind λgx=>some gx else some false).bind λT5=>K6 T5)
end
section
open Go.Fw Go.Fw.Z Go.RowKit
instance:W2 ah 71 3:=⟨by kernel_rfl,by kernel_rfl,by kernel_rfl,by kernel_rfl⟩
theorem oe(p:Lr):Pure ah 62 [.agg (zR p)] (oM 98 [ref [ay p.vars,(slc 1 (List.map (eS 4 eQ) p.ud)),(slc 1 (List.map (eS 4 eQ) p.rows)),(slc 4 (List.map eQ p.bounds))]]):=by
 refine aZ Tryz.func62 Y (af Y) (λdI M vs hvs=>?_);refine sr<|bx Y<|ag Y<|dn<|sr<|RT.makeFunc .none (.box Y (.nil)) T<|an (s:=.fD _ _) Y<|dn ?_;refine bM (k7 (i:=1) Y [ay p.vars,(slc 1 (List.map (eS 4 eQ) p.ud)),(slc 1 (List.map (eS 4 eQ) p.rows)),(slc 4 (List.map eQ p.bounds))] (.cons Y (.cons Y (.cons Y (.cons Y .nil)))) .any 0 [(2,.fD 98 [.val (ref [ay p.vars,(slc 1 (List.map (eS 4 eQ) p.ud)),(slc 1 (List.map (eS 4 eQ) p.rows)),(slc 4 (List.map eQ p.bounds))])])] (λ_ _ _=>trivial) (tR.h (l:=[ay p.vars,(slc 1 (List.map (eS 4 eQ) p.ud)),(slc 1 (List.map (eS 4 eQ) p.rows)),(slc 4 (List.map eQ p.bounds))])) ⟨@FT.fD _ _ _ _ _ 2 98 [.box 1] Y,aq⟩)<|bM (C9 2 (oM 98 [ref [ay p.vars,(slc 1 (List.map (eS 4 eQ) p.ud)),(slc 1 (List.map (eS 4 eQ) p.rows)),(slc 4 (List.map eQ p.bounds))]]) (λ_ _ h=>Da h)) ?_;exact bf<|⟨.inr Y,C5 (.tmp Y (.nil)) Y⟩
theorem og(p:Lr):Iter ah 98 [ref [ay p.vars,(slc 1 (List.map (eS 4 eQ) p.ud)),(slc 1 (List.map (eS 4 eQ) p.rows)),(slc 4 (List.map eQ p.bounds))]] p.rows.length (λk=>[(slc 4 (List.map eQ (p.rows.getD k []))),.agg (eQ (p.bounds.getD k (⟨⟨false,[]⟩,⟨false,[]⟩⟩:Qr)))]):=by
 refine pJ Tryz.func98 Y Y (af Y) (λdI M O l J hJ we hr=>?_);obtain⟨qA,we⟩:=we;have hla:p.rows.length<=9223372036854775807:=by cases qA with|nil=>exact we.elim|cons _ qA=>exact Mz we.1
 refine bz ?_;refine aW ?_;refine RT.fF .none Y (tl Y) Y ?_;refine RT.cE .none Y Y (tl Y) ?_;refine RT.len .none Y (tl Y) ?_;refine RT.mv .none Y (tl Y) ?_;refine RT.done ?_;refine aV.n ?_;refine bj ?_
 refine uQ (I:=λx:{i:Nat//i<=p.rows.length}=>AS.cq 30 [(0,.sv (.v (.func (.yield l) #[] #[]))),(1,.sv (ref [ay p.vars,(slc 1 (List.map (eS 4 eQ) p.ud)),(slc 1 (List.map (eS 4 eQ) p.rows)),(slc 4 (List.map eQ p.bounds))])),(7,.sv ((slc 1 (List.map (eS 4 eQ) p.rows)))),(8,ai ((p.rows.length:Nat):Int)),(9,ai ((x.1:Nat):Int))] [] [] (x.1)) (μ:=λx=>p.rows.length-x.1) ⟨0,by omega⟩ (by(try dsimp only);exact da id Y Y Y Y Y ⟨.sv (by first|exact au|exact SV.aY (by omega)|exact SV.aY (by push_cast;omega)|exact SV.aY (by dsimp only;omega)|exact SV.imp_eq (by simp)),.sv (by first|exact au|exact SV.aY (by omega)|exact SV.aY (by push_cast;omega)|exact SV.aY (by dsimp only;omega)|exact SV.imp_eq (by simp)),.sv (by first|exact au|exact SV.aY (by omega)|exact SV.aY (by push_cast;omega)|exact SV.aY (by dsimp only;omega)|exact SV.imp_eq (by simp)),.sv (SV.aY (by simp)),.sv (by first|exact au|exact SV.aY (by omega)|exact SV.aY (by push_cast;omega)|exact SV.aY (by dsimp only;omega)|exact SV.imp_eq (by simp)),aq⟩ trivial trivial (λ_ _=>Y)) ?_;rintro⟨i,Q4⟩
 try dsimp only
 rcases HA p.rows p.bounds i Q4 with⟨hi,hb⟩|⟨hi,hb⟩|hi
 ·
  refine bz ?_;refine aW ?_;refine RT.lss .none (true) Y Y (tl Y) (by simp;omega) ?_;refine RT.done ?_;refine aV.n ?_;refine bz ?_;refine cz Y ?_;refine bu ?_;refine aV.n ?_;refine bz ?_;refine bj ?_;refine bz ?_;refine aW ?_;refine RT.mv .none Y (tl Y) ?_;refine RT.Li .none [(slc 4 (List.map eQ (p.rows.getD i [])))] (Int.natCast_nonneg i) (by rw[Int.toNat_natCast,List.getElem?_map,cH hi];rfl) Y Y (tl Y) ?_;refine RT.cE .none Y Y (tl Y) ?_;refine RT.zG .none Y (tl Y) ?_;refine RT.zG .none Y (tl Y) ?_;refine RT.done ?_;refine aV.n ?_;refine bz ?_;refine aW ?_;refine RT.pK .none (cs:=eQ ⟨⟨false,[]⟩,⟨false,[]⟩⟩) (by exact⟨au,aB,au,aB,aq⟩) Y (tl Y) Y Y ?_;refine RT.done ?_;refine aV.n ?_;refine bz ?_;refine bz ?_;refine aW ?_;refine RT.mv .none Y (tl Y) ?_;refine RT.fF .none Y (tl Y) Y ?_;refine RT.cE .none Y Y (tl Y) ?_;refine RT.len .none Y (tl Y) ?_;refine RT.lss .none (true) Y Y (tl Y) (by simp only[List.length_map];simp;omega) ?_;refine RT.done ?_;refine aV.n ?_;refine cz Y ?_;refine aW ?_;refine RT.fF .none Y (tl Y) Y ?_;refine RT.cE .none Y Y (tl Y) ?_;refine RT.mv .none Y (tl Y) ?_
  refine RT.Li .none [az ((p.bounds.getD i (⟨⟨false,[]⟩,⟨false,[]⟩⟩:Qr)).num.neg),slc 1 ((p.bounds.getD i (⟨⟨false,[]⟩,⟨false,[]⟩⟩:Qr)).num.w.map aX),az ((p.bounds.getD i (⟨⟨false,[]⟩,⟨false,[]⟩⟩:Qr)).den.neg),slc 1 ((p.bounds.getD i (⟨⟨false,[]⟩,⟨false,[]⟩⟩:Qr)).den.w.map aX)] (Int.natCast_nonneg i) (by rw[Int.toNat_natCast,List.getElem?_map,cH hb];rfl) Y Y (tl Y) ?_;refine RT.nT .none Y (tl Y) (cs:=[az ((p.bounds.getD i (⟨⟨false,[]⟩,⟨false,[]⟩⟩:Qr)).num.neg),slc 1 ((p.bounds.getD i (⟨⟨false,[]⟩,⟨false,[]⟩⟩:Qr)).num.w.map aX),az ((p.bounds.getD i (⟨⟨false,[]⟩,⟨false,[]⟩⟩:Qr)).den.neg),slc 1 ((p.bounds.getD i (⟨⟨false,[]⟩,⟨false,[]⟩⟩:Qr)).den.w.map aX)]) Y Y ?_;refine RT.store .none Y Y Y Y Y ?_;refine RT.done ?_;refine aV.n ?_;refine bz ?_;refine aW ?_;refine RT.mv .none Y (tl Y) ?_;refine RT.mv .none Y (tl Y) ?_;refine RT.load .none Y Y (.k4 Y Y Y Y) Y (tl Y) ?_;refine RT.yield .none hr Y (λ_ h=>h) Y (i) Y Y hi (by exact⟨Y,Y,aq⟩) (tl Y) (λyb=>?_);cases yb
  ·
   refine RT.not .none Y (tl Y) true Y ?_;refine RT.done ?_;refine aV.n ?_;refine cz Y ?_;refine bf ?_;refine bw.r ?_;refine aV.r ?_;refine aV.r ?_;refine bw.r ?_;exact⟨.inr rfl,(λh=>by cases h)⟩
  refine RT.not .none Y (tl Y) false Y ?_;refine RT.done ?_;refine aV.n ?_;refine dJ Y ?_;refine bu ?_;refine bw.n ?_;refine aV.n ?_;refine aW ?_;refine RT.add .none (((i:Nat):Int)+1) Y Y (tl Y) (kn (by omega)) ?_;refine RT.mv .none Y (tl Y) ?_;refine RT.done ?_;refine aV.n ?_;refine⟨⟨i+1,by omega⟩,(by dsimp only;omega),?_⟩
  try dsimp only
  exact da id Y Y Y Y Y ⟨.sv (by first|exact au|exact SV.aY (by omega)|exact SV.aY (by push_cast;omega)|exact SV.aY (by dsimp only;omega)|exact SV.imp_eq (by simp)),.sv (by first|exact au|exact SV.aY (by omega)|exact SV.aY (by push_cast;omega)|exact SV.aY (by dsimp only;omega)|exact SV.imp_eq (by simp)),.sv (by first|exact au|exact SV.aY (by omega)|exact SV.aY (by push_cast;omega)|exact SV.aY (by dsimp only;omega)|exact SV.imp_eq (by simp)),.sv (by first|exact au|exact SV.aY (by omega)|exact SV.aY (by push_cast;omega)|exact SV.aY (by dsimp only;omega)|exact SV.imp_eq (by simp)),.sv (by first|exact au|exact SV.aY (by omega)|exact SV.aY (by push_cast;omega)|exact SV.aY (by dsimp only;omega)|exact SV.imp_eq (by simp)),aq⟩ trivial trivial (λ_ _=>Y)
 ·
  refine bz ?_;refine aW ?_;refine RT.lss .none (true) Y Y (tl Y) (by simp;omega) ?_;refine RT.done ?_;refine aV.n ?_;refine bz ?_;refine cz Y ?_;refine bu ?_;refine aV.n ?_;refine bz ?_;refine bj ?_;refine bz ?_;refine aW ?_;refine RT.mv .none Y (tl Y) ?_;refine RT.Li .none [(slc 4 (List.map eQ (p.rows.getD i [])))] (Int.natCast_nonneg i) (by rw[Int.toNat_natCast,List.getElem?_map,cH hi];rfl) Y Y (tl Y) ?_;refine RT.cE .none Y Y (tl Y) ?_;refine RT.zG .none Y (tl Y) ?_;refine RT.zG .none Y (tl Y) ?_;refine RT.done ?_;refine aV.n ?_;refine bz ?_;refine aW ?_;refine RT.pK .none (cs:=eQ ⟨⟨false,[]⟩,⟨false,[]⟩⟩) (by exact⟨au,aB,au,aB,aq⟩) Y (tl Y) Y Y ?_;refine RT.done ?_;refine aV.n ?_;refine bz ?_;refine bz ?_;refine aW ?_;refine RT.mv .none Y (tl Y) ?_;refine RT.fF .none Y (tl Y) Y ?_;refine RT.cE .none Y Y (tl Y) ?_;refine RT.len .none Y (tl Y) ?_;refine RT.lss .none (false) Y Y (tl Y) (by simp only[List.length_map];simp;omega) ?_;refine RT.done ?_;refine aV.n ?_;refine dJ Y ?_;refine bu ?_;refine aV.n ?_;refine bz ?_;refine aW ?_;refine RT.mv .none Y (tl Y) ?_;refine RT.mv .none Y (tl Y) ?_;refine RT.load .none Y Y (.k4 Y Y Y Y) Y (tl Y) ?_
  refine RT.yield .none hr Y (λ_ h=>h) Y (i) Y Y hi (by exact⟨Y,(by show AV.sv _=AV.sv _;rw[eE hb]),aq⟩) (tl Y) (λyb=>?_);cases yb
  ·
   refine RT.not .none Y (tl Y) true Y ?_;refine RT.done ?_;refine aV.n ?_;refine cz Y ?_;refine bf ?_;refine bw.r ?_;refine aV.r ?_;refine aV.r ?_;refine bw.r ?_;exact⟨.inr rfl,(λh=>by cases h)⟩
  refine RT.not .none Y (tl Y) false Y ?_;refine RT.done ?_;refine aV.n ?_;refine dJ Y ?_;refine bu ?_;refine bw.n ?_;refine aV.n ?_;refine aW ?_;refine RT.add .none (((i:Nat):Int)+1) Y Y (tl Y) (kn (by omega)) ?_;refine RT.mv .none Y (tl Y) ?_;refine RT.done ?_;refine aV.n ?_;refine⟨⟨i+1,by omega⟩,(by dsimp only;omega),?_⟩
  try dsimp only
  exact da id Y Y Y Y Y ⟨.sv (by first|exact au|exact SV.aY (by omega)|exact SV.aY (by push_cast;omega)|exact SV.aY (by dsimp only;omega)|exact SV.imp_eq (by simp)),.sv (by first|exact au|exact SV.aY (by omega)|exact SV.aY (by push_cast;omega)|exact SV.aY (by dsimp only;omega)|exact SV.imp_eq (by simp)),.sv (by first|exact au|exact SV.aY (by omega)|exact SV.aY (by push_cast;omega)|exact SV.aY (by dsimp only;omega)|exact SV.imp_eq (by simp)),.sv (by first|exact au|exact SV.aY (by omega)|exact SV.aY (by push_cast;omega)|exact SV.aY (by dsimp only;omega)|exact SV.imp_eq (by simp)),.sv (by first|exact au|exact SV.aY (by omega)|exact SV.aY (by push_cast;omega)|exact SV.aY (by dsimp only;omega)|exact SV.imp_eq (by simp)),aq⟩ trivial trivial (λ_ _=>Y)
 subst hi;refine bz ?_;refine aW ?_;refine RT.lss .none (false) Y Y (tl Y) (by simp) ?_;refine RT.done ?_;refine aV.n ?_;refine bz ?_;refine dJ Y ?_;refine bN ?_;refine aV.x ?_;refine aV.x ?_;refine bw.x ?_;exact⟨.inl Y,(λ_=>Y)⟩
theorem oC{x0:Lr}{r:Sz}(h:ic x0=some r):Pure ah 50 [.agg (zR x0)] (.agg (eSz r)):=by
 obtain⟨bt,bp,bD,bG⟩:=x0;refine aZ Tryz.func50 Y (af Y) (λdI M vs hvs=>?_);unfold ic at h;refine sr<|bx Y<|al (cs:=[ay 0,ay 0,ay 0,ay 0]) (by exact⟨au,au,au,au,aq⟩) Y<|dn<|sr<|fa Y Y<|lV Y Y Y<|fa Y Y<|lV Y Y Y<|lE h λx7 h7 h=>ln Y h7<|fa Y Y<|lV Y Y Y<|lE h λdK fY h=>ln Y fY<|fa Y Y ?_;refine lV Y Y Y<|lE h λjz lf h=>ln Y lf<|bI (cs:=[_,_,_,_]) (cs':=[ay bt,ay x7,ay dK,ay jz]) (.one Y (.one Y (.one Y (.one Y (.nil))))) ⟨au,au,au,au,aq⟩<|so Y Y Y<|dn<|bf ?_;obtain rfl:=O h;exact RZ (.agg Y Y (.k4 Y Y Y Y) Y (.nil))
theorem oh{x0:Lr}{r:Bool}(h:ja x0=some r):Pure ah 17 [.agg (zR x0)] (az r):=by
 obtain⟨bt,bp,bD,bG⟩:=x0;refine aZ Tryz.func17 Y (af Y) (λdI M vs hvs=>?_);unfold ja at h;refine sr<|bx Y<|ag Y<|dn<|sr<|ld Y Y (.k4 Y Y Y Y) ?_;obtain⟨⟨BQ,Fv,BR,DD⟩,h5,h⟩:=bS h;refine cl (oC h5) ⟨Y,aq⟩<|al (cs:=[ay 0,ay 0,ay 0,ay 0]) (by exact⟨au,au,au,au,aq⟩) Y<|so Y Y Y<|dn<|qq<|qq ?_;refine bC h (λSe=>AS.cq 48 [(1,.ptr 1 0),(3,.ptr 3 0),(23,aj Se)] [(3,⟨71,[ai BQ,ai Fv,ai BR,ai DD]⟩),(1,⟨26,[ai bt,.sv (slc 1 (List.map (eS 4 eQ) bp)),.sv (slc 1 (List.map (eS 4 eQ) bD)),.sv (slc 4 (List.map eQ bG))]⟩)] []) (λh=>?_) (λMG h=>?_);refine aW<|fa Y Y<|lV Y Y Y<|lE h λx8 h8 h=>ls _ Y Y h8<|mv Y<|bE h λMJ Pk h=>?_;cases x8;refine RT.fieldAddr (.some Y Y) Y T Y<|RT.sW (.some Y Y) Y Y Y T<|lE (F Pk) λdg fP Pk=>gg _ Y Y fP ?_;obtain rfl:=O Pk;refine pF Y<|mv Y<|bE h λacA Pm h=>?_;cases dg;refine RT.fieldAddr (.some Y Y) Y T Y<|RT.sW (.some Y Y) Y Y Y T<|lE (F Pm) λfz lj Pm=>RT.lss (.some Y Y) _ Y Y T lj ?_;obtain rfl:=O Pm;refine pF Y<|mv Y<|bE h λacB Pn h=>?_;cases fz;refine RT.fieldAddr (.some Y Y) Y T Y<|RT.sW (.some Y Y) Y Y Y T<|lE (F Pn) λiB nm Pn=>gg _ Y Y nm ?_;obtain rfl:=O Pn;exact pF Y<|dn<|⟨iB,h,wR []⟩;obtain rfl:=O (V Pn);exact ww<|ww<|ww<|pT Y<|dn<|⟨true,h,wR []⟩
 obtain rfl:=O (V Pm);refine ww<|ww<|ww<|pT Y<|mv Y<|bE h λacC acD h=>?_;obtain rfl:=O (V acD);exact ww<|ww<|ww<|pT Y<|dn<|⟨true,h,wR []⟩;obtain rfl:=O (V Pk);refine ww<|ww<|ww<|pT Y<|mv Y<|bE h λHF lU h=>?_;obtain rfl:=O (V lU);refine ww<|ww<|ww<|pT Y<|mv Y<|bE h λacE nO h=>?_;obtain rfl:=O (V nO);exact ww<|ww<|ww<|pT Y<|dn<|⟨true,h,wR []⟩
 try dsimp only
 refine aV.n ?_;cases MG;refine fs<|qq<|qq ?_;refine bC (F h) (λL5=>AS.cq 48 [(1,.ptr 1 0),(3,.ptr 3 0),(33,aj L5)] [(3,⟨71,[ai BQ,ai Fv,ai BR,ai DD]⟩),(1,⟨26,[ai bt,.sv (slc 1 (List.map (eS 4 eQ) bp)),.sv (slc 1 (List.map (eS 4 eQ) bD)),.sv (slc 4 (List.map eQ bG))]⟩)] []) (λh=>?_) (λHE h=>?_);refine aW<|fa Y Y<|lV Y Y Y<|lE h λmG uu h=>gt _ Y Y uu<|mv Y<|bE h λMI Ae h=>?_;cases mG;refine RT.fieldAddr (.some Y Y) Y T Y<|RT.sW (.some Y Y) Y Y Y T<|RT.fieldAddr (.some Y Y) Y T Y<|RT.sW (.some Y Y) Y Y Y T<|lE (F Ae) λir nn Ae=>gq _ Y Y (yV (p:=DD) (q:=BR) nn) ?_;obtain rfl:=O Ae;exact pF Y<|dn<|⟨ir,h,wR []⟩;obtain rfl:=O (V Ae);exact ww<|ww<|ww<|ww<|ww<|pT Y<|dn<|⟨true,h,wR []⟩
 try dsimp only
 refine aV.n ?_;cases HE;refine fs<|qq ?_;refine bC (F h) (λj16=>AS.cq 48 [(2,aj j16)] [] []) (λh=>?_) (λRN h=>?_);refine bh mixed<|fa Y Y<|lV Y Y Y<|bE h λuO yE h=>cl (ye yE) ⟨Y,aq⟩<|fa Y Y<|lV Y Y Y<|lE h λqD BM h=>RT.leq .none _ Y Y T BM<|mv Y<|bE h λMH tf h=>?_;cases qD;obtain rfl:=O (F tf);refine ww<|ww<|ww<|ww<|ww<|ww<|pF Y<|ag Y ?_;refine RT.done ⟨by kernel_rfl,?_⟩;exact aV.n<|⟨false,h,wR []⟩;refine RT.fieldAddr (.some Y Y) Y T Y<|RT.sW (.some Y Y) Y Y Y T<|bE (V tf) λCp KN tf=>gc (ye KN) ⟨Y,aq⟩<|RT.fieldAddr (.some Y Y) Y T Y<|RT.sW (.some Y Y) Y Y Y T<|lE tf λqV h46 tf=>RT.leq (.some Y Y) _ Y Y T h46 ?_;obtain rfl:=O tf;refine pT Y<|ag Y ?_;refine RT.done ⟨by kernel_rfl,?_⟩;exact aV.n<|⟨qV,h,wR []⟩
 try dsimp only
 refine aV.n<|bf ?_;obtain rfl:=O h;exact R1 Y;refine cT<|sr<|ag Y<|dn<|bf<|aV.r ?_;obtain rfl:=O (V h);exact R1 Y;refine cT<|sr<|ag Y<|dn<|bf<|aV.r ?_;obtain rfl:=O (V h);exact R1 Y
theorem cV{x0:Lr}{x1:List Qr}{r:Bool}(h:cK x0 x1=some r):Pure ah 20 [.agg (zR x0),slc 4 (List.map eQ x1)] (az r):=by
 obtain⟨bt,bp,bD,bG⟩:=x0;refine aZ Tryz.func20 Y (af Y) (λdI M vs hvs=>?_);unfold cK at h;refine sr<|bx Y<|RT.CZ .none (s:=.sv _) Y T Y Y<|ag Y<|dn<|LG<|qq<|qq ?_;refine bC h (λj3=>AS.cq 42 [(2,.ptr 2 0),(3,.ptr 3 0),(19,aj j3)] [(3,⟨24,[.sv (slc 4 (List.map eQ x1))]⟩),(2,⟨26,[ai bt,.sv (slc 1 (List.map (eS 4 eQ) bp)),.sv (slc 1 (List.map (eS 4 eQ) bD)),.sv (slc 4 (List.map eQ bG))]⟩)] []) (λh=>?_) (λMK h=>?_);refine aW<|ld Y Y (.k4 Y Y Y Y)<|bE h λgu mw h=>cl (oh mw) ⟨Y,aq⟩<|lE h λdg fP h=>nt Y _ fP<|mv Y<|bE h λML Ki h=>?_;cases dg;refine RT.sW (.some Y Y) Y Y Y T<|lE (F Ki) λeM jL Ki=>gn Y jL<|RT.fieldAddr (.some Y Y) Y T Y<|RT.sW (.some Y Y) Y Y Y T<|lE Ki λfK kR Ki=>gg _ Y Y kR ?_;obtain rfl:=O Ki;exact pF Y<|dn<|⟨fK,h,wR []⟩;obtain rfl:=O (V Ki);exact ww<|ww<|ww<|ww<|ww<|pT Y<|dn<|⟨true,h,wR []⟩
 try dsimp only
 refine aV.n ?_;cases MK;refine fs<|qq<|sr<|lV Y Y Y<|lE (F h) λfZ my h=>ln Y my<|mv Y<|dn<|bE h λe9 hl9 Po=>?_;refine bJ (λ(T6:Unit)=>AS.cq 42 [(2,.ptr 2 0),(3,.ptr 3 0)] [(3,⟨24,[.sv (slc 4 (List.map eQ x1))]⟩),(2,⟨26,[ai bt,.sv (slc 1 (List.map (eS 4 eQ) bp)),.sv (slc 1 (List.map (eS 4 eQ) bD)),.sv (slc 4 (List.map eQ bG))]⟩)] []) (λT6=>.inl T6=e9) ?_ (λT6 hx9=>?_);refine bj ?_;refine bK hl9 (λs9=>AS.cq 42 [(2,.ptr 2 0),(3,.ptr 3 0),(20,.sv (slc 4 (List.map eQ x1))),(21,ai fZ),(22,ai s9)] [(3,⟨24,[.sv (slc 4 (List.map eQ x1))]⟩),(2,⟨26,[ai bt,.sv (slc 1 (List.map (eS 4 eQ) bp)),.sv (slc 1 (List.map (eS 4 eQ) bD)),.sv (slc 4 (List.map eQ bG))]⟩)] []) (wR []) (λIL y9 G9 h hG9 Xe=>?_)
 try dsimp only
 refine sr<|lE h λiC oR h=>ls _ Y Y oR<|dn<|qq ?_;cases iC;refine cF<|bN<|aV.x<|aV.x<|bw.x<|aV.n ?_;obtain rfl:=O (F h);exact⟨(),Xe _ Y,wR []⟩;refine cT<|bu<|aV.n<|qq<|bj<|sr ?_;obtain⟨⟨⟨xV,xW⟩,⟨xX,xY⟩⟩,oG,h⟩:=bS (V h);refine ix Y Y oG<|RT.nT (cs:=[_,_,_,_]) .none Y T Y Y<|al (cs:=[az false,ax,az false,ax]) (by exact⟨au,aB,au,aB,aq⟩) Y<|so Y Y Y<|dn<|sr<|ld Y Y (.k4 Y Y Y Y)<|bE h λgx m7 h=>cl (pQ m7) ⟨Y,aq⟩<|lE h λmm sZ h=>ls _ Y Y sZ<|dn ?_;cases mm;refine cF<|bu<|bw.n<|aV.n<|aW<|lE (F h) λiM nL h=>ad _ Y Y nL<|mv Y<|RT.done ?_;obtain rfl:=O h;exact aV.n ⟨iM,hG9 _ Y,wR []⟩;refine cT<|sr<|ag Y<|dn<|bf<|bw.r<|aV.r ?_;obtain rfl:=O (V h);have he9:=Xe _ Y;subst he9;refine aV.r<|bw.r<|aV.r<|aV.r<|O2.r ?_;obtain rfl:=O Po;exact R1 Y;subst hx9
 try dsimp only
 refine aV.n<|sr<|al (cs:=[az false]) (by exact⟨au,aq⟩) Y<|RT.jK (cells:=[_]) .none (s:=.sv _) Y Y Y T Y<|dn<|qq<|LH<|aV.n<|qq<|sr<|ld Y Y (.k4 Y Y Y Y)<|cl (oe ⟨bt,bp,bD,bG⟩) ⟨Y,aq⟩<|dn<|bj<|bE Po λOu L8 mO=>?_;obtain⟨m12,acJ,ahK,acK,acL⟩:=sq L8;refine jy (og ⟨bt,bp,bD,bG⟩) (λ_ _ _ _ _=>trivial) Y (λk=>AS.cq 42 [(3,.ptr 3 0),(7,.ptr 7 0),(31,.sv (oM 98 [ref [ay bt,slc 1 (List.map (eS 4 eQ) bp),slc 1 (List.map (eS 4 eQ) bD),slc 4 (List.map eQ bG)]]))] [(7,⟨4,[aj true]⟩),(3,⟨24,[.sv (slc 4 (List.map eQ x1))]⟩)] []) [7,3] Y (λ_=>⟨Y,Y⟩) (qN Y) (λ_=>Y) (qO Y) (by(try dsimp only);(try dsimp only);exact da id Y Y Y Y Y ⟨.ptr,.ptr,.sv au,aq⟩ ⟨⟨_,Y,⟨.sv au,aq⟩⟩,⟨_,Y,⟨.sv au,aq⟩⟩,aq⟩ trivial (λ_ _=>Y)) m12 (λk hk hkm D hD=>?_) (λhdn=>?_);obtain⟨y12,h,L9,Ma⟩:=acK k hk hkm;dsimp only[AS.Oq,qM]
 try dsimp only at h
 refine lE h λp32 acM h=>?_;rw[acM];obtain⟨⟨⟨RO,RQ⟩,⟨RR,RU⟩⟩,acN,h⟩:=bS h;rw[Option.some.inj acN];refine sr<|ag Y<|dn<|aW<|al (cs:=[az false,ax,az false,ax]) (by exact⟨au,aB,au,aB,aq⟩) Y<|so Y Y Y<|RT.done ?_;refine aV.n ⟨Y,?_⟩;dsimp only[AS.Bu];refine bj<|qq<|bh mixed<|mv Y<|lV Y Y Y ?_;obtain⟨⟨⟨qY,qZ⟩,⟨Ft,Fu⟩⟩,yE,h⟩:=bS h;refine cl (pU yE) ⟨Y,Y,aq⟩<|ld Y Y (.k4 Y Y Y Y)<|bE h λxG Ho h=>cl (lP Ho) ⟨Y,Y,aq⟩ ?_;refine RT.done ⟨by kernel_rfl,?_⟩;refine aV.n<|bj<|sr<|lE h λmL tK h=>eq _ Y Y (o9 (p:=xG) (q:=1) tK)<|ag Y<|dn ?_;cases mL;refine cF<|bu<|bw.n<|bw.n ?_;obtain rfl:=O (F h);obtain⟨acO,ahL⟩:=L9 _ Y;exact⟨acO,Y,Y,wR []⟩;refine cT<|sr<|RT.jK (cells:=[_]) .none (s:=.sv _) Y Y Y T Y<|dn<|bN<|bw.y (by decide)<|bw.y (by decide) ?_;obtain rfl:=O (V h);have acP:=Ma _ Y;subst acP;refine⟨Y,Y,?_⟩;refine bw.x<|aV.n<|sr<|lV Y Y Y<|ag Y<|dn<|bf<|O2.r ?_;obtain rfl:=O mO;exact R1 Y;have acQ:=acL hdn;subst acQ;obtain⟨ahM,Xf⟩:∃q,acJ ((Lr.rows ⟨bt,bp,bD,bG⟩).length)=q:=⟨_,Y⟩;rw[Xf]at mO
 try dsimp only
 refine bw.n<|aV.n<|sr<|lV Y Y Y<|ag Y<|dn<|bf<|O2.r ?_;obtain rfl:=O mO;exact R1 Y;refine cT<|sr<|ag Y<|dn<|bf<|aV.r<|O2.r ?_;obtain rfl:=O (V h);exact R1 Y
theorem gQ{x0:Lr}{x1:List Qr}{r:List Qr}(h:eC x0 x1=some r):Pure ah 21 [.agg (zR x0),slc 4 (List.map eQ x1)] (slc 4 (List.map eQ r)):=by
 obtain⟨bt,bp,bD,bG⟩:=x0;refine aZ Tryz.func21 Y (af Y) (λdI M vs hvs=>?_);unfold eC at h;refine sr<|bx Y<|aI Y (aB (n:=4) (e:=eQ))<|dn<|sr<|fa Y Y<|lV Y Y Y<|mv Y<|bE h λx8 h8 h=>cl (BT h8) ⟨Y,Y,aq⟩<|ag Y<|dn<|bf ?_;obtain rfl:=O h;exact R1 Y
theorem yj{x0:Lr}{x1:List Qr}{r:List Qr}(h:lu x0 x1=some r):Pure ah 39 [.agg (zR x0),slc 4 (List.map eQ x1)] (slc 4 (List.map eQ r)):=by
 obtain⟨bt,bp,bD,bG⟩:=x0;refine aZ Tryz.func39 Y (af Y) (λdI M vs hvs=>?_);unfold lu at h;refine sr<|bx Y<|RT.CZ .none (s:=.sv _) Y T Y Y<|aI Y (aB (n:=4) (e:=eQ))<|dn<|sr<|RT.alloc .none T Y Y<|dn<|bM (oP 5 0 302 36 4 Y Y Y T)<|qq<|sr<|ld Y Y (.k4 Y Y Y Y)<|cl (oe ⟨bt,bp,bD,bG⟩) ⟨Y,aq⟩<|dn<|bj<|bE h λw9 hl5 W0=>?_;obtain⟨Vu,hs5,ht5,hn5⟩:=oO hl5;refine mJ (og ⟨bt,bp,bD,bG⟩) (λ_ _ _ _ _=>trivial) Y (λk=>AS.cq 21 [(3,.ptr 3 0),(5,.ptr 5 0),(9,.sv (oM 98 [ref [ay bt,slc 1 (List.map (eS 4 eQ) bp),slc 1 (List.map (eS 4 eQ) bD),slc 4 (List.map eQ bG)]]))] [(5,⟨24,[.row 304]⟩),(3,⟨24,[.sv (slc 4 (List.map eQ x1))]⟩)] [(304,TR 36 4 eQ (Vu k))]) [5,3] Y (λ_=>⟨Y,Y⟩) (qN Y) (λ_=>Y) (qO Y) (by(try dsimp only);rw[hs5];(try dsimp only);exact da (λi=>bif Nat.beq i 304 then 302 else i) Y Y Y Y Y ⟨.ptr,.ptr,.sv au,aq⟩ ⟨⟨_,Y,⟨.row Y,aq⟩⟩,⟨_,Y,⟨.sv au,aq⟩⟩,aq⟩ ⟨⟨_,Y,eP.refl _⟩,aq⟩ (λi hi=>by rw[cw (show i≠304 by omega)];rfl)) (λk hk D hD=>?_) ?_;have h:=ht5 k hk;obtain⟨w9,O9⟩:∃q,Vu k=q:=⟨_,Y⟩;rw[O9]at h⊢;dsimp only[AS.Oq,qM]
 try dsimp only at h
 refine lE h λTd TT h=>?_;rw[TT];obtain⟨⟨⟨xR,xS⟩,⟨xT,xU⟩⟩,Hz,h⟩:=bS h;rw[Option.some.inj Hz];refine sr<|ag Y<|dn<|aW<|al (cs:=[az false,ax,az false,ax]) (by exact⟨au,aB,au,aB,aq⟩) Y<|so Y Y Y<|RT.done ?_;refine aV.n ⟨Y,?_⟩;dsimp only[AS.Bu];refine bj<|bh mixed<|RT.nh .none (s:=.row _) Y Y Y T<|ld Y Y (.k4 Y Y Y Y)<|mv Y<|lV Y Y Y ?_;obtain⟨⟨⟨iQ,iS⟩,⟨rQ,rR⟩⟩,iL,h⟩:=bS h;refine cl (pU iL) ⟨Y,Y,aq⟩ ?_;obtain⟨⟨⟨nZ,n5⟩,⟨qt,qu⟩⟩,lj,h⟩:=bS h;refine cl (Fy lj) ⟨Y,Y,aq⟩<|bl (l:=[⟨⟨nZ,n5⟩,⟨qt,qu⟩⟩]) (e:=eQ) (.agg Y (.nil)) Y Y Y Y Y Y<|bE h λjU mM h=>aR (k:=[⟨⟨nZ,n5⟩,⟨qt,qu⟩⟩]) (e:=eQ) Y Y Y mM<|RT.pB (cells:=[_]) .none Y Y Y Y T Y ?_;refine RT.done ⟨by kernel_rfl,?_⟩;refine bw.n ?_;replace h:=Option.some.inj h;refine⟨aq,Y,Y,?_⟩
 try dsimp only
 rw[<-h]
 try dsimp only
 exact da (λi=>bif Nat.beq i 304 then 19 else i) Y Y Y Y Y ⟨.ptr,.ptr,.sv au,aq⟩ ⟨⟨_,Y,⟨.row Y,aq⟩⟩,⟨_,Y,⟨.sv au,aq⟩⟩,aq⟩ ⟨⟨_,Y,eP.refl _⟩,aq⟩ (λi hi=>by rw[cw (show i≠304 by omega)];rfl);rw[hn5]
 try dsimp only
 refine bw.n<|aV.n<|sr<|RT.nh .none (s:=.row _) Y Y Y T<|an (s:=.row _) Y<|dn<|bM (cn (i:=304) (E1:=36) (n:=4) (e:=eQ) (l:=w9) Y)<|bf ?_;obtain rfl:=O W0;exact R1 Y
theorem tN{x0:Lr}{x1:List Qr}{x2:List Qr}{r:Int}(h:fT x0 x1 x2=some r):Pure ah 35 [.agg (zR x0),slc 4 (List.map eQ x1),slc 4 (List.map eQ x2)] (ay r):=by
 obtain⟨bt,bp,bD,bG⟩:=x0;refine aZ Tryz.func35 Y (af Y) (λdI M vs hvs=>?_);unfold fT at h;refine sr<|bx Y<|ag Y<|dn<|qq<|qq<|bh mixed<|ld Y Y (.k4 Y Y Y Y)<|mv Y<|bE h λdK fY h=>cl (gQ fY) ⟨Y,Y,aq⟩<|ld Y Y (.k4 Y Y Y Y)<|mv Y<|bE h λjz lf h=>cl (gQ lf) ⟨Y,Y,aq⟩<|bE h λdO jh h=>cl (gP jh) ⟨Y,Y,aq⟩ ?_;refine ag Y ?_;refine RT.done ⟨by kernel_rfl,?_⟩;refine aV.n<|sr<|mv Y<|lE h λeU iL h=>ne _ Y Y (yV (p:=dO) (q:=0) iL)<|dn ?_;cases eU;refine fs<|sr<|mv Y<|mv Y<|bE (F h) λjw oQ h=>cl (gP oQ) ⟨Y,Y,aq⟩<|ag Y<|dn<|bf ?_;obtain rfl:=O h;exact R1 Y;refine cT<|sr<|mv Y<|ag Y<|dn<|bf<|aV.r ?_;obtain rfl:=O (V h);exact R1 Y
set_option maxHeartbeats 4000000 in
theorem HG{x0:Lr}{r:Lr×Int}(h:oV x0=some r):Pure ah 16 [.agg (zR x0)] (.yy [.agg (zR r.1),ay r.2]):=by
 obtain⟨bt,bp,bD,bG⟩:=x0;refine aZ Tryz.func16 Y (af Y) (λdI M vs hvs=>?_);unfold oV at h;refine sr<|bx Y<|al (cs:=[ay 0,slc 1 (List.map (eS 4 eQ) []),slc 1 (List.map (eS 4 eQ) []),slc 4 (List.map eQ [])]) (by exact⟨au,aB,aB,aB,aq⟩) Y<|ag Y<|dn<|qq<|qq ?_;refine bC h (λj6=>AS.cq 76 [(1,.ptr 1 0),(2,.ptr 2 0),(23,aj j6)] [(2,⟨26,[ai 0,.sv (slc 1 (List.map (eS 4 eQ) [])),.sv (slc 1 (List.map (eS 4 eQ) [])),.sv (slc 4 (List.map eQ []))]⟩),(1,⟨26,[ai bt,.sv (slc 1 (List.map (eS 4 eQ) bp)),.sv (slc 1 (List.map (eS 4 eQ) bD)),.sv (slc 4 (List.map eQ bG))]⟩)] []) (λh=>?_) (λMM h=>?_);refine aW<|ld Y Y (.k4 Y Y Y Y)<|bE h λgu mw h=>cl (oh mw) ⟨Y,aq⟩<|lE h λdg fP h=>nt Y _ fP<|mv Y<|bE h λMR w6 h=>?_;cases dg;refine RT.fieldAddr (.some Y Y) Y T Y<|RT.sW (.some Y Y) Y Y Y T<|lE (F w6) λeU iL w6=>gn Y iL<|lE w6 λfz lj w6=>gg _ Y Y lj ?_;obtain rfl:=O w6;refine pF Y<|mv Y<|bE h λacR uA h=>?_;cases fz;refine RT.fieldAddr (.some Y Y) Y T Y<|RT.sW (.some Y Y) Y Y Y T<|lE (F uA) λiB nm uA=>gg _ Y Y nm ?_;obtain rfl:=O uA;exact pF Y<|dn<|⟨iB,h,wR []⟩;obtain rfl:=O (V uA);exact ww<|ww<|ww<|pT Y<|dn<|⟨true,h,wR []⟩;obtain rfl:=O (V w6);refine ww<|ww<|ww<|ww<|pT Y<|mv Y<|bE h λacS yF h=>?_
 obtain rfl:=O (V yF);exact ww<|ww<|ww<|pT Y<|dn<|⟨true,h,wR []⟩
 try dsimp only
 refine aV.n ?_;cases MM;refine fs<|sr<|fa Y Y<|lV Y Y Y<|lE (F h) λgx m7 h=>ln Y m7<|ag Y<|dn<|sr ?_;obtain⟨⟨⟨Az,FG⟩,⟨FH,FI⟩⟩,sZ,h⟩:=bS h;refine cl (iJ sZ) ⟨Y,aq⟩<|al (cs:=[az false,ax,az false,ax]) (by exact⟨au,aB,au,aB,aq⟩) Y<|so Y Y Y<|dn<|sr<|mv Y<|ld Y Y (.k4 Y Y Y Y)<|fa Y Y<|lV Y Y Y<|bE h λm6 wh h=>cl (mR wh) ⟨Y,Y,aq⟩<|bl (l:=[m6]) (e:=(eS 4 eQ)) (.one Y (.nil)) Y Y Y Y Y Y ?_;refine bI (cs:=[_,_,_,_]) (cs':=[ay gx,slc 1 (List.map (eS 4 eQ) [m6]),.v (.slice none 0 0),.v (.slice none 0 0)]) (.one Y (.one Y (.nil))) ⟨au,au,au,au,aq⟩<|al (cs:=[ay 0,slc 1 (List.map (eS 4 eQ) []),.v (.slice none 0 0),.v (.slice none 0 0)]) (by exact⟨au,aB,au,au,aq⟩) Y<|so Y Y Y<|dn<|bM (oP 6 2 303 24 1 Y Y Y T)<|bM (oP 6 3 304 36 4 Y Y Y T) ?_;refine qq<|sr<|fa Y Y<|lV Y Y Y<|mv Y<|dn<|bE h λe26 acT acU=>?_;refine bJ (λ(Kj:(List (List Qr))×(List Qr))=>AS.cq 76 [(2,.ptr 2 0),(6,.ptr 6 0)] [(6,⟨26,[ai gx,.sv (slc 1 (List.map (eS 4 eQ) [m6])),.row 307,.row 308]⟩),(2,⟨26,[ai 0,.sv (slc 1 (List.map (eS 4 eQ) [])),.sv (slc 1 (List.map (eS 4 eQ) [])),.sv (slc 4 (List.map eQ []))]⟩)] [(307,TR 24 1 (eS 4 eQ) Kj.1),(308,TR 36 4 eQ Kj.2)]) (λKj=>Kj=e26) ?_ (λKj acV=>?_);refine bj ?_
 refine bK acT (λT2=>AS.cq 76 [(1,.ptr 1 0),(2,.ptr 2 0),(4,ai gx),(6,.ptr 6 0),(37,ai bt),(38,ai T2.1)] [(6,⟨26,[ai gx,.sv (slc 1 (List.map (eS 4 eQ) [m6])),.row 307,.row 308]⟩),(2,⟨26,[ai 0,.sv (slc 1 (List.map (eS 4 eQ) [])),.sv (slc 1 (List.map (eS 4 eQ) [])),.sv (slc 4 (List.map eQ []))]⟩),(1,⟨26,[ai bt,.sv (slc 1 (List.map (eS 4 eQ) bp)),.sv (slc 1 (List.map (eS 4 eQ) bD)),.sv (slc 4 (List.map eQ bG))]⟩)] [(307,TR 24 1 (eS 4 eQ) T2.2.1),(308,TR 36 4 eQ T2.2.2)]) (da (λi=>bif Nat.beq i 307 then 303 else bif Nat.beq i 308 then 304 else i) Y Y Y Y Y ⟨.ptr,.ptr,.sv au,.ptr,.sv au,.sv au,aq⟩ ⟨⟨_,Y,⟨.sv au,.sv au,.row Y,.row Y,aq⟩⟩,⟨_,Y,⟨.sv au,.sv au,.sv au,.sv au,aq⟩⟩,⟨_,Y,⟨.sv au,.sv au,.sv au,.sv au,aq⟩⟩,aq⟩ ⟨⟨_,Y,eP.refl _⟩,⟨_,Y,eP.refl _⟩,aq⟩ (λi hi=>by rw[cw (show i≠307 by omega)];rw[cw (show i≠308 by omega)];rfl)) (λT2 y26 G26 h acW acX=>?_);obtain⟨pV,sG,sH⟩:=T2
 try dsimp only
 refine sr<|lE h λqD BM h=>ls _ Y Y BM<|dn<|qq ?_;cases qD;refine cF<|bN<|aV.x<|aV.x<|bw.x<|aV.n ?_;obtain rfl:=O (F h);exact⟨(sG,sH),acX _ Y,wR []⟩;refine cT<|bu<|aV.n<|qq<|bj<|sr<|mv Y<|ag Y<|dn<|sr<|mv Y<|bE (V h) λug Fh h=>RT.oN (n:=4) (e:=eQ) .none Y Y T Y T (by rfl) (by decide) (by exact⟨au,aB,au,aB,aq⟩) Fh<|an (s:=.row _) Y<|dn<|qq<|sr<|mo (s:=.row _) Y<|lE h λBC Hr h=>lL Y Y Hr<|mv Y<|dn<|bE h λe34 acY AD=>?_;refine bJ (λ(pW:(List Qr))=>AS.cq 76 [(1,.ptr 1 0),(2,.ptr 2 0),(4,ai gx),(6,.ptr 6 0),(7,ai pV),(8,.row 42),(37,ai bt),(38,ai pV)] [(6,⟨26,[ai gx,.sv (slc 1 (List.map (eS 4 eQ) [m6])),.row 307,.row 308]⟩),(2,⟨26,[ai 0,.sv (slc 1 (List.map (eS 4 eQ) [])),.sv (slc 1 (List.map (eS 4 eQ) [])),.sv (slc 4 (List.map eQ []))]⟩),(1,⟨26,[ai bt,.sv (slc 1 (List.map (eS 4 eQ) bp)),.sv (slc 1 (List.map (eS 4 eQ) bD)),.sv (slc 4 (List.map eQ bG))]⟩)] [(42,TR 36 4 eQ pW),(307,TR 24 1 (eS 4 eQ) sG),(308,TR 36 4 eQ sH)]) (λpW=>pW=e34) ?_ (λpW acZ=>?_);refine bj ?_
 refine bK acY (λVv=>AS.cq 76 [(1,.ptr 1 0),(2,.ptr 2 0),(4,ai gx),(6,.ptr 6 0),(7,ai pV),(8,.row 42),(37,ai bt),(38,ai pV),(44,ai BC),(45,ai Vv.1)] [(6,⟨26,[ai gx,.sv (slc 1 (List.map (eS 4 eQ) [m6])),.row 307,.row 308]⟩),(2,⟨26,[ai 0,.sv (slc 1 (List.map (eS 4 eQ) [])),.sv (slc 1 (List.map (eS 4 eQ) [])),.sv (slc 4 (List.map eQ []))]⟩),(1,⟨26,[ai bt,.sv (slc 1 (List.map (eS 4 eQ) bp)),.sv (slc 1 (List.map (eS 4 eQ) bD)),.sv (slc 4 (List.map eQ bG))]⟩)] [(42,TR 36 4 eQ Vv.2),(307,TR 24 1 (eS 4 eQ) sG),(308,TR 36 4 eQ sH)]) (wR []) (λVv y34 G34 h ac0 ac1=>?_);obtain⟨AA,AB⟩:=Vv
 try dsimp only
 refine sr<|lE h λqV h46 h=>ls _ Y Y h46<|dn<|qq ?_;cases qV;refine cF<|bN<|aV.x<|aV.x<|bw.x<|aV.n ?_;obtain rfl:=O (F h);exact⟨AB,ac1 _ Y,wR []⟩;refine cT<|bu<|aV.n<|qq<|bj<|sr<|mv Y<|ag Y<|dn<|aW<|mo (s:=.row _) Y<|mv Y<|fa Y Y<|lV Y Y Y<|mv Y<|mv Y ?_;obtain⟨⟨⟨RV,RW⟩,⟨RX,RY⟩⟩,IG,h⟩:=bS (V h);refine cl (CB IG) ⟨Y,Y,Y,aq⟩ ?_;obtain⟨⟨⟨MN,MO⟩,⟨MP,MQ⟩⟩,Tv,h⟩:=bS h;refine cl (rP Tv) ⟨Y,aq⟩<|bE h λQ6 Tt h=>iR Y Y Y Tt<|bE h λl36 Xg h=>sA ⟨⟨MN,MO⟩,⟨MP,MQ⟩⟩ Y Y Y Xg<|RT.done<|bw.n<|aV.n<|aW<|lE h λKL Tu h=>ad _ Y Y Tu<|mv Y<|RT.done ?_;obtain rfl:=O h;exact aV.n ⟨(KL,l36),ac0 _ Y,wR []⟩;subst acZ
 try dsimp only
 refine aV.n<|qq<|bM (cn (i:=42) (E1:=36) (n:=4) (e:=eQ) (l:=pW) Y)<|aW<|fa Y Y<|RT.nh .none (s:=.row _) Y Y Y T<|mv Y<|bl (l:=[pW]) (e:=(eS 4 eQ)) (.one Y (.nil)) Y Y Y Y Y Y<|bE AD λx62 h62 AD=>aR (k:=[pW]) (e:=(eS 4 eQ)) Y Y Y h62<|fa Y Y<|RT.pB (cells:=[_,_,_,_]) .none Y Y Y Y T Y<|dn<|bh mixed<|fa Y Y<|RT.nh .none (s:=.row _) Y Y Y T ?_;refine fa Y Y<|lV Y Y Y<|mv Y ?_;obtain⟨⟨⟨R3,R4⟩,⟨R5,R6⟩⟩,WL,AD⟩:=bS AD;refine cl (CB WL) ⟨Y,Y,Y,aq⟩ ?_;obtain⟨⟨⟨IM,IN⟩,⟨IP,IQ⟩⟩,h70,AD⟩:=bS AD;refine cl (rP h70) ⟨Y,aq⟩<|bl (l:=[⟨⟨IM,IN⟩,⟨IP,IQ⟩⟩]) (e:=eQ) (.agg Y (.nil)) Y Y Y Y Y Y<|bE AD λLV WO AD=>aR (k:=[⟨⟨IM,IN⟩,⟨IP,IQ⟩⟩]) (e:=eQ) Y Y Y WO<|fa Y Y<|RT.pB (cells:=[_,_,_,_]) .none Y Y Y Y T Y ?_;refine RT.done ⟨by kernel_rfl,?_⟩;refine bw.n<|aV.n<|aW<|lE AD λO7 WQ AD=>ad _ Y Y WQ<|mv Y<|RT.done ?_;obtain rfl:=O AD
 exact aV.n ⟨(O7,x62,LV),acW _ Y,da (λi=>bif Nat.beq i 307 then 62 else bif Nat.beq i 308 then 72 else i) Y Y Y Y Y ⟨.ptr,.ptr,.sv au,.ptr,.sv au,.sv au,aq⟩ ⟨⟨_,Y,⟨.sv au,.sv au,.row Y,.row Y,aq⟩⟩,⟨_,Y,⟨.sv au,.sv au,.sv au,.sv au,aq⟩⟩,⟨_,Y,⟨.sv au,.sv au,.sv au,.sv au,aq⟩⟩,aq⟩ ⟨⟨_,Y,eP.refl _⟩,⟨_,Y,eP.refl _⟩,aq⟩ (λi hi=>by rw[cw (show i≠307 by omega)];rw[cw (show i≠308 by omega)];rfl)⟩;subst acV;obtain⟨DK,DL⟩:=Kj
 try dsimp only
 refine aV.n<|qq<|bM (cn (i:=307) (E1:=24) (n:=1) (e:=(eS 4 eQ)) (l:=DK) Y)<|bM (cn (i:=308) (E1:=36) (n:=4) (e:=eQ) (l:=DL) Y)<|aW<|ld Y Y (.k4 Y Y Y Y)<|so Y Y Y<|ag Y<|dn<|bf ?_;obtain rfl:=O acU;exact RZ (.agg Y Y (.k4 Y Y Y Y) Y (.tmp Y (.nil)));refine cT<|sr<|bI (cs:=[_,_,_,_]) (cs':=[ay 0,slc 1 (List.map (eS 4 eQ) []),slc 1 (List.map (eS 4 eQ) []),slc 4 (List.map eQ [])]) (.nil) ⟨au,aB,aB,aB,aq⟩<|so Y Y Y<|ag Y<|dn<|bf<|aV.r ?_;obtain rfl:=O (V h);exact RZ (.agg Y Y (.k4 Y Y Y Y) Y (.tmp Y (.nil)))
theorem BV{x0:Qr}{x1:List Qr}{r:List Qr}(h:mU x0 x1=some r):GW ah 55 [.agg (eQ x0),slc 4 (List.map eQ x1)] (TR 36 4 eQ r):=by
 obtain⟨⟨bt,bp⟩,⟨bD,bG⟩⟩:=x0;refine pH Tryz.func55 Y (af Y) (λdI M vs hvs=>?_);unfold mU at h;refine sr<|bx Y<|ag Y<|dn<|bM (gL 4 304 36 4 Y Y T)<|sr<|mv Y<|lE h λx9 h9 h=>ln Y h9<|bE h λdK fY h=>RT.oN (n:=4) (e:=eQ) .none Y Y T Y T (by rfl) (by decide) (by exact⟨au,aB,au,aB,aq⟩) fY<|an (s:=.row _) Y<|dn<|qq<|sr<|mv Y<|lE h λdg fP h=>ln Y fP<|mv Y<|dn<|bE h λe8 z9 rj=>?_;refine bJ (λ(dW:(List Qr))=>AS.cq 26 [(5,.row 10)] [] [(10,TR 36 4 eQ dW)]) (λdW=>dW=e8) ?_ (λdW Aa=>?_);refine bj ?_;refine bK z9 (λs8=>AS.cq 26 [(2,.ptr 2 0),(5,.row 10),(11,.sv (slc 4 (List.map eQ x1))),(12,ai dg),(13,ai s8.1)] [(2,⟨36,[aj bt,.sv (slc 1 (List.map aX bp)),aj bD,.sv (slc 1 (List.map aX bG))]⟩)] [(10,TR 36 4 eQ s8.2)]) (wR []) (λs8 y8 G8 h Ab Ad=>?_);obtain⟨fR,fS⟩:=s8
 try dsimp only
 refine sr<|lE h λdO jh h=>ls _ Y Y jh<|dn<|qq ?_;cases dO;refine cF<|bN<|aV.x<|aV.x<|bw.x<|aV.n ?_;obtain rfl:=O (F h);exact⟨fS,Ad _ Y,wR []⟩;refine cT<|bu<|aV.n<|qq<|bj<|sr<|mv Y ?_;obtain⟨⟨⟨iQ,iS⟩,⟨rQ,rR⟩⟩,iL,h⟩:=bS (V h);refine ix Y Y iL<|RT.nT (cs:=[_,_,_,_]) .none Y T Y Y<|al (cs:=[az false,ax,az false,ax]) (by exact⟨au,aB,au,aB,aq⟩) Y<|ag Y<|so Y Y Y<|dn<|aW<|mo (s:=.row _) Y<|mv Y<|ld Y Y (.k4 Y Y Y Y)<|ld Y Y (.k4 Y Y Y Y) ?_;obtain⟨⟨⟨n7,n8⟩,⟨n9,oa⟩⟩,nm,h⟩:=bS h;refine cl (rO nm) ⟨Y,Y,aq⟩<|bE h λiC oR h=>iR Y Y Y oR<|bE h λqC lO h=>sA ⟨⟨n7,n8⟩,⟨n9,oa⟩⟩ Y Y Y lO<|RT.done<|bw.n<|aV.n<|aW<|lE h λgU oG h=>ad _ Y Y oG<|mv Y<|RT.done ?_;obtain rfl:=O h;exact aV.n ⟨(gU,qC),Ab _ Y,wR []⟩;subst Aa
 try dsimp only
 refine aV.n<|sr<|mo (s:=.row _) Y<|an (s:=.row _) Y<|dn<|bf ?_;obtain rfl:=O rj;exact⟨.inr Y,_,.tmp Y,Y⟩
theorem BW{x0:Lr}{r:Int×(List (List Qr))×(List (List Qr))×(List Qr)}(h:kD x0=some r):TV ah 48 [.agg (zR x0)] [.s (ay r.1),.s (slc 1 (List.map (eS 4 eQ) r.2.1)),.r (TR 24 1 (eS 4 eQ) r.2.2.1),.r (TR 36 4 eQ r.2.2.2)]:=by
 obtain⟨bt,bp,bD,bG⟩:=x0;refine HC (t:=2) (T:=26) Tryz.func48 Y (af Y) Y Y (λdI M vs hvs=>?_);unfold kD at h;refine sr<|bx Y<|al (cs:=[ay 0,slc 1 (List.map (eS 4 eQ) []),.v (.slice none 0 0),.v (.slice none 0 0)]) (by exact⟨au,aB,au,au,aq⟩) Y<|dn<|bM (oP 2 2 303 24 1 Y Y Y T)<|bM (oP 2 3 304 36 4 Y Y Y T)<|sr ?_;obtain⟨⟨⟨mP,mQ⟩,⟨xb,xd⟩⟩,h4,h⟩:=bS h;refine cl (iJ h4) ⟨Y,aq⟩<|al (cs:=[az false,ax,az false,ax]) (by exact⟨au,aB,au,aB,aq⟩) Y<|so Y Y Y<|dn<|qq<|bh mixed<|fa Y Y<|lV Y Y Y<|ld Y Y (.k4 Y Y Y Y)<|fa Y Y<|lV Y Y Y<|bE h λdK fY h=>cl (DG fY) ⟨Y,Y,aq⟩ ?_;refine ld Y Y (.k4 Y Y Y Y)<|fa Y Y<|lV Y Y Y<|bE h λdO jh h=>cN (BU jh) ⟨Y,Y,aq⟩<|ld Y Y (.k4 Y Y Y Y)<|fa Y Y<|lV Y Y Y<|bE h λfK kR h=>cN (BV kR) ⟨Y,Y,aq⟩<|RT.TY .none (.one Y (.one Y (.row Y Y (.row Y Y (.nil))))) [.val (ay bt),.val (slc 1 (List.map (eS 4 eQ) dK)),.row 14,.row 18] (λ_=>Y) Y ⟨(λ_ _ q_=>One.h _ _ q_),(λ_ _ q_=>One.h _ _ q_),⟨_,Y⟩,⟨_,Y⟩,aq⟩ [14,18] Y Y T ?_;refine RT.ME .none Y Y Y ⟨(λ_ _ q_=>One.h _ _ q_),(λ_ _ q_=>One.h _ _ q_),⟨_,Y⟩,⟨_,Y⟩,aq⟩ Y Y [14,18] Y [ai bt,.sv (slc 1 (List.map (eS 4 eQ) dK)),.row 14,.row 18] Y ?_;refine RT.done ⟨by kernel_rfl,?_⟩;refine aV.n<|bf ?_;obtain rfl:=O h
 exact⟨.inr Y,2,[14,18],Y,Y,⟨Y,Y,aq⟩,by decide⟩
set_option maxHeartbeats 4000000 in
theorem vw{x0:Lr}{x1:List Cn}{r:Lr×Int}(h:jX x0 x1=some r):Pure ah 75 [.agg (zR x0),slc 5 (List.map Q2 x1)] (.yy [.agg (zR r.1),ay r.2]):=by
 obtain⟨bt,bp,bD,bG⟩:=x0;refine aZ Tryz.func75 Y (af Y) (λdI M vs hvs=>?_);unfold jX at h;refine sr<|bx Y<|al (cs:=[ay 0,slc 1 (List.map (eS 4 eQ) []),slc 1 (List.map (eS 4 eQ) []),slc 4 (List.map eQ [])]) (by exact⟨au,aB,aB,aB,aq⟩) Y<|ag Y<|dn<|qq<|qq ?_;refine bC h (λj3=>AS.cq 67 [(1,.sv (slc 5 (List.map Q2 x1))),(2,.ptr 2 0),(4,.ptr 4 0),(22,aj j3)] [(4,⟨26,[ai 0,.sv (slc 1 (List.map (eS 4 eQ) [])),.sv (slc 1 (List.map (eS 4 eQ) [])),.sv (slc 4 (List.map eQ []))]⟩),(2,⟨26,[ai bt,.sv (slc 1 (List.map (eS 4 eQ) bp)),.sv (slc 1 (List.map (eS 4 eQ) bD)),.sv (slc 4 (List.map eQ bG))]⟩)] []) (λh=>?_) (λMS h=>?_);refine aW<|ld Y Y (.k4 Y Y Y Y)<|bE h λdg fP h=>cl (oh fP) ⟨Y,aq⟩<|lE h λjz lf h=>nt Y _ lf<|mv Y<|bE h λMT BX h=>?_;cases jz;refine RT.fieldAddr (.some Y Y) Y T Y<|RT.sW (.some Y Y) Y Y Y T<|lE (F BX) λfz lj BX=>gn Y lj<|gm Y<|lE BX λjU mM BX=>gn Y mM<|lE BX λjw oQ BX=>RT.add (.some Y Y) _ Y Y T oQ<|lE BX λfZ my BX=>gg _ Y Y my ?_;obtain rfl:=O BX;exact pF Y<|dn<|⟨fZ,h,wR []⟩;obtain rfl:=O (V BX);exact ww<|ww<|ww<|ww<|ww<|ww<|ww<|pT Y<|dn<|⟨true,h,wR []⟩
 try dsimp only
 refine aV.n ?_;cases MS;refine fs<|qq<|sr<|mv Y<|lE (F h) λnK qE h=>ln Y qE<|mv Y<|dn<|bE h λe9 hl9 Po=>?_;refine bJ (λ(T6:Unit)=>AS.cq 67 [(1,.sv (slc 5 (List.map Q2 x1))),(2,.ptr 2 0),(4,.ptr 4 0)] [(4,⟨26,[ai 0,.sv (slc 1 (List.map (eS 4 eQ) [])),.sv (slc 1 (List.map (eS 4 eQ) [])),.sv (slc 4 (List.map eQ []))]⟩),(2,⟨26,[ai bt,.sv (slc 1 (List.map (eS 4 eQ) bp)),.sv (slc 1 (List.map (eS 4 eQ) bD)),.sv (slc 4 (List.map eQ bG))]⟩)] []) (λT6=>.inl T6=e9) ?_ (λT6 hx9=>?_);refine bj ?_;refine bK hl9 (λs9=>AS.cq 67 [(1,.sv (slc 5 (List.map Q2 x1))),(2,.ptr 2 0),(4,.ptr 4 0),(24,.sv (slc 5 (List.map Q2 x1))),(25,ai nK),(26,ai s9)] [(4,⟨26,[ai 0,.sv (slc 1 (List.map (eS 4 eQ) [])),.sv (slc 1 (List.map (eS 4 eQ) [])),.sv (slc 4 (List.map eQ []))]⟩),(2,⟨26,[ai bt,.sv (slc 1 (List.map (eS 4 eQ) bp)),.sv (slc 1 (List.map (eS 4 eQ) bD)),.sv (slc 4 (List.map eQ bG))]⟩)] []) (wR []) (λyh y9 G9 h hG9 Xe=>?_)
 try dsimp only
 refine sr<|lE h λgx m7 h=>ls _ Y Y m7<|dn<|qq ?_;cases gx;refine cF<|bN<|aV.x<|aV.x<|bw.x<|aV.n ?_;obtain rfl:=O (F h);exact⟨(),Xe _ Y,wR []⟩;refine cT<|bu<|aV.n<|qq<|bj<|sr ?_;obtain⟨⟨Az,⟨⟨FG,FH⟩,⟨FI,R7⟩⟩⟩,sZ,h⟩:=bS (V h);refine ix Y Y sZ<|RT.nT (cs:=[_,_,_,_,_]) .none Y T Y Y<|al (cs:=[slc 4 (List.map eQ []),az false,ax,az false,ax]) (by exact⟨aB,au,aB,au,aB,aq⟩) Y<|so Y Y Y<|dn<|sr<|fa Y Y<|lV Y Y Y<|lE h λir nn h=>ln Y nn<|fa Y Y<|lV Y Y Y<|lE h λsu BK h=>gt _ Y Y BK ?_;refine dn ?_;cases su;refine cF<|bu<|bw.n<|aV.n<|aW<|lE (F h) λwc Hq h=>ad _ Y Y Hq<|mv Y<|RT.done ?_;obtain rfl:=O h;exact aV.n ⟨wc,hG9 _ Y,wR []⟩;refine cT<|sr<|bI (cs:=[_,_,_,_]) (cs':=[ay 0,slc 1 (List.map (eS 4 eQ) []),slc 1 (List.map (eS 4 eQ) []),slc 4 (List.map eQ [])]) (.nil) ⟨au,aB,aB,aB,aq⟩<|so Y Y Y<|ag Y<|dn<|bf<|bw.r<|aV.r ?_;obtain rfl:=O (V h);have he9:=Xe _ Y;subst he9;refine aV.r<|bw.r<|aV.r<|aV.r ?_;obtain rfl:=O Po;exact RZ (.agg Y Y (.k4 Y Y Y Y) Y (.tmp Y (.nil)));subst hx9
 try dsimp only
 refine aV.n<|sr<|ld Y Y (.k4 Y Y Y Y) ?_;obtain⟨⟨FJ,FK,R8,R9⟩,BM,Po⟩:=bS Po;refine RT.TX .none (BW BM) [303,304] (by decide) Y ⟨⟨Y,T⟩,⟨Y,T⟩,aq⟩ Y ⟨Y,aq⟩ T<|al (cs:=[ay 0,slc 1 (List.map (eS 4 eQ) []),.v (.slice none 0 0),.v (.slice none 0 0)]) (by exact⟨au,aB,au,au,aq⟩) Y<|RT.ME .none Y Y Y ⟨(λ_ _ q_=>One.h _ _ q_),(λ_ _ q_=>One.h _ _ q_),⟨_,Y⟩,⟨_,Y⟩,aq⟩ Y Y [303,304] Y [ai FJ,.sv (slc 1 (List.map (eS 4 eQ) FK)),.row 303,.row 304] Y<|dn<|qq ?_;refine sr<|mv Y<|lE Po λv8 Hp Po=>ln Y Hp<|mv Y<|dn<|bE Po λe15 ac2 ac3=>?_;refine bJ (λ(Kk:(List (List Qr))×(List Qr))=>AS.cq 67 [(4,.ptr 4 0),(8,.ptr 8 0)] [(8,⟨26,[ai FJ,.sv (slc 1 (List.map (eS 4 eQ) FK)),.row 307,.row 308]⟩),(4,⟨26,[ai 0,.sv (slc 1 (List.map (eS 4 eQ) [])),.sv (slc 1 (List.map (eS 4 eQ) [])),.sv (slc 4 (List.map eQ []))]⟩)] [(307,TR 24 1 (eS 4 eQ) Kk.1),(308,TR 36 4 eQ Kk.2)]) (λKk=>Kk=e15) ?_ (λKk ac4=>?_);refine bj ?_
 refine bK ac2 (λT4=>AS.cq 67 [(4,.ptr 4 0),(8,.ptr 8 0),(40,.sv (slc 5 (List.map Q2 x1))),(41,ai v8),(42,ai T4.1)] [(8,⟨26,[ai FJ,.sv (slc 1 (List.map (eS 4 eQ) FK)),.row 307,.row 308]⟩),(4,⟨26,[ai 0,.sv (slc 1 (List.map (eS 4 eQ) [])),.sv (slc 1 (List.map (eS 4 eQ) [])),.sv (slc 4 (List.map eQ []))]⟩)] [(307,TR 24 1 (eS 4 eQ) T4.2.1),(308,TR 36 4 eQ T4.2.2)]) (da (λi=>bif Nat.beq i 307 then 303 else bif Nat.beq i 308 then 304 else i) Y Y Y Y Y ⟨.ptr,.ptr,.sv au,.sv au,.sv au,aq⟩ ⟨⟨_,Y,⟨.sv au,.sv au,.row Y,.row Y,aq⟩⟩,⟨_,Y,⟨.sv au,.sv au,.sv au,.sv au,aq⟩⟩,aq⟩ ⟨⟨_,Y,eP.refl _⟩,⟨_,Y,eP.refl _⟩,aq⟩ (λi hi=>by rw[cw (show i≠307 by omega)];rw[cw (show i≠308 by omega)];rfl)) (λT4 y15 G15 h ac5 ac6=>?_);obtain⟨DM,za,zb⟩:=T4
 try dsimp only
 refine sr<|lE h λCp KN h=>ls _ Y Y KN<|dn<|qq ?_;cases Cp;refine cF<|bN<|aV.x<|aV.x<|bw.x<|aV.n ?_;obtain rfl:=O (F h);exact⟨(za,zb),ac6 _ Y,wR []⟩;refine cT<|bu<|aV.n<|qq<|bj<|sr ?_;obtain⟨⟨Cu,⟨⟨Ff,Sa⟩,⟨Sb,Sc⟩⟩⟩,Hr,h⟩:=bS (V h);refine ix Y Y Hr<|RT.nT (cs:=[_,_,_,_,_]) .none Y T Y Y<|al (cs:=[slc 4 (List.map eQ []),az false,ax,az false,ax]) (by exact⟨aB,au,aB,au,aB,aq⟩) Y<|so Y Y Y<|dn<|qq<|bh mixed<|fa Y Y<|RT.nh .none (s:=.row _) Y Y Y T<|fa Y Y<|lV Y Y Y<|fa Y Y<|lV Y Y Y ?_;refine lE h λyZ Fi h=>ln Y Fi<|bE h λKO Ty h=>cl (BS Ty) ⟨Y,Y,aq⟩<|bl (l:=[KO]) (e:=(eS 4 eQ)) (.one Y (.nil)) Y Y Y Y Y Y<|bE h λJZ Tv h=>aR (k:=[KO]) (e:=(eS 4 eQ)) Y Y Y Tv<|fa Y Y<|RT.pB (cells:=[_,_,_,_]) .none Y Y Y Y T Y ?_;refine RT.done ⟨by kernel_rfl,?_⟩;refine aV.n<|bh mixed<|fa Y Y<|RT.nh .none (s:=.row _) Y Y Y T<|fa Y Y<|ld Y Y (.k4 Y Y Y Y) ?_;obtain⟨⟨⟨IS,IT⟩,⟨IU,IV⟩⟩,WK,h⟩:=bS h;refine cl (iK WK) ⟨Y,aq⟩<|bl (l:=[⟨⟨IS,IT⟩,⟨IU,IV⟩⟩]) (e:=eQ) (.agg Y (.nil)) Y Y Y Y Y Y<|bE h λKM h63 h=>aR (k:=[⟨⟨IS,IT⟩,⟨IU,IV⟩⟩]) (e:=eQ) Y Y Y h63<|fa Y Y<|RT.pB (cells:=[_,_,_,_]) .none Y Y Y Y T Y ?_;refine RT.done ⟨by kernel_rfl,?_⟩;refine bw.n<|aV.n<|aW<|lE h λIE Rg h=>ad _ Y Y Rg<|mv Y<|RT.done ?_
 obtain rfl:=O h;exact aV.n ⟨(IE,JZ,KM),ac5 _ Y,da (λi=>bif Nat.beq i 307 then 55 else bif Nat.beq i 308 then 63 else i) Y Y Y Y Y ⟨.ptr,.ptr,.sv au,.sv au,.sv au,aq⟩ ⟨⟨_,Y,⟨.sv au,.sv au,.row Y,.row Y,aq⟩⟩,⟨_,Y,⟨.sv au,.sv au,.sv au,.sv au,aq⟩⟩,aq⟩ ⟨⟨_,Y,eP.refl _⟩,⟨_,Y,eP.refl _⟩,aq⟩ (λi hi=>by rw[cw (show i≠307 by omega)];rw[cw (show i≠308 by omega)];rfl)⟩;subst ac4;obtain⟨DN,DO⟩:=Kk
 try dsimp only
 refine aV.n<|qq<|bM (cn (i:=307) (E1:=24) (n:=1) (e:=(eS 4 eQ)) (l:=DN) Y)<|bM (cn (i:=308) (E1:=36) (n:=4) (e:=eQ) (l:=DO) Y)<|aW<|ld Y Y (.k4 Y Y Y Y)<|so Y Y Y<|ag Y<|dn<|bf ?_;obtain rfl:=O ac3;exact RZ (.agg Y Y (.k4 Y Y Y Y) Y (.tmp Y (.nil)));refine cT<|sr<|bI (cs:=[_,_,_,_]) (cs':=[ay 0,slc 1 (List.map (eS 4 eQ) []),slc 1 (List.map (eS 4 eQ) []),slc 4 (List.map eQ [])]) (.nil) ⟨au,aB,aB,aB,aq⟩<|so Y Y Y<|ag Y<|dn<|bf<|aV.r ?_;obtain rfl:=O (V h);exact RZ (.agg Y Y (.k4 Y Y Y Y) Y (.tmp Y (.nil)))
theorem tq{x0:Lr}{x1:List Qr}{x2:Qr}{r:Lr×Int}(h:dD x0 x1 x2=some r):Pure ah 28 [.agg (zR x0),slc 4 (List.map eQ x1),.agg (eQ x2)] (.yy [.agg (zR r.1),ay r.2]):=by
 obtain⟨bt,bp,bD,bG⟩:=x0;obtain⟨⟨kS,kT⟩,⟨pO,pP⟩⟩:=x2;refine aZ Tryz.func28 Y (af Y) (λdI M vs hvs=>?_);unfold dD at h;refine sr<|bx Y<|bx Y<|al (cs:=[ay 0,slc 1 (List.map (eS 4 eQ) []),slc 1 (List.map (eS 4 eQ) []),slc 4 (List.map eQ [])]) (by exact⟨au,aB,aB,aB,aq⟩) Y<|ag Y<|dn<|sr<|ld Y Y (.k4 Y Y Y Y)<|mv Y<|ld Y Y (.k4 Y Y Y Y)<|bI (cs:=[_,_,_,_,_]) (cs':=[slc 4 (List.map eQ x1),az kS,slc 1 (List.map aX kT),az pO,slc 1 (List.map aX pP)]) (.one Y (.agg Y (.nil))) ⟨au,au,au,au,au,aq⟩ ?_;refine bl (l:=[⟨x1,⟨⟨kS,kT⟩,⟨pO,pP⟩⟩⟩]) (e:=Q2) (.agg Y (.nil)) Y Y Y Y Y Y ?_;obtain⟨⟨⟨jt,ju,MU,MV⟩,th⟩,lf,h⟩:=bS h;refine cl (vw lf) ⟨Y,Y,aq⟩<|ex Y Y<|ex Y Y<|so Y Y Y<|ag Y<|dn<|bf ?_;obtain rfl:=O h;exact RZ (.agg Y Y (.k4 Y Y Y Y) Y (.tmp Y (.nil)))
theorem vz{x0:Lr}{x1:List Qr}{x2:Qr}{r:Lr×Int}(h:c9 x0 x1 x2=some r):Pure ah 30 [.agg (zR x0),slc 4 (List.map eQ x1),.agg (eQ x2)] (.yy [.agg (zR r.1),ay r.2]):=by
 obtain⟨bt,bp,bD,bG⟩:=x0;obtain⟨⟨kS,kT⟩,⟨pO,pP⟩⟩:=x2;refine aZ Tryz.func30 Y (af Y) (λdI M vs hvs=>?_);unfold c9 at h;refine sr<|bx Y<|bx Y<|al (cs:=[ay 0,slc 1 (List.map (eS 4 eQ) []),slc 1 (List.map (eS 4 eQ) []),slc 4 (List.map eQ [])]) (by exact⟨au,aB,aB,aB,aq⟩) Y<|ag Y<|dn<|qq<|bh mixed ?_;obtain⟨⟨⟨FL,FM⟩,⟨W7,W8⟩⟩,h9,h⟩:=bS h;refine cl (iJ h9) ⟨Y,aq⟩<|mv Y<|bE h λgu mw h=>cl (mR mw) ⟨Y,Y,aq⟩<|ld Y Y (.k4 Y Y Y Y) ?_;obtain⟨⟨⟨z4,z5⟩,⟨IW,IX⟩⟩,lf,h⟩:=bS h;refine cl (rP lf) ⟨Y,aq⟩<|bI (cs:=[_,_,_,_,_]) (cs':=[slc 4 (List.map eQ gu),az z4,slc 1 (List.map aX z5),az IW,slc 1 (List.map aX IX)]) (.one Y (.agg Y (.nil))) ⟨au,au,au,au,au,aq⟩<|al (cs:=[slc 4 (List.map eQ []),az false,ax,az false,ax]) (by exact⟨aB,au,aB,au,aB,aq⟩) Y<|so Y Y Y ?_;refine RT.done ⟨by kernel_rfl,?_⟩;refine aV.n<|sr<|ld Y Y (.k4 Y Y Y Y)<|mv Y<|ld Y Y (.k4 Y Y Y Y)<|bI (cs:=[_,_,_,_,_]) (cs':=[slc 4 (List.map eQ x1),az kS,slc 1 (List.map aX kT),az pO,slc 1 (List.map aX pP)]) (.one Y (.agg Y (.nil))) ⟨au,au,au,au,au,aq⟩<|ld Y Y (.cons Y (.k4 Y Y Y Y)) ?_;refine bl (l:=[⟨x1,⟨⟨kS,kT⟩,⟨pO,pP⟩⟩⟩,⟨gu,⟨⟨z4,z5⟩,⟨IW,IX⟩⟩⟩]) (e:=Q2) (.agg Y (.agg Y (.nil))) Y Y Y Y Y Y ?_;obtain⟨⟨⟨rE,rF,MW,MX⟩,Kh⟩,my,h⟩:=bS h
 refine cl (vw my) ⟨Y,Y,aq⟩<|ex Y Y<|ex Y Y<|so Y Y Y<|ag Y<|dn<|bf ?_;obtain rfl:=O h;exact RZ (.agg Y Y (.k4 Y Y Y Y) Y (.tmp Y (.nil)))
theorem FN{x0:Lr}{x1:Lr}{r:Bool}(h:nx x0 x1=some r):Pure ah 14 [.agg (zR x0),.agg (zR x1)] (az r):=by
 obtain⟨bt,bp,bD,bG⟩:=x0;obtain⟨cc,bY,iv,iw⟩:=x1;refine aZ Tryz.func14 Y (af Y) (λdI M vs hvs=>?_);unfold nx at h;refine sr<|bx Y<|bx Y<|ag Y<|dn<|qq<|qq<|bh mixed<|ld Y Y (.k4 Y Y Y Y) ?_;obtain⟨⟨yM,yN,W9,Xa⟩,h6,h⟩:=bS h;refine cl (oC h6) ⟨Y,aq⟩<|ld Y Y (.k4 Y Y Y Y) ?_;obtain⟨⟨wZ,w5,Xb,Xc⟩,h8,h⟩:=bS h;refine cl (oC h8) ⟨Y,aq⟩<|lE h λx9 h9 h=>RT.TU .none Y Y T h9 ?_;refine RT.done ⟨by kernel_rfl,?_⟩;refine aV.n ?_;cases x9;refine fs<|qq ?_;refine bC (F h) (λj6=>AS.cq 29 [(4,aj j6)] [] []) (λh=>?_) (λXd h=>?_);refine aW<|fa Y Y<|lV Y Y Y<|fa Y Y<|lV Y Y Y<|bE h λdO jh h=>cl (vu jh) ⟨Y,Y,aq⟩<|mv Y<|bE h λSd YG h=>?_;cases dO;obtain rfl:=O (F YG);refine ww<|ww<|ww<|ww<|ww<|pF Y<|mv Y<|bE h λagh hg9 h=>?_;obtain rfl:=O (F hg9);exact ww<|ww<|ww<|ww<|ww<|pF Y<|ag Y<|dn<|⟨false,h,wR []⟩;refine RT.fieldAddr (.some Y Y) Y T Y<|RT.sW (.some Y Y) Y Y Y T<|RT.fieldAddr (.some Y Y) Y T Y<|RT.sW (.some Y Y) Y Y Y T<|bE (V YG) λjw oQ YG=>gc (vu oQ) ⟨Y,Y,aq⟩ ?_;obtain rfl:=O YG;refine pT Y<|mv Y<|bE h λagi Pc h=>?_;cases jw;obtain rfl:=O (F Pc);exact ww<|ww<|ww<|ww<|ww<|pF Y<|ag Y<|dn<|⟨false,h,wR []⟩
 refine RT.fieldAddr (.some Y Y) Y T Y<|RT.sW (.some Y Y) Y Y Y T<|RT.fieldAddr (.some Y Y) Y T Y<|RT.sW (.some Y Y) Y Y Y T<|bE (V Pc) λgx m7 Pc=>gc (jk m7) ⟨Y,Y,aq⟩ ?_;obtain rfl:=O Pc;exact pT Y<|ag Y<|dn<|⟨gx,h,wR []⟩
 try dsimp only
 refine aV.n<|bf ?_;obtain rfl:=O h;exact R1 Y;refine cT<|sr<|ag Y<|dn<|bf<|aV.r ?_;obtain rfl:=O (V h);exact R1 Y
end
section
open Go.Fw
noncomputable def cQ(x0:List Int):Option (List Int):=(some (x0.length:Int)).bind λx5=>(b8 (λ(vA:Int)=>(show Option ((Int)⊕(Int))from cm (λ(HH:Bool)=>(bif HH then(some (IntKind.i64.wrap (vA-1))).bind λfz=>some (.inl fz)else some (.inr vA))) λLK=>(some (decide ((0:Int)<vA))).bind λx7=>(bif x7 then(some (IntKind.i64.wrap (vA-1))).bind λgu=>(cY x0 gu).bind λdg=>(some (decide ((dg:Int)=0))).bind λdO=>some dO else some false).bind λMY=>LK MY)) x5).bind λHI=>(yD x0 0 HI).bind λjw=>some jw
noncomputable def b9(x0:List Nat):Option (List Int):=(b8 (λ(s6:Int×(List Int))=>match s6 with|⟨uF,pX⟩=>(show Option ((Int×(List Int))⊕((List Int)))from(some (x0.length:Int)).bind λx7=>(some (decide ((uF:Int)<x7))).bind λx8=>(bif x8 then(cY x0 uF).bind λdO=>(some (dO%65536)).bind λeU=>(some (IntKind.i64.wrap (eU:Int))).bind λfz=>(cY x0 uF).bind λjw=>(some (jw/65536%4294967296)).bind λiB=>(some (IntKind.i64.wrap (iB:Int))).bind λiC=>(sX 8 pX [fz,iC]).bind λnK=>(some (IntKind.i64.wrap (uF+1))).bind λdK=>some (.inl (dK,nK))else some (.inr pX)))) (0,[])).bind λig=>(cQ ig).bind λgx=>some gx
noncomputable def dG(x0:List Int)(x1:Int):Option (Int):=(some (x0.length:Int)).bind λx7=>(some (decide ((x1:Int)<x7))).bind λx8=>(bif x8 then(cY x0 x1).bind λgu=>some gu else some 0)
noncomputable def dH(x0:Bool)(x1:List Int):Option (Zr):=(cQ x1).bind λx8=>(b8 (λ(s6:Int×(List Nat))=>match s6 with|⟨qF,pX⟩=>(show Option ((Int×(List Nat))⊕((List Nat)))from(some (x8.length:Int)).bind λgu=>(some (decide ((qF:Int)<gu))).bind λdg=>(bif dg then(dG x8 qF).bind λfK=>(some ((fK%4294967296).toNat)).bind λjU=>(some (IntKind.i64.wrap (qF+1))).bind λiB=>(dG x8 iB).bind λiC=>(some ((iC%4294967296).toNat)).bind λgU=>(some ((gU*65536)%4294967296)).bind λnK=>(some ((jU+nK)%4294967296)).bind λmG=>(sX 4 pX [mG]).bind λmm=>(some (IntKind.i64.wrap (qF+2))).bind λdO=>some (.inl (dO,mm))else some (.inr pX)))) (0,[])).bind λig=>cm (λ(MZ:Bool)=>some ⟨MZ,ig⟩) λK9=>(bif x0 then(some (ig.length:Int)).bind λir=>(some (decide ((0:Int)<ir))).bind λm6=>some m6 else some false).bind λM1=>K9 M1
noncomputable def gh(x0:Zr):Option (Zr):=match x0 with|⟨bt,bp⟩=>(b9 bp).bind λx7=>(dH bt x7).bind λ⟨wZ,w5⟩=>some ⟨wZ,w5⟩
noncomputable def fU(x0:Int):Option (Zr):=(some ((x0%18446744073709551616).toNat)).bind λx5=>(some (decide ((x0:Int)<0))).bind λx7=>cm (λ(E6:Nat)=>(some (decide ((x0:Int)<0))).bind λgu=>(some (E6%4294967296)).bind λjz=>(some (jz%4294967296)).bind λdO=>(some (E6/4294967296%18446744073709551616)).bind λeU=>(some (eU%4294967296)).bind λfz=>(gh ⟨gu,[dO,fz]⟩).bind λ⟨Fj,Fk⟩=>some ⟨Fj,Fk⟩) λK2=>(bif x7 then(some (nj 18446744073709551616 0 x5)).bind λx9=>K2 x9 else K2 x5)
noncomputable def jb(x0:List Int)(x1:List Int):Option (Int):=(some (x0.length:Int)).bind λx7=>(some (x1.length:Int)).bind λx9=>(some (max (x7:Int) x9)).bind λdK=>(some (IntKind.i64.wrap (dK-1))).bind λgu=>(b8 (λ(mh:Int)=>(show Option ((Int)⊕((Unit)⊕(Int)))from(some (decide ((0:Int)<=mh))).bind λjz=>(bif jz then(dG x0 mh).bind λfK=>(dG x1 mh).bind λfZ=>(some (decide ((fK:Int)<fZ))).bind λiB=>(bif iB then some (.inr (.inr (-1)))else(dG x0 mh).bind λnK=>(dG x1 mh).bind λmm=>(some (decide ((mm:Int)<nK))).bind λiM=>(bif iM then some (.inr (.inr 1))else(some (IntKind.i64.wrap (mh-1))).bind λeM=>some (.inl eM)))else some (.inr (.inl ()))))) gu).bind λe6=>match e6 with|.inr v6=>some v6|.inl _=>some 0
noncomputable def jY(x0:List Int)(x1:List Int):Option (List Int):=(b8 (λ(M3:Int×Int×(List Int))=>match M3 with|⟨Pp,HJ,AE⟩=>(show Option ((Int×Int×(List Int))⊕((List Int)))from cm (λ(HK:Bool)=>(bif HK then(dG x0 HJ).bind λgx=>(dG x1 HJ).bind λwN=>(some (IntKind.i64.wrap (gx+wN))).bind λql=>(some (IntKind.i64.wrap (ql+Pp))).bind λm6=>(some (Int.tmod m6 65536)).bind λuO=>(sX 8 AE [uO]).bind λxG=>(some (IntKind.i64.wrap (Int.tdiv m6 65536))).bind λmL=>(some (IntKind.i64.wrap (HJ+1))).bind λgU=>some (.inl (mL,gU,xG))else some (.inr AE))) λXh=>(some (x0.length:Int)).bind λgu=>(some (decide ((HJ:Int)<gu))).bind λdg=>(bif dg then some true else(some (x1.length:Int)).bind λeU=>(some (decide ((HJ:Int)<eU))).bind λfz=>some fz).bind λHF=>(bif HF then some true else(some (decide ((0:Int)<Pp))).bind λfZ=>some fZ).bind λT7=>Xh T7)) (0,0,[])).bind λpY=>(cQ pY).bind λug=>some ug
noncomputable def gW(x0:List Int)(x1:List Int):Option (List Int):=(b8 (λ(s8:Int×Int×(List Int))=>match s8 with|⟨E4,Kl,ow⟩=>(show Option ((Int×Int×(List Int))⊕((List Int)))from(some (x0.length:Int)).bind λgu=>(some (decide ((Kl:Int)<gu))).bind λdg=>(bif dg then(dG x0 Kl).bind λfz=>(dG x1 Kl).bind λjw=>(some (IntKind.i64.wrap (fz-jw))).bind λfZ=>(some (IntKind.i64.wrap (fZ-E4))).bind λiC=>(some (decide ((iC:Int)<0))).bind λnK=>cm (λ(Se:Int×Int)=>match Se with|⟨T8,Pq⟩=>(sX 8 ow [Pq]).bind λql=>(some (IntKind.i64.wrap (Kl+1))).bind λdO=>some (.inl (T8,dO,ql))) λYF=>(bif nK then(some (IntKind.i64.wrap (iC+65536))).bind λgx=>YF (1,gx)else YF (0,iC))else some (.inr ow)))) (0,0,[])).bind λoz=>(cQ oz).bind λm6=>some m6
noncomputable def fm(x0:List Int):Option (Int):=(some (x0.length:Int)).bind λx6=>(some (IntKind.i64.wrap (x6-1))).bind λx7=>(b8 (λ(s6:Int×Int)=>match s6 with|⟨lS,uF⟩=>(show Option ((Int×Int)⊕(Int))from(some (decide ((0:Int)<=uF))).bind λx9=>(bif x9 then(some (IntKind.i64.wrap (lS*65536))).bind λjz=>(cY x0 uF).bind λeU=>(some (IntKind.i64.wrap (jz+eU))).bind λfK=>(some (IntKind.i64.wrap (uF-1))).bind λgu=>some (.inl (fK,gu))else some (.inr lS)))) (0,x7)).bind λoS=>some oS
noncomputable def jl(x0:Int):Option (List Int):=(some (Int.tmod x0 65536)).bind λx4=>(some (IntKind.i64.wrap (Int.tdiv x0 65536))).bind λx6=>(some (Int.tmod x6 65536)).bind λx7=>(some (IntKind.i64.wrap (Int.tdiv x0 65536))).bind λx9=>(some (IntKind.i64.wrap (Int.tdiv x9 65536))).bind λdK=>(cQ [x4,x7,dK]).bind λdg=>some dg
noncomputable def fo(x0:List Int)(x1:Int):Option (List Int):=(b8 (λ(Cq:Int×Int×(List Int))=>match Cq with|⟨Pr,M4,AF⟩=>(show Option ((Int×Int×(List Int))⊕((List Int)))from cm (λ(HL:Bool)=>(bif HL then(dG x0 M4).bind λfZ=>(some (IntKind.i64.wrap (fZ*x1))).bind λiC=>(some (IntKind.i64.wrap (iC+Pr))).bind λnK=>(some (Int.tmod nK 65536)).bind λmm=>(sX 8 AF [mm]).bind λwN=>(some (IntKind.i64.wrap (Int.tdiv nK 65536))).bind λir=>(some (IntKind.i64.wrap (M4+1))).bind λfK=>some (.inl (ir,fK,wN))else some (.inr AF))) λLK=>(some (x0.length:Int)).bind λgu=>(some (decide ((M4:Int)<gu))).bind λdg=>(bif dg then some true else(some (decide ((0:Int)<Pr))).bind λeM=>some eM).bind λM5=>LK M5)) (0,0,[])).bind λuG=>(cQ uG).bind λmK=>some mK
noncomputable def jZ(x0:List Int)(x1:List Int):Option ((List Int)×(List Int)):=cm (λ(M6:Bool)=>(bif M6 then(fm x0).bind λiC=>(fm x1).bind λnK=>(qB iC nK).bind λmG=>(jl mG).bind λgx=>(fm x0).bind λiM=>(fm x1).bind λql=>(Bv iM ql).bind λir=>(jl ir).bind λm6=>some (gx,m6)else(some (x0.length:Int)).bind λsu=>(Ce 8 su (0:Int)).bind λuO=>(some (x1.length:Int)).bind λxG=>(some (decide ((xG:Int)=1))).bind λqD=>(bif qD then(some (x0.length:Int)).bind λv8=>(some (IntKind.i64.wrap (v8-1))).bind λug=>(b8 (λ(T9:Int×Int×(List Int))=>match T9 with|⟨IY,FO,AG⟩=>(show Option ((Int×Int×(List Int))⊕(Int×(List Int)))from(some (decide ((0:Int)<=FO))).bind λBC=>(bif BC then(some (IntKind.i64.wrap (IY*65536))).bind λBA=>(cY x0 FO).bind λQ5=>(some (IntKind.i64.wrap (BA+Q5))).bind λKO=>(cY x1 0).bind λVn=>(qB KO Vn).bind λEZ=>(cY x1 0).bind λKM=>(Bv KO KM).bind λIE=>(tB AG FO).bind λQ7=>(stM AG Q7 EZ).bind λl20=>(some (IntKind.i64.wrap (FO-1))).bind λqV=>some (.inl (IE,qV,l20))else some (.inr (IY,AG))))) (0,ug,uO)).bind λe18=>match e18 with|⟨M7,HM⟩=>(cQ HM).bind λVl=>(cQ [M7]).bind λKm=>some (Vl,Km)else(some (x0.length:Int)).bind λx73=>(some (IntKind.i64.wrap (x73-1))).bind λO7=>(b8 (λ(Ua:(List Int)×Int×(List Int))=>match Ua with|⟨FP,pZ,qa⟩=>(show Option (((List Int)×Int×(List Int))⊕((List Int)×(List Int)))from(some (decide ((0:Int)<=pZ))).bind λx76=>(bif x76 then(cY x0 pZ).bind λx81=>(sX 8 [x81] FP).bind λWn=>(cQ Wn).bind λLW=>(some (LW.length:Int)).bind λx88=>(some (x1.length:Int)).bind λWo=>(some (decide ((x88:Int)<Wo))).bind λTl=>cm (λ(M8:Int)=>(b8 (λ(Sf:Int×Int)=>match Sf with|⟨kE,ny⟩=>(show Option ((Int×Int)⊕(Int))from(some (IntKind.i64.wrap (ny-kE))).bind λx94=>(some (decide ((1:Int)<x94))).bind λx95=>(bif x95 then(some (IntKind.i64.wrap (kE+ny))).bind λKn=>(some (IntKind.i64.wrap (Int.tdiv Kn 2))).bind λVw=>(fo x1 Vw).bind λHf=>(jb Hf LW).bind λBD=>(some (decide ((BD:Int)<=0))).bind λuo=>cm (λ(Vx:Int×Int)=>match Vx with|⟨HN,HO⟩=>some (.inl (HN,HO))) λK56=>(bif uo then K56 (Vw,ny)else K56 (kE,Vw))else some (.inr kE)))) (0,M8)).bind λrU=>(fo x1 rU).bind λHg=>(gW LW Hg).bind λFR=>(tB qa pZ).bind λPs=>(stM qa Ps rU).bind λXi=>(some (IntKind.i64.wrap (pZ-1))).bind λM9=>some (.inl (FR,M9,Xi))) λK46=>(bif Tl then K46 1 else K46 65536)else some (.inr (FP,qa))))) ([],O7,uO)).bind λe44=>match e44 with|⟨Sg,HP⟩=>(cQ HP).bind λNa=>some (Na,Sg)))) λK3=>(some (x0.length:Int)).bind λeM=>(some (decide ((eM:Int)<=3))).bind λeU=>(bif eU then(some (x1.length:Int)).bind λjU=>(some (decide ((jU:Int)<=3))).bind λjw=>some jw else some false).bind λNb=>K3 Nb
noncomputable def dQ(x0:Zr):Option (Int):=match x0 with|⟨bt,bp⟩=>(b9 bp).bind λx5=>(some (x5.length:Int)).bind λx6=>(some (decide ((x6:Int)=0))).bind λx7=>(bif x7 then some 0 else(bif bt then some (-1)else some 1))
noncomputable def lW(x0:Zr)(x1:Zr):Option (Int):=match x0 with|⟨bt,bp⟩=>match x1 with|⟨cc,bY⟩=>(dQ ⟨bt,bp⟩).bind λx7=>(dQ ⟨cc,bY⟩).bind λx9=>(some (decide ((x7:Int)≠x9))).bind λdK=>(bif dK then(dQ ⟨bt,bp⟩).bind λdg=>(dQ ⟨cc,bY⟩).bind λdO=>(some (decide ((dg:Int)<dO))).bind λeM=>(bif eM then some (-1)else some 1)else(b9 bp).bind λfK=>(b9 bY).bind λfZ=>(jb fK fZ).bind λiB=>(dQ ⟨bt,bp⟩).bind λgU=>(some (decide ((gU:Int)<0))).bind λnK=>(bif nK then(some (IntKind.i64.wrap (0-iB))).bind λgx=>some gx else some iB))
noncomputable def lX(x0:Zr):Option (Zr):=match x0 with|⟨bt,bp⟩=>(some (!bt)).bind λx5=>(b9 bp).bind λx8=>(dH x5 x8).bind λ⟨FL,FM⟩=>some ⟨FL,FM⟩
noncomputable def lY(x0:Zr):Option (Zr):=match x0 with|⟨bt,bp⟩=>(b9 bp).bind λx5=>(dH false x5).bind λ⟨yM,yN⟩=>some ⟨yM,yN⟩
noncomputable def j0(x0:Zr)(x1:Zr):Option (Zr×Zr×Int):=match x0 with|⟨bt,bp⟩=>match x1 with|⟨cc,bY⟩=>(b9 bp).bind λjz=>(b9 bY).bind λeU=>(some (eU.length:Int)).bind λfK=>(some (decide ((fK:Int)=0))).bind λjU=>(bif jU then some (⟨false,[]⟩,⟨false,[]⟩,7)else(jZ jz eU).bind λ⟨z7,Dr⟩=>cm (λ(j3:Bool×Bool)=>match j3 with|⟨Nc,ur⟩=>cm (λ(j5:(List Int)×(List Int))=>match j5 with|⟨LZ,Fa⟩=>(some (!(ur==cc))).bind λGG=>(dH GG LZ).bind λ⟨E7,E8⟩=>(dH false Fa).bind λ⟨Fb,Fe⟩=>some (⟨E7,E8⟩,⟨Fb,Fe⟩,0)) λK5=>(bif Nc then(jY z7 [1]).bind λwc=>(gW eU Dr).bind λmL=>K5 (wc,mL)else K5 (z7,Dr))) λK3=>(bif bt then(some (Dr.length:Int)).bind λir=>(some (decide ((0:Int)<ir))).bind λm6=>some m6 else some false).bind λSh=>K3 (Sh,bt))
noncomputable def lZ(x0:Zr)(x1:Zr):Option (Zr):=match x0 with|⟨bt,bp⟩=>match x1 with|⟨cc,bY⟩=>(b9 bp).bind λgu=>(b9 bY).bind λdO=>(b8 (λ(s6:(List Int)×(List Int))=>match s6 with|⟨mh,qF⟩=>(show Option (((List Int)×(List Int))⊕((List Int)))from(some (qF.length:Int)).bind λeU=>(some (decide ((0:Int)<eU))).bind λfz=>(bif fz then(jZ mh qF).bind λ⟨adf,Kh⟩=>some (.inl (qF,Kh))else some (.inr mh)))) (gu,dO)).bind λtg=>(dH false tg).bind λ⟨vi,tH⟩=>some ⟨vi,tH⟩
end
section
open Go.Fw Go.Fw.Z Go.RowKit
theorem dL{x0:List Int}{r:List Int}(h:cQ x0=some r):Pure ah 144 [slc 1 (List.map bL x0)] (slc 1 (List.map bL r)):=by
 refine aZ Tryz.func144 Y (af Y) (λdI M vs hvs=>?_);unfold cQ at h;refine sr<|aI Y (aB (n:=1) (e:=bL))<|dn<|sr<|mv Y<|lE h λx5 h5 h=>ln Y h5<|ag Y<|dn<|qq<|bE h λL4 Dt sY=>?_;refine bJ (λ(HI:Int)=>AS.cq 21 [(0,.sv (slc 1 (List.map bL x0))),(3,ai HI)] [] []) (λHI=>HI=L4) ?_ (λHI Du=>?_);refine bj ?_;refine bK Dt (λCq=>AS.cq 21 [(0,.sv (slc 1 (List.map bL x0))),(3,ai Cq)] [] []) (wR []) (λvA YA YB h Dv z8=>?_)
 try dsimp only
 refine qq<|qq ?_;refine bC h (λL5=>AS.cq 21 [(0,.sv (slc 1 (List.map bL x0))),(3,ai vA),(15,aj L5)] [] []) (λh=>?_) (λHH h=>?_);refine aW<|mv Y<|lE h λx7 h7 h=>gt _ Y Y h7<|mv Y<|bE h λMY eW h=>?_;cases x7;obtain rfl:=O (F eW);exact ww<|ww<|ww<|ww<|ww<|ww<|pF Y<|dn<|⟨false,h,wR []⟩;refine gm Y<|gm Y<|lE (V eW) λgu mw eW=>RT.sub (.some Y Y) _ Y Y T mw<|bE eW λdg fP eW=>RT.Q3 (.some Y Y) Y Y T fP<|gr Y Y<|lE eW λdO jh eW=>Co _ Y Y (o9 (p:=dg) (q:=0) jh) ?_;obtain rfl:=O eW;exact pT Y<|dn<|⟨dO,h,wR []⟩
 try dsimp only
 refine aV.n ?_;cases HH;refine cF<|bN<|aV.x<|aV.x<|bw.x<|aV.n ?_;obtain rfl:=O (F h);exact⟨vA,z8 _ Y,wR []⟩;refine cT<|bu<|aV.n<|bj<|aW<|mv Y<|lE (V h) λfz lj h=>sb _ Y Y lj<|ag Y<|RT.done<|bw.n ?_;obtain rfl:=O h;exact aV.n ⟨fz,Dv _ Y,wR []⟩;subst Du
 try dsimp only
 refine aV.n<|sr<|mv Y<|mv Y<|bE sY λjw oQ sY=>RT.wK .none 0 HI Y Y ⟨_,Y⟩ T oQ<|ag Y<|dn<|bf ?_;obtain rfl:=O sY;exact R1 Y
theorem cX{x0:List Nat}{r:List Int}(h:b9 x0=some r):Pure ah 119 [slc 1 (List.map aX x0)] (slc 1 (List.map bL r)):=by
 refine aZ Tryz.func119 Y (af Y) (λdI M vs hvs=>?_);unfold b9 at h;refine sr<|aI Y (aB (n:=1) (e:=bL))<|dn<|sr<|ag Y<|dn<|bM (gL 3 304 3 1 Y Y T)<|qq<|sr<|ag Y<|dn<|bE h λe6 BG jW=>?_;refine bJ (λ(ig:(List Int))=>AS.cq 28 [(3,.row 306)] [] [(306,TR 3 1 bL ig)]) (λig=>ig=e6) ?_ (λig BH=>?_);refine bj ?_;refine bK BG (λs6=>AS.cq 28 [(0,.sv (slc 1 (List.map aX x0))),(3,.row 306),(4,ai s6.1)] [] [(306,TR 3 1 bL s6.2)]) (da (λi=>bif Nat.beq i 306 then 304 else i) Y Y Y Y Y ⟨.sv au,.row Y,.sv au,aq⟩ trivial ⟨⟨_,Y,eP.refl _⟩,aq⟩ (λi hi=>by rw[cw (show i≠306 by omega)];rfl)) (λs6 y6 G6 h BI wU=>?_);obtain⟨uF,pX⟩:=s6
 try dsimp only
 refine qq<|sr<|mv Y<|mv Y<|lE h λx7 h7 h=>ln Y h7<|lE h λx8 h8 h=>ls _ Y Y h8<|dn ?_;cases x8;refine cF<|bN<|aV.x<|aV.x<|bw.x<|aV.n ?_;obtain rfl:=O (F h);exact⟨pX,wU _ Y,wR []⟩;refine cT<|bu<|aV.n<|qq<|bj<|bh mixed<|mo (s:=.row _) Y<|mv Y<|mv Y<|bE (V h) λdO jh h=>ix Y Y jh<|lr Y Y<|lE h λeU iL h=>RT.rem .none _ Y Y T (by decide) (Q1 (a:=dO) (b:=65536) iL)<|lE h λfz lj h=>cv _ Y lj<|mv Y<|mv Y<|bE h λjw oQ h=>ix Y Y oQ<|lr Y Y<|lE h λiB nm h=>RT.quo .none _ Y Y T (by decide) (UK.V4 (a:=jw) (b:=65536) nm) ?_;refine lE h λiC oR h=>cv _ Y oR<|bl (l:=[fz,iC]) (e:=bL) (.one Y (.one Y (.nil))) Y Y Y Y Y Y<|bE h λnK qE h=>aR (k:=[fz,iC]) (e:=bL) Y Y Y qE<|an (s:=.row _) Y ?_;refine RT.done ⟨by kernel_rfl,?_⟩;refine bw.n<|aV.n<|aW<|mv Y<|lE h λdK fY h=>ad _ Y Y fY<|ag Y<|RT.done ?_;obtain rfl:=O h;exact aV.n ⟨(dK,nK),BI _ Y,da (λi=>bif Nat.beq i 306 then 25 else i) Y Y Y Y Y ⟨.sv au,.row Y,.sv au,aq⟩ trivial ⟨⟨_,Y,eP.refl _⟩,aq⟩ (λi hi=>by rw[cw (show i≠306 by omega)];rfl)⟩;subst BH
 try dsimp only
 refine aV.n<|qq<|bM (cn (i:=306) (E1:=3) (n:=1) (e:=bL) (l:=ig) Y)<|aW<|mv Y<|bE jW λgx m7 jW=>cl (dL m7) ⟨Y,aq⟩<|ag Y<|dn<|bf ?_;obtain rfl:=O jW;exact R1 Y
theorem eI{x0:List Int}{x1:Int}{r:Int}(h:dG x0 x1=some r):Pure ah 145 [slc 1 (List.map bL x0),ay x1] (ay r):=by
 refine aZ Tryz.func145 Y (af Y) (λdI M vs hvs=>?_);unfold dG at h;refine sr<|ag Y<|dn<|qq<|sr<|mv Y<|mv Y<|lE h λx7 h7 h=>ln Y h7<|lE h λx8 h8 h=>ls _ Y Y h8<|dn ?_;cases x8;refine fs<|sr<|ag Y<|dn<|bf ?_;obtain rfl:=O (F h);exact R1 Y;refine cT<|sr<|mv Y<|mv Y<|bE (V h) λgu mw h=>ix Y Y mw<|lr Y Y<|ag Y<|dn<|bf<|aV.r ?_;obtain rfl:=O h;exact R1 Y
theorem j1{x0:Bool}{x1:List Int}{r:Zr}(h:dH x0 x1=some r):Pure ah 118 [az x0,slc 1 (List.map bL x1)] (.agg (eZ r)):=by
 refine aZ Tryz.func118 Y (af Y) (λdI M vs hvs=>?_);unfold dH at h;refine sr<|al (cs:=[az false,ax]) (by exact⟨au,aB,aq⟩) Y<|dn<|sr<|mv Y<|bE h λx8 h8 h=>cl (dL h8) ⟨Y,aq⟩<|ag Y<|dn<|sr<|ag Y<|dn<|bM (gL 5 304 106 1 Y Y T)<|qq<|sr<|ag Y<|dn<|bE h λe6 BG jW=>?_;refine bJ (λ(ig:(List Nat))=>AS.cq 37 [(0,aj x0),(4,.ptr 4 0),(5,.row 306)] [(4,⟨34,[aj false,.sv ax]⟩)] [(306,TR 106 1 aX ig)]) (λig=>ig=e6) ?_ (λig BH=>?_);refine bj ?_;refine bK BG (λs6=>AS.cq 37 [(0,aj x0),(1,.sv (slc 1 (List.map bL x8))),(4,.ptr 4 0),(5,.row 306),(6,ai s6.1)] [(4,⟨34,[aj false,.sv ax]⟩)] [(306,TR 106 1 aX s6.2)]) (da (λi=>bif Nat.beq i 306 then 304 else i) Y Y Y Y Y ⟨.sv au,.sv au,.ptr,.row Y,.sv au,aq⟩ ⟨⟨_,Y,⟨.sv au,.sv au,aq⟩⟩,aq⟩ ⟨⟨_,Y,eP.refl _⟩,aq⟩ (λi hi=>by rw[cw (show i≠306 by omega)];rfl)) (λs6 y6 G6 h BI wU=>?_);obtain⟨qF,pX⟩:=s6
 try dsimp only
 refine qq<|sr<|mv Y<|mv Y<|lE h λgu mw h=>ln Y mw<|lE h λdg fP h=>ls _ Y Y fP<|dn ?_;cases dg;refine cF<|bN<|aV.x<|aV.x<|bw.x<|aV.n ?_;obtain rfl:=O (F h);exact⟨pX,wU _ Y,wR []⟩;refine cT<|bu<|aV.n<|qq<|bj<|aW<|mo (s:=.row _) Y<|mv Y<|mv Y<|bE (V h) λfK kR h=>cl (eI kR) ⟨Y,Y,aq⟩<|lE h λjU mM h=>cv _ Y (UK.conv mM)<|mv Y<|mv Y<|lE h λiB nm h=>ad _ Y Y nm<|bE h λiC oR h=>cl (eI oR) ⟨Y,Y,aq⟩<|lE h λgU oG h=>cv _ Y (UK.conv oG)<|lE h λnK qE h=>RT.mul .none _ Y Y T (UK.mul (a:=gU) (b:=65536) qE) ?_;refine lE h λmG uu h=>ad _ Y Y (UK.add (a:=jU) (b:=nK) uu)<|bl (l:=[mG]) (e:=aX) (.one Y (.nil)) Y Y Y Y Y Y<|bE h λmm sZ h=>aR (k:=[mG]) (e:=aX) Y Y Y sZ<|an (s:=.row _) Y<|RT.done<|bw.n<|aV.n<|aW<|mv Y<|lE h λdO jh h=>ad _ Y Y jh<|ag Y<|RT.done ?_;obtain rfl:=O h;exact aV.n ⟨(dO,mm),BI _ Y,da (λi=>bif Nat.beq i 306 then 28 else i) Y Y Y Y Y ⟨.sv au,.sv au,.ptr,.row Y,.sv au,aq⟩ ⟨⟨_,Y,⟨.sv au,.sv au,aq⟩⟩,aq⟩ ⟨⟨_,Y,eP.refl _⟩,aq⟩ (λi hi=>by rw[cw (show i≠306 by omega)];rfl)⟩;subst BH
 try dsimp only
 refine aV.n<|qq ?_;refine bC jW (λj9=>AS.cq 37 [(4,.ptr 4 0)] [(4,⟨34,[aj j9,.sv (slc 1 (List.map aX ig))]⟩)] []) (λjW=>?_) (λMZ jW=>?_);refine bM (cn (i:=306) (E1:=106) (n:=1) (e:=aX) (l:=ig) Y)<|aW<|mv Y<|mv Y<|bE jW λM1 Ko jW=>?_;cases x0;obtain rfl:=O (F Ko);exact ww<|ww<|ww<|pF Y<|mv Y<|bI (cs:=[_,_]) (cs':=[az false,slc 1 (List.map aX ig)]) (.one Y (.one Y (.nil))) ⟨au,au,aq⟩<|so Y Y Y<|dn<|⟨false,jW,wR []⟩;refine gm Y<|lE (V Ko) λir nn Ko=>gn Y nn<|lE Ko λm6 wh Ko=>gg _ Y Y wh ?_;obtain rfl:=O Ko;exact pT Y<|mv Y<|bI (cs:=[_,_]) (cs':=[az m6,slc 1 (List.map aX ig)]) (.one Y (.one Y (.nil))) ⟨au,au,aq⟩<|so Y Y Y<|dn<|⟨m6,jW,wR []⟩
 try dsimp only
 refine aV.n<|bf ?_;obtain rfl:=O jW;exact RZ (.agg Y Y (.k2 Y Y) Y (.nil))
theorem rW{x0:Zr}{r:Zr}(h:gh x0=some r):Pure ah 89 [.agg (eZ x0)] (.agg (eZ r)):=by
 obtain⟨bt,bp⟩:=x0;refine aZ Tryz.func89 Y (af Y) (λdI M vs hvs=>?_);unfold gh at h;refine sr<|bx Y<|al (cs:=[az false,ax]) (by exact⟨au,aB,aq⟩) Y<|dn<|qq<|bh mixed<|fa Y Y<|lV Y Y Y<|fa Y Y<|lV Y Y Y<|bE h λx7 h7 h=>cl (cX h7) ⟨Y,aq⟩ ?_;obtain⟨⟨wZ,w5⟩,h8,h⟩:=bS h;refine cl (j1 h8) ⟨Y,Y,aq⟩<|so Y Y Y ?_;refine RT.done ⟨by kernel_rfl,?_⟩;refine aV.n<|bf ?_;obtain rfl:=O h;exact RZ (.agg Y Y (.k2 Y Y) Y (.nil))
theorem lF{x0:Int}{r:Zr}(h:fU x0=some r):Pure ah 49 [ay x0] (.agg (eZ r)):=by
 refine aZ Tryz.func49 Y (af Y) (λdI M vs hvs=>?_);unfold fU at h;refine sr<|al (cs:=[az false,ax]) (by exact⟨au,aB,aq⟩) Y<|dn<|sr<|mv Y<|lE h λx5 h5 h=>cv _ Y (UK.conv h5)<|ag Y<|dn<|qq<|sr<|mv Y<|lE h λx7 h7 h=>ls _ Y Y h7<|dn ?_;refine bC h (λj2=>AS.cq 21 [(0,ai x0),(2,.ptr 2 0),(3,.sv (.v (.int .u64 ((j2:Nat):Int))))] [(2,⟨34,[aj false,.sv ax]⟩)] []) (λh=>?_) (λE6 h=>?_);cases x7;exact fs<|⟨x5,(F h),wR []⟩;exact cT<|aW<|mv Y<|lE (V h) λx9 h9 h=>RT.neg .none _ Y T (UK.neg h9)<|ag Y<|dn<|⟨x9,h,wR []⟩
 try dsimp only
 refine aV.n<|sr<|mv Y<|lE h λgu mw h=>ls _ Y Y mw<|mv Y<|lE h λjz lf h=>RT.rem .none _ Y Y T (by decide) (Q1 (a:=E6) (b:=4294967296) lf)<|lE h λdO jh h=>cv _ Y (UK.nat jh)<|mv Y<|lE h λeU iL h=>RT.quo .none _ Y Y T (by decide) (UK.V4 (a:=E6) (b:=4294967296) iL)<|lE h λfz lj h=>cv _ Y (UK.nat lj)<|bl (l:=[dO,fz]) (e:=aX) (.one Y (.one Y (.nil))) Y Y Y Y Y Y<|bI (cs:=[_,_]) (cs':=[az gu,slc 1 (List.map aX [dO,fz])]) (.one Y (.one Y (.nil))) ⟨au,au,aq⟩ ?_;obtain⟨⟨Fj,Fk⟩,oQ,h⟩:=bS h;refine cl (rW oQ) ⟨Y,aq⟩<|so Y Y Y<|dn<|bf ?_;obtain rfl:=O h;exact RZ (.agg Y Y (.k2 Y Y) Y (.nil))
end
section
open Go.Fw Go.Fw.Z Go.RowKit
theorem vB{x0:List Int}{x1:List Int}{r:Int}(h:jb x0 x1=some r):Pure ah 154 [slc 1 (List.map bL x0),slc 1 (List.map bL x1)] (ay r):=by
 refine aZ Tryz.func154 Y (af Y) (λdI M vs hvs=>?_);unfold jb at h;refine sr<|ag Y<|dn<|qq<|sr<|mv Y<|lE h λx7 h7 h=>ln Y h7<|mv Y<|lE h λx9 h9 h=>ln Y h9<|lE h λdK fY h=>RT.max .none _ Y Y T (OV (p:=x7) (q:=x9) fY)<|lE h λgu mw h=>sb _ Y Y mw<|ag Y<|dn<|bE h λe6 BG jW=>?_;refine bJ (λ(Hl:Unit)=>AS.cq 30 [] [] []) (λHl=>.inl Hl=e6) ?_ (λHl BH=>?_);refine bj ?_;refine bK BG (λs6=>AS.cq 30 [(0,.sv (slc 1 (List.map bL x0))),(1,.sv (slc 1 (List.map bL x1))),(5,ai s6)] [] []) (wR []) (λmh y6 G6 h BI wU=>?_)
 try dsimp only
 refine qq<|sr<|mv Y<|lE h λjz lf h=>ge _ Y Y lf<|dn ?_;cases jz;refine cF<|bN<|aV.x<|aV.x<|bw.x<|aV.n ?_;obtain rfl:=O (F h);exact⟨(),wU _ Y,wR []⟩;refine cT<|bu<|aV.n<|qq<|bj<|qq<|sr<|mv Y<|mv Y<|bE (V h) λfK kR h=>cl (eI kR) ⟨Y,Y,aq⟩<|mv Y<|mv Y<|bE h λfZ my h=>cl (eI my) ⟨Y,Y,aq⟩<|lE h λiB nm h=>ls _ Y Y nm<|dn ?_;cases iB;refine fs<|sr<|mv Y<|mv Y<|bE (F h) λnK qE h=>cl (eI qE) ⟨Y,Y,aq⟩<|mv Y<|mv Y<|bE h λmm sZ h=>cl (eI sZ) ⟨Y,Y,aq⟩<|lE h λiM nL h=>gt _ Y Y nL<|dn ?_;cases iM;refine cF<|bu<|bw.n<|aV.n<|aW<|mv Y<|lE (F h) λeM jL h=>sb _ Y Y jL<|ag Y<|RT.done ?_;obtain rfl:=O h;exact aV.n ⟨eM,BI _ Y,wR []⟩;refine cT<|sr<|ag Y<|dn<|bf<|bw.r<|aV.r ?_;obtain rfl:=O (V h);have L6:=wU _ Y;subst L6;refine aV.r<|bw.r<|aV.r<|aV.r ?_;obtain rfl:=O jW;exact R1 Y;refine cT<|sr<|ag Y<|dn<|bf<|aV.r<|bw.r<|aV.r ?_;obtain rfl:=O (V h);have L6:=wU _ Y;subst L6;refine aV.r<|bw.r<|aV.r<|aV.r ?_;obtain rfl:=O jW;exact R1 Y;subst BH
 try dsimp only
 refine aV.n<|sr<|ag Y<|dn<|bf ?_;obtain rfl:=O jW;exact R1 Y
theorem DP{x0:List Int}{x1:List Int}{r:List Int}(h:jY x0 x1=some r):Pure ah 152 [slc 1 (List.map bL x0),slc 1 (List.map bL x1)] (slc 1 (List.map bL r)):=by
 refine aZ Tryz.func152 Y (af Y) (λdI M vs hvs=>?_);unfold jY at h;refine sr<|aI Y (aB (n:=1) (e:=bL))<|dn<|sr<|ag Y<|dn<|bM (gL 5 304 3 1 Y Y T)<|sr<|ag Y<|dn<|qq<|sr<|ag Y<|dn<|bE h λPt HQ DQ=>?_;refine bJ (λ(pY:(List Int))=>AS.cq 43 [(5,.row 306)] [] [(306,TR 3 1 bL pY)]) (λpY=>pY=Pt) ?_ (λpY DR=>?_);refine bj ?_;refine bK HQ (λM3=>AS.cq 43 [(0,.sv (slc 1 (List.map bL x0))),(1,.sv (slc 1 (List.map bL x1))),(5,.row 306),(6,ai M3.1),(7,ai M3.2.1)] [] [(306,TR 3 1 bL M3.2.2)]) (da (λi=>bif Nat.beq i 306 then 304 else i) Y Y Y Y Y ⟨.sv au,.sv au,.row Y,.sv au,.sv au,aq⟩ trivial ⟨⟨_,Y,eP.refl _⟩,aq⟩ (λi hi=>by rw[cw (show i≠306 by omega)];rfl)) (λM3 y16 G16 h Nd HR=>?_);obtain⟨Pp,HJ,AE⟩:=M3
 try dsimp only
 refine qq<|qq ?_;refine bC h (λXj=>AS.cq 43 [(0,.sv (slc 1 (List.map bL x0))),(1,.sv (slc 1 (List.map bL x1))),(5,.row 306),(6,ai Pp),(7,ai HJ),(22,aj Xj)] [] [(306,TR 3 1 bL AE)]) (λh=>?_) (λHK h=>?_);refine aW<|mv Y<|mv Y<|lE h λgu mw h=>ln Y mw<|lE h λdg fP h=>ls _ Y Y fP<|mv Y<|bE h λHF lU h=>?_;cases dg;refine gm Y<|gm Y<|lE (F lU) λeU iL lU=>gn Y iL<|lE lU λfz lj lU=>RT.lss (.some Y Y) _ Y Y T lj ?_;obtain rfl:=O lU;refine pF Y<|mv Y<|bE h λadg nO h=>?_;cases fz;refine gm Y<|lE (F nO) λfZ my nO=>gg _ Y Y my ?_;obtain rfl:=O nO;exact pF Y<|dn<|⟨fZ,h,wR []⟩;obtain rfl:=O (V nO);exact ww<|ww<|pT Y<|dn<|⟨true,h,wR []⟩;obtain rfl:=O (V lU);refine ww<|ww<|ww<|ww<|pT Y<|mv Y<|bE h λadh Nf h=>?_;obtain rfl:=O (V Nf);exact ww<|ww<|pT Y<|dn<|⟨true,h,wR []⟩
 try dsimp only
 refine aV.n ?_;cases HK;refine cF<|bN<|aV.x<|aV.x<|bw.x<|aV.n ?_;obtain rfl:=O (F h);exact⟨AE,HR _ Y,wR []⟩;refine cT<|bu<|aV.n<|qq<|bj<|sr<|mv Y<|mv Y<|bE (V h) λgx m7 h=>cl (eI m7) ⟨Y,Y,aq⟩<|mv Y<|mv Y<|bE h λwN BJ h=>cl (eI BJ) ⟨Y,Y,aq⟩<|lE h λql Bm h=>ad _ Y Y Bm<|mv Y<|lE h λm6 wh h=>ad _ Y Y wh<|ag Y<|dn<|sr<|mo (s:=.row _) Y<|mv Y<|lE h λuO yE h=>?_;refine RT.rem .none _ Y Y T (by decide) yE<|bl (l:=[uO]) (e:=bL) (.one Y (.nil)) Y Y Y Y Y Y<|bE h λxG Ho h=>aR (k:=[uO]) (e:=bL) Y Y Y Ho<|an (s:=.row _) Y<|dn<|aW<|mv Y<|lE h λmL tK h=>RT.quo .none _ Y Y T (by decide) tK<|ag Y<|RT.done<|bw.n<|aV.n<|aW<|mv Y<|lE h λgU oG h=>ad _ Y Y oG<|ag Y<|RT.done ?_;obtain rfl:=O h;exact aV.n ⟨(mL,gU,xG),Nd _ Y,da (λi=>bif Nat.beq i 306 then 38 else i) Y Y Y Y Y ⟨.sv au,.sv au,.row Y,.sv au,.sv au,aq⟩ trivial ⟨⟨_,Y,eP.refl _⟩,aq⟩ (λi hi=>by rw[cw (show i≠306 by omega)];rfl)⟩;subst DR
 try dsimp only
 refine aV.n<|qq<|bM (cn (i:=306) (E1:=3) (n:=1) (e:=bL) (l:=pY) Y)<|aW<|mv Y<|bE DQ λug Fh DQ=>cl (dL Fh) ⟨Y,aq⟩<|ag Y<|dn<|bf ?_;obtain rfl:=O DQ;exact R1 Y
theorem vC{x0:List Int}{x1:List Int}{r:List Int}(h:gW x0 x1=some r):Pure ah 153 [slc 1 (List.map bL x0),slc 1 (List.map bL x1)] (slc 1 (List.map bL r)):=by
 refine aZ Tryz.func153 Y (af Y) (λdI M vs hvs=>?_);unfold gW at h;refine sr<|aI Y (aB (n:=1) (e:=bL))<|dn<|sr<|ag Y<|dn<|bM (gL 5 304 3 1 Y Y T)<|sr<|ag Y<|dn<|qq<|sr<|ag Y<|dn<|bE h λe8 z9 rj=>?_;refine bJ (λ(oz:(List Int))=>AS.cq 34 [(5,.row 306)] [] [(306,TR 3 1 bL oz)]) (λoz=>oz=e8) ?_ (λoz Aa=>?_);refine bj ?_;refine bK z9 (λs8=>AS.cq 34 [(0,.sv (slc 1 (List.map bL x0))),(1,.sv (slc 1 (List.map bL x1))),(5,.row 306),(6,ai s8.1),(7,ai s8.2.1)] [] [(306,TR 3 1 bL s8.2.2)]) (da (λi=>bif Nat.beq i 306 then 304 else i) Y Y Y Y Y ⟨.sv au,.sv au,.row Y,.sv au,.sv au,aq⟩ trivial ⟨⟨_,Y,eP.refl _⟩,aq⟩ (λi hi=>by rw[cw (show i≠306 by omega)];rfl)) (λs8 y8 G8 h Ab Ad=>?_);obtain⟨E4,Kl,ow⟩:=s8
 try dsimp only
 refine qq<|sr<|mv Y<|mv Y<|lE h λgu mw h=>ln Y mw<|lE h λdg fP h=>ls _ Y Y fP<|dn ?_;cases dg;refine cF<|bN<|aV.x<|aV.x<|bw.x<|aV.n ?_;obtain rfl:=O (F h);exact⟨ow,Ad _ Y,wR []⟩;refine cT<|bu<|aV.n<|qq<|bj<|sr<|mv Y<|mv Y<|bE (V h) λfz lj h=>cl (eI lj) ⟨Y,Y,aq⟩<|mv Y<|mv Y<|bE h λjw oQ h=>cl (eI oQ) ⟨Y,Y,aq⟩<|lE h λfZ my h=>sb _ Y Y my<|mv Y<|lE h λiC oR h=>sb _ Y Y oR<|ag Y<|dn<|sr<|ag Y<|dn<|qq<|sr<|mv Y<|lE h λnK qE h=>?_;refine ls _ Y Y qE<|dn ?_;refine bC h (λSe=>AS.cq 34 [(0,.sv (slc 1 (List.map bL x0))),(1,.sv (slc 1 (List.map bL x1))),(5,.row 306),(6,ai Se.1),(7,ai Kl),(8,ai Se.2)] [] [(306,TR 3 1 bL ow)]) (λh=>?_) (λSe h=>?_);cases nK;exact fs<|⟨(0,iC),(F h),wR []⟩;exact cT<|sr<|mv Y<|lE (V h) λgx m7 h=>ad _ Y Y m7<|ag Y<|dn<|aW<|ag Y<|dn<|⟨(1,gx),h,wR []⟩;obtain⟨T8,Pq⟩:=Se
 try dsimp only
 refine aV.n<|aW<|mo (s:=.row _) Y<|mv Y<|bl (l:=[Pq]) (e:=bL) (.one Y (.nil)) Y Y Y Y Y Y<|bE h λql Bm h=>aR (k:=[Pq]) (e:=bL) Y Y Y Bm<|an (s:=.row _) Y<|RT.done<|bw.n<|aV.n<|aW<|mv Y<|lE h λdO jh h=>ad _ Y Y jh<|ag Y<|RT.done ?_;obtain rfl:=O h;exact aV.n ⟨(T8,dO,ql),Ab _ Y,da (λi=>bif Nat.beq i 306 then 31 else i) Y Y Y Y Y ⟨.sv au,.sv au,.row Y,.sv au,.sv au,aq⟩ trivial ⟨⟨_,Y,eP.refl _⟩,aq⟩ (λi hi=>by rw[cw (show i≠306 by omega)];rfl)⟩;subst Aa
 try dsimp only
 refine aV.n<|qq<|bM (cn (i:=306) (E1:=3) (n:=1) (e:=bL) (l:=oz) Y)<|aW<|mv Y<|bE rj λm6 wh rj=>cl (dL wh) ⟨Y,aq⟩<|ag Y<|dn<|bf ?_;obtain rfl:=O rj;exact R1 Y
theorem kF{x0:List Int}{r:Int}(h:fm x0=some r):Pure ah 162 [slc 1 (List.map bL x0)] (ay r):=by
 refine aZ Tryz.func162 Y (af Y) (λdI M vs hvs=>?_);unfold fm at h;refine sr<|ag Y<|dn<|sr<|ag Y<|dn<|qq<|sr<|mv Y<|lE h λx6 h6 h=>ln Y h6<|lE h λx7 h7 h=>sb _ Y Y h7<|ag Y<|dn<|bE h λe6 BG jW=>?_;refine bJ (λ(oS:Int)=>AS.cq 20 [(3,ai oS)] [] []) (λoS=>oS=e6) ?_ (λoS BH=>?_);refine bj ?_;refine bK BG (λs6=>AS.cq 20 [(0,.sv (slc 1 (List.map bL x0))),(3,ai s6.1),(4,ai s6.2)] [] []) (wR []) (λs6 y6 G6 h BI wU=>?_);obtain⟨lS,uF⟩:=s6
 try dsimp only
 refine qq<|sr<|mv Y<|lE h λx9 h9 h=>ge _ Y Y h9<|dn ?_;cases x9;refine cF<|bN<|aV.x<|aV.x<|bw.x<|aV.n ?_;obtain rfl:=O (F h);exact⟨lS,wU _ Y,wR []⟩;refine cT<|bu<|aV.n<|qq<|bj<|aW<|mv Y<|lE (V h) λjz lf h=>RT.mul .none _ Y Y T lf<|mv Y<|mv Y<|bE h λeU iL h=>ix Y Y iL<|lr Y Y<|lE h λfK kR h=>ad _ Y Y kR<|ag Y<|RT.done<|bw.n<|aV.n<|aW<|mv Y<|lE h λgu mw h=>sb _ Y Y mw<|ag Y<|RT.done ?_;obtain rfl:=O h;exact aV.n ⟨(fK,gu),BI _ Y,wR []⟩;subst BH
 try dsimp only
 refine aV.n<|sr<|mv Y<|ag Y<|dn<|bf ?_;obtain rfl:=O jW;exact R1 Y
theorem tO{x0:Int}{r:List Int}(h:jl x0=some r):Pure ah 161 [ay x0] (slc 1 (List.map bL r)):=by
 refine aZ Tryz.func161 Y (af Y) (λdI M vs hvs=>?_);unfold jl at h;refine sr<|aI Y (aB (n:=1) (e:=bL))<|dn<|sr<|mv Y<|lE h λx4 h4 h=>RT.rem .none _ Y Y T (by decide) h4<|mv Y<|lE h λx6 h6 h=>RT.quo .none _ Y Y T (by decide) h6<|lE h λx7 h7 h=>RT.rem .none _ Y Y T (by decide) h7<|mv Y<|lE h λx9 h9 h=>RT.quo .none _ Y Y T (by decide) h9<|lE h λdK fY h=>RT.quo .none _ Y Y T (by decide) fY<|bl (l:=[x4,x7,dK]) (e:=bL) (.one Y (.one Y (.one Y (.nil)))) Y Y Y Y Y Y ?_;refine bE h λdg fP h=>cl (dL fP) ⟨Y,aq⟩<|ag Y<|dn<|bf ?_;obtain rfl:=O h;exact R1 Y
theorem rX{x0:List Int}{x1:Int}{r:List Int}(h:fo x0 x1=some r):Pure ah 163 [slc 1 (List.map bL x0),ay x1] (slc 1 (List.map bL r)):=by
 refine aZ Tryz.func163 Y (af Y) (λdI M vs hvs=>?_);unfold fo at h;refine sr<|aI Y (aB (n:=1) (e:=bL))<|dn<|sr<|ag Y<|dn<|bM (gL 5 304 3 1 Y Y T)<|sr<|ag Y<|dn<|qq<|sr<|ag Y<|dn<|bE h λL4 Dt sY=>?_;refine bJ (λ(uG:(List Int))=>AS.cq 35 [(5,.row 306)] [] [(306,TR 3 1 bL uG)]) (λuG=>uG=L4) ?_ (λuG Du=>?_);refine bj ?_;refine bK Dt (λCq=>AS.cq 35 [(0,.sv (slc 1 (List.map bL x0))),(1,ai x1),(5,.row 306),(6,ai Cq.1),(7,ai Cq.2.1)] [] [(306,TR 3 1 bL Cq.2.2)]) (da (λi=>bif Nat.beq i 306 then 304 else i) Y Y Y Y Y ⟨.sv au,.sv au,.row Y,.sv au,.sv au,aq⟩ trivial ⟨⟨_,Y,eP.refl _⟩,aq⟩ (λi hi=>by rw[cw (show i≠306 by omega)];rfl)) (λCq YA YB h Dv z8=>?_);obtain⟨Pr,M4,AF⟩:=Cq
 try dsimp only
 refine qq<|qq ?_;refine bC h (λL5=>AS.cq 35 [(0,.sv (slc 1 (List.map bL x0))),(1,ai x1),(5,.row 306),(6,ai Pr),(7,ai M4),(16,aj L5)] [] [(306,TR 3 1 bL AF)]) (λh=>?_) (λHL h=>?_);refine aW<|mv Y<|mv Y<|lE h λgu mw h=>ln Y mw<|lE h λdg fP h=>ls _ Y Y fP<|mv Y<|bE h λM5 eW h=>?_;cases dg;refine gm Y<|lE (F eW) λeM jL eW=>gg _ Y Y jL ?_;obtain rfl:=O eW;exact pF Y<|dn<|⟨eM,h,wR []⟩;obtain rfl:=O (V eW);exact ww<|ww<|pT Y<|dn<|⟨true,h,wR []⟩
 try dsimp only
 refine aV.n ?_;cases HL;refine cF<|bN<|aV.x<|aV.x<|bw.x<|aV.n ?_;obtain rfl:=O (F h);exact⟨AF,z8 _ Y,wR []⟩;refine cT<|bu<|aV.n<|qq<|bj<|sr<|mv Y<|mv Y<|bE (V h) λfZ my h=>cl (eI my) ⟨Y,Y,aq⟩<|mv Y<|lE h λiC oR h=>RT.mul .none _ Y Y T oR<|mv Y<|lE h λnK qE h=>ad _ Y Y qE<|ag Y<|dn<|sr<|mo (s:=.row _) Y<|mv Y<|lE h λmm sZ h=>RT.rem .none _ Y Y T (by decide) sZ<|bl (l:=[mm]) (e:=bL) (.one Y (.nil)) Y Y Y Y Y Y ?_;refine bE h λwN BJ h=>aR (k:=[mm]) (e:=bL) Y Y Y BJ<|an (s:=.row _) Y<|dn<|aW<|mv Y<|lE h λir nn h=>RT.quo .none _ Y Y T (by decide) nn<|ag Y<|RT.done<|bw.n<|aV.n<|aW<|mv Y<|lE h λfK kR h=>ad _ Y Y kR<|ag Y<|RT.done ?_;obtain rfl:=O h;exact aV.n ⟨(ir,fK,wN),Dv _ Y,da (λi=>bif Nat.beq i 306 then 30 else i) Y Y Y Y Y ⟨.sv au,.sv au,.row Y,.sv au,.sv au,aq⟩ trivial ⟨⟨_,Y,eP.refl _⟩,aq⟩ (λi hi=>by rw[cw (show i≠306 by omega)];rfl)⟩;subst Du
 try dsimp only
 refine aV.n<|qq<|bM (cn (i:=306) (E1:=3) (n:=1) (e:=bL) (l:=uG) Y)<|aW<|mv Y<|bE sY λmK ri sY=>cl (dL ri) ⟨Y,aq⟩<|ag Y<|dn<|bf ?_;obtain rfl:=O sY;exact R1 Y
set_option maxHeartbeats 4000000 in
theorem vD{x0:List Int}{x1:List Int}{r:(List Int)×(List Int)}(h:jZ x0 x1=some r):Pure ah 151 [slc 1 (List.map bL x0),slc 1 (List.map bL x1)] (.yy [slc 1 (List.map bL r.1),slc 1 (List.map bL r.2)]):=by
 refine aZ Tryz.func151 Y (af Y) (λdI M vs hvs=>?_);unfold jZ at h;refine sr<|aI Y (aB (n:=1) (e:=bL))<|aI Y (aB (n:=1) (e:=bL))<|dn<|qq<|qq ?_;refine bC h (λj3=>AS.cq 120 [(0,.sv (slc 1 (List.map bL x0))),(1,.sv (slc 1 (List.map bL x1))),(21,aj j3)] [] []) (λh=>?_) (λM6 h=>?_);refine aW<|mv Y<|lE h λeM jL h=>ln Y jL<|lE h λeU iL h=>RT.leq .none _ Y Y T iL<|mv Y<|bE h λNb FU h=>?_;cases eU;obtain rfl:=O (F FU);exact ww<|ww<|ww<|pF Y<|dn<|⟨false,h,wR []⟩;refine gm Y<|lE (V FU) λjU mM FU=>gn Y mM<|lE FU λjw oQ FU=>RT.leq (.some Y Y) _ Y Y T oQ ?_;obtain rfl:=O FU;exact pT Y<|dn<|⟨jw,h,wR []⟩
 try dsimp only
 refine aV.n ?_;cases M6;refine fs<|sr<|mv Y<|lE (F h) λsu BK h=>ln Y BK<|bE h λuO yE h=>RT.oN (n:=1) (e:=bL) .none Y Y T Y T (by rfl) (by decide) (by exact⟨au,aq⟩) yE<|an (s:=.row _) Y<|dn<|qq<|sr<|mv Y<|lE h λxG Ho h=>ln Y Ho<|lE h λqD BM h=>eq _ Y Y (o9 (p:=xG) (q:=1) BM)<|dn ?_;cases qD;refine fs<|sr<|aI Y (aB (n:=1) (e:=bL))<|dn<|qq<|sr<|mv Y<|lE (F h) λx73 h73 h=>ln Y h73<|lE h λO7 WQ h=>sb _ Y Y WQ<|ag Y<|dn<|bE h λe44 adi Ub=>?_;refine bJ (λ(Kp:(List Int)×(List Int))=>AS.cq 120 [(6,.row 36),(9,.sv (slc 1 (List.map bL Kp.1)))] [] [(36,TR 3 1 bL Kp.2)]) (λKp=>Kp=e44) ?_ (λKp adj=>?_);refine bj ?_;refine bK adi (λUa=>AS.cq 120 [(0,.sv (slc 1 (List.map bL x0))),(1,.sv (slc 1 (List.map bL x1))),(6,.row 36),(9,.sv (slc 1 (List.map bL Ua.1))),(10,ai Ua.2.1)] [] [(36,TR 3 1 bL Ua.2.2)]) (wR []) (λUa y44 G44 h adk adl=>?_);obtain⟨FP,pZ,qa⟩:=Ua
 try dsimp only
 refine qq<|sr<|mv Y<|lE h λx76 h76 h=>ge _ Y Y h76<|dn ?_;cases x76;refine cF<|bN<|aV.x<|aV.x<|bw.x<|aV.n ?_;obtain rfl:=O (F h);exact⟨(FP,qa),adl _ Y,wR []⟩;refine cT<|bu<|aV.n<|qq<|bj<|sr<|mv Y<|mv Y<|bE (V h) λx81 h81 h=>ix Y Y h81<|lr Y Y<|RT.De (l:=[x81]) (e:=bL) .none (.one Y (.nil)) T Y T Y Y Y Y Y Y<|mv Y<|bE h λWn h85 h=>RT.OY (k:=FP) (e:=bL) .none Y Y Y T Y T h85<|bE h λLW h86 h=>cl (dL h86) ⟨Y,aq⟩<|ag Y<|dn<|sr<|ag Y<|ag Y ?_;refine dn<|qq<|sr<|mv Y<|lE h λx88 h88 h=>ln Y h88<|mv Y<|lE h λWo h90 h=>ln Y h90<|lE h λTl h91 h=>ls _ Y Y h91<|dn ?_;refine bC h (λj46=>AS.cq 120 [(0,.sv (slc 1 (List.map bL x0))),(1,.sv (slc 1 (List.map bL x1))),(6,.row 36),(9,.sv (slc 1 (List.map bL LW))),(10,ai pZ),(11,ai 0),(12,ai j46)] [] [(36,TR 3 1 bL qa)]) (λh=>?_) (λM8 h=>?_);cases Tl;exact fs<|⟨65536,(F h),wR []⟩;exact cT<|aW<|ag Y<|dn<|⟨1,(V h),wR []⟩
 try dsimp only
 refine aV.n<|qq<|bE h λe54 adm AH=>?_;refine bJ (λ(rU:Int)=>AS.cq 120 [(0,.sv (slc 1 (List.map bL x0))),(1,.sv (slc 1 (List.map bL x1))),(6,.row 36),(9,.sv (slc 1 (List.map bL LW))),(10,ai pZ),(11,ai rU)] [] [(36,TR 3 1 bL qa)]) (λrU=>rU=e54) ?_ (λrU adn=>?_);refine bj ?_;refine bK adm (λSf=>AS.cq 120 [(0,.sv (slc 1 (List.map bL x0))),(1,.sv (slc 1 (List.map bL x1))),(6,.row 36),(9,.sv (slc 1 (List.map bL LW))),(10,ai pZ),(11,ai Sf.1),(12,ai Sf.2)] [] [(36,TR 3 1 bL qa)]) (wR []) (λSf y54 G54 h ado adp=>?_);obtain⟨kE,ny⟩:=Sf
 try dsimp only
 refine qq<|sr<|mv Y<|mv Y<|lE h λx94 h94 h=>sb _ Y Y h94<|lE h λx95 h95 h=>gt _ Y Y h95<|dn ?_;cases x95;refine cF<|bN<|aV.x<|aV.x<|bw.x<|aV.n ?_;obtain rfl:=O (F h);exact⟨kE,adp _ Y,wR []⟩;refine cT<|bu<|aV.n<|bj<|sr<|mv Y<|mv Y<|lE (V h) λKn h98 h=>ad _ Y Y h98<|lE h λVw h99 h=>RT.quo .none _ Y Y T (by decide) h99<|ag Y<|dn<|sr<|mv Y<|mv Y<|bE h λHf Tz h=>cl (rX Tz) ⟨Y,Y,aq⟩<|mv Y<|bE h λBD Mb h=>cl (vB Mb) ⟨Y,Y,aq⟩<|lE h λuo Mc h=>RT.leq .none _ Y Y T Mc<|dn ?_;refine bC h (λVx=>AS.cq 120 [(0,.sv (slc 1 (List.map bL x0))),(1,.sv (slc 1 (List.map bL x1))),(6,.row 36),(9,.sv (slc 1 (List.map bL LW))),(10,ai pZ),(11,ai Vx.1),(12,ai Vx.2)] [] [(36,TR 3 1 bL qa)]) (λh=>?_) (λVx h=>?_);cases uo;exact cF<|aW<|mv Y<|ag Y<|dn<|⟨(kE,Vw),(F h),wR []⟩;exact cT<|aW<|mv Y<|ag Y<|dn<|⟨(Vw,ny),(V h),wR []⟩;obtain⟨HN,HO⟩:=Vx
 try dsimp only
 refine bw.n ?_;obtain rfl:=O h;exact aV.n ⟨(HN,HO),ado _ Y,wR []⟩;subst adn
 try dsimp only
 refine aV.n<|aW<|mo (s:=.row _) Y<|mv Y<|mv Y<|mv Y<|mv Y<|mv Y<|bE AH λHg TC AH=>cl (rX TC) ⟨Y,Y,aq⟩<|bE AH λFR Uc AH=>cl (vC Uc) ⟨Y,Y,aq⟩<|bE AH λPs adr AH=>iR Y Y Y adr<|bE AH λXi Xk AH=>sR rU Y Y Y Y Xk<|ag Y<|RT.done<|bw.n<|aV.n<|aW<|mv Y<|lE AH λM9 Ud AH=>?_;refine sb _ Y Y Ud<|ag Y<|RT.done ?_;obtain rfl:=O AH;exact aV.n ⟨(FR,M9,Xi),adk _ Y,wR []⟩;subst adj;obtain⟨Sg,HP⟩:=Kp
 try dsimp only
 refine aV.n<|qq<|bM (cn (i:=36) (E1:=3) (n:=1) (e:=bL) (l:=HP) Y)<|aW<|mv Y<|bE Ub λNa Ue Ub=>cl (dL Ue) ⟨Y,aq⟩<|mv Y<|ag Y<|ag Y<|dn<|bf ?_;obtain rfl:=O Ub;exact R2 Y Y;refine cT<|sr<|ag Y<|dn<|qq<|sr<|mv Y<|lE (V h) λv8 Hp h=>ln Y Hp<|lE h λug Fh h=>sb _ Y Y Fh<|ag Y<|dn<|bE h λe18 ads Ng=>?_;refine bJ (λ(Kq:Int×(List Int))=>AS.cq 120 [(6,.row 36),(7,ai Kq.1)] [] [(36,TR 3 1 bL Kq.2)]) (λKq=>Kq=e18) ?_ (λKq adt=>?_);refine bj ?_;refine bK ads (λT9=>AS.cq 120 [(0,.sv (slc 1 (List.map bL x0))),(1,.sv (slc 1 (List.map bL x1))),(6,.row 36),(7,ai T9.1),(8,ai T9.2.1)] [] [(36,TR 3 1 bL T9.2.2)]) (wR []) (λT9 y18 G18 h adu adv=>?_);obtain⟨IY,FO,AG⟩:=T9
 try dsimp only
 refine qq<|sr<|mv Y<|lE h λBC Hr h=>ge _ Y Y Hr<|dn ?_;cases BC;refine cF<|bN<|aV.x<|aV.x<|bw.x<|aV.n ?_;obtain rfl:=O (F h);exact⟨(IY,AG),adv _ Y,wR []⟩;refine cT<|bu<|aV.n<|qq<|bj<|sr<|mv Y<|lE (V h) λBA h48 h=>RT.mul .none _ Y Y T h48<|mv Y<|mv Y<|bE h λQ5 Pb h=>ix Y Y Pb<|lr Y Y<|lE h λKO Ty h=>ad _ Y Y Ty<|ag Y<|dn<|bh mixed<|mo (s:=.row _) Y<|mv Y<|mv Y<|mv Y<|bE h λVn h58 h=>ix Y Y h58<|lr Y Y<|bE h λEZ Ov h=>?_;refine RT.quo .none _ Y Y T (V5 Ov) (Lz Ov)<|mv Y<|mv Y<|bE h λKM h63 h=>ix Y Y h63<|lr Y Y<|bE h λIE Rg h=>RT.rem .none _ Y Y T (S4 Rg) (S5 Rg)<|bE h λQ7 h66 h=>iR Y Y Y h66<|bE h λl20 Xl h=>sR EZ Y Y Y Y Xl<|ag Y ?_;refine RT.done ⟨by kernel_rfl,?_⟩;refine bw.n<|aV.n<|aW<|mv Y<|lE h λqV h46 h=>sb _ Y Y h46<|ag Y<|RT.done ?_;obtain rfl:=O h;exact aV.n ⟨(IE,qV,l20),adu _ Y,wR []⟩;subst adt;obtain⟨M7,HM⟩:=Kq
 try dsimp only
 refine aV.n<|qq<|bM (cn (i:=36) (E1:=3) (n:=1) (e:=bL) (l:=HM) Y)<|aW<|mv Y<|bE Ng λVl h68 Ng=>cl (dL h68) ⟨Y,aq⟩<|mv Y<|bl (l:=[M7]) (e:=bL) (.one Y (.nil)) Y Y Y Y Y Y<|bE Ng λKm Pu Ng=>cl (dL Pu) ⟨Y,aq⟩<|ag Y<|ag Y<|dn<|bf<|aV.r ?_;obtain rfl:=O Ng;exact R2 Y Y;refine cT<|sr<|mv Y<|bE (V h) λiC oR h=>cl (kF oR) ⟨Y,aq⟩<|mv Y<|bE h λnK qE h=>cl (kF qE) ⟨Y,aq⟩<|bE h λmG uu h=>RT.quo .none _ Y Y T (V5 uu) (Lz uu)<|bE h λgx m7 h=>cl (tO m7) ⟨Y,aq⟩<|mv Y<|bE h λiM nL h=>cl (kF nL) ⟨Y,aq⟩<|mv Y<|bE h λql Bm h=>cl (kF Bm) ⟨Y,aq⟩ ?_;refine bE h λir nn h=>RT.rem .none _ Y Y T (S4 nn) (S5 nn)<|bE h λm6 wh h=>cl (tO wh) ⟨Y,aq⟩<|ag Y<|ag Y<|dn<|bf<|aV.r ?_;obtain rfl:=O h;exact R2 Y Y
end
section
open Go.Fw Go.Fw.Z Go.RowKit
theorem gi{x0:Zr}{r:Int}(h:dQ x0=some r):Pure ah 138 [.agg (eZ x0)] (ay r):=by
 obtain⟨bt,bp⟩:=x0;refine aZ Tryz.func138 Y (af Y) (λdI M vs hvs=>?_);unfold dQ at h;refine sr<|bx Y<|ag Y<|dn<|qq<|sr<|fa Y Y<|lV Y Y Y<|bE h λx5 h5 h=>cl (cX h5) ⟨Y,aq⟩<|lE h λx6 h6 h=>ln Y h6<|lE h λx7 h7 h=>eq _ Y Y (o9 (p:=x6) (q:=0) h7)<|dn ?_;cases x7;refine fs<|qq<|sr<|fa Y Y<|lV Y Y Y<|dn ?_;replace h:=F h;cases bt;refine fs<|sr<|ag Y<|dn<|bf ?_;obtain rfl:=O (F h);exact R1 Y;refine cT<|sr<|ag Y<|dn<|bf<|aV.r ?_;obtain rfl:=O (V h);exact R1 Y;refine cT<|sr<|ag Y<|dn<|bf<|aV.r ?_;obtain rfl:=O (V h);exact R1 Y
theorem DS{x0:Zr}{x1:Zr}{r:Int}(h:lW x0 x1=some r):Pure ah 136 [.agg (eZ x0),.agg (eZ x1)] (ay r):=by
 obtain⟨bt,bp⟩:=x0;obtain⟨cc,bY⟩:=x1;refine aZ Tryz.func136 Y (af Y) (λdI M vs hvs=>?_);unfold lW at h;refine sr<|bx Y<|bx Y<|ag Y<|dn<|qq<|qq<|bh mixed<|ld Y Y (.k2 Y Y)<|bE h λx7 h7 h=>cl (gi h7) ⟨Y,aq⟩<|ld Y Y (.k2 Y Y)<|bE h λx9 h9 h=>cl (gi h9) ⟨Y,aq⟩<|lE h λdK fY h=>ne _ Y Y (yV (p:=x7) (q:=x9) fY) ?_;refine RT.done ⟨by kernel_rfl,?_⟩;refine aV.n ?_;cases dK;refine fs<|qq<|bh mixed<|fa Y Y<|lV Y Y Y<|bE (F h) λfK kR h=>cl (cX kR) ⟨Y,aq⟩<|fa Y Y<|lV Y Y Y<|bE h λfZ my h=>cl (cX my) ⟨Y,aq⟩<|bE h λiB nm h=>cl (vB nm) ⟨Y,Y,aq⟩<|ag Y ?_;refine RT.done ⟨by kernel_rfl,?_⟩;refine aV.n<|qq<|sr<|ld Y Y (.k2 Y Y)<|bE h λgU oG h=>cl (gi oG) ⟨Y,aq⟩<|lE h λnK qE h=>ls _ Y Y qE<|dn ?_;cases nK;refine fs<|sr<|mv Y<|ag Y<|dn<|bf ?_;obtain rfl:=O (F h);exact R1 Y;refine cT<|sr<|mv Y<|lE (V h) λgx m7 h=>RT.neg .none _ Y T m7<|ag Y<|dn<|bf<|aV.r ?_;obtain rfl:=O h;exact R1 Y;refine cT<|qq<|qq<|bh mixed<|ld Y Y (.k2 Y Y)<|bE (V h) λdg fP h=>cl (gi fP) ⟨Y,aq⟩<|ld Y Y (.k2 Y Y)<|bE h λdO jh h=>cl (gi jh) ⟨Y,aq⟩<|lE h λeM jL h=>ls _ Y Y jL ?_;refine RT.done ⟨by kernel_rfl,?_⟩;refine aV.n ?_;cases eM;refine fs<|sr<|ag Y<|dn<|bf<|aV.r ?_;obtain rfl:=O (F h);exact R1 Y
 refine cT<|sr<|ag Y<|dn<|bf<|aV.r<|aV.r ?_;obtain rfl:=O (V h);exact R1 Y
theorem DT{x0:Zr}{r:Zr}(h:lX x0=some r):Pure ah 107 [.agg (eZ x0)] (.agg (eZ r)):=by
 obtain⟨bt,bp⟩:=x0;refine aZ Tryz.func107 Y (af Y) (λdI M vs hvs=>?_);unfold lX at h;refine sr<|bx Y<|al (cs:=[az false,ax]) (by exact⟨au,aB,aq⟩) Y<|dn<|qq<|bh mixed<|fa Y Y<|lV Y Y Y<|lE h λx5 h5 h=>nt Y _ h5<|fa Y Y<|lV Y Y Y<|bE h λx8 h8 h=>cl (cX h8) ⟨Y,aq⟩ ?_;obtain⟨⟨FL,FM⟩,h9,h⟩:=bS h;refine cl (j1 h9) ⟨Y,Y,aq⟩<|so Y Y Y ?_;refine RT.done ⟨by kernel_rfl,?_⟩;refine aV.n<|bf ?_;obtain rfl:=O h;exact RZ (.agg Y Y (.k2 Y Y) Y (.nil))
theorem DU{x0:Zr}{r:Zr}(h:lY x0=some r):Pure ah 139 [.agg (eZ x0)] (.agg (eZ r)):=by
 obtain⟨bt,bp⟩:=x0;refine aZ Tryz.func139 Y (af Y) (λdI M vs hvs=>?_);unfold lY at h;refine sr<|bx Y<|al (cs:=[az false,ax]) (by exact⟨au,aB,aq⟩) Y<|dn<|sr<|fa Y Y<|lV Y Y Y<|bE h λx5 h5 h=>cl (cX h5) ⟨Y,aq⟩ ?_;obtain⟨⟨yM,yN⟩,h6,h⟩:=bS h;refine cl (j1 h6) ⟨Y,Y,aq⟩<|so Y Y Y<|dn<|bf ?_;obtain rfl:=O h;exact RZ (.agg Y Y (.k2 Y Y) Y (.nil))
theorem vE{x0:Zr}{x1:Zr}{r:Zr×Zr×Int}(h:j0 x0 x1=some r):Pure ah 135 [.agg (eZ x0),.agg (eZ x1)] (.yy [.agg (eZ r.1),.agg (eZ r.2.1),ay r.2.2]):=by
 obtain⟨bt,bp⟩:=x0;obtain⟨cc,bY⟩:=x1;refine aZ Tryz.func135 Y (af Y) (λdI M vs hvs=>?_);unfold j0 at h;refine sr<|bx Y<|bx Y<|al (cs:=[az false,ax]) (by exact⟨au,aB,aq⟩) Y<|al (cs:=[az false,ax]) (by exact⟨au,aB,aq⟩) Y<|ag Y<|dn<|qq<|bh mixed<|fa Y Y<|lV Y Y Y<|bE h λjz lf h=>cl (cX lf) ⟨Y,aq⟩<|fa Y Y ?_;refine lV Y Y Y<|bE h λeU iL h=>cl (cX iL) ⟨Y,aq⟩<|ag Y<|ag Y ?_;refine RT.done ⟨by kernel_rfl,?_⟩;refine aV.n<|qq<|sr<|mv Y<|lE h λfK kR h=>ln Y kR<|lE h λjU mM h=>eq _ Y Y (o9 (p:=fK) (q:=0) mM)<|dn ?_;cases jU;refine fs<|sr<|mv Y<|mv Y ?_;obtain⟨⟨z7,Dr⟩,qE,h⟩:=bS (F h);refine cl (vD qE) ⟨Y,Y,aq⟩<|mv Y<|ex Y Y<|ex Y Y<|ag Y<|ag Y<|dn<|qq<|qq ?_;refine bC h (λj3=>AS.cq 50 [(2,.ptr 2 0),(3,.ptr 3 0),(4,.ptr 4 0),(5,.ptr 5 0),(8,.sv (slc 1 (List.map bL eU))),(9,.sv (slc 1 (List.map bL z7))),(10,.sv (slc 1 (List.map bL Dr))),(34,aj j3.1)] [(5,⟨34,[aj false,.sv ax]⟩),(4,⟨34,[aj false,.sv ax]⟩),(3,⟨34,[aj cc,.sv (slc 1 (List.map aX bY))]⟩),(2,⟨34,[aj j3.2,.sv (slc 1 (List.map aX bp))]⟩)] []) (λh=>?_) (λj3 h=>?_);refine aW<|fa Y Y<|lV Y Y Y<|mv Y<|bE h λSh xN h=>?_;cases bt;obtain rfl:=O (F xN);exact ww<|ww<|ww<|pF Y<|dn<|⟨(false,false),h,wR []⟩
 refine gm Y<|lE (V xN) λir nn xN=>gn Y nn<|lE xN λm6 wh xN=>gg _ Y Y wh ?_;obtain rfl:=O xN;exact pT Y<|dn<|⟨(m6,true),h,wR []⟩;obtain⟨Nc,ur⟩:=j3
 try dsimp only
 refine aV.n ?_;refine bC h (λj5=>AS.cq 50 [(2,.ptr 2 0),(3,.ptr 3 0),(4,.ptr 4 0),(5,.ptr 5 0),(9,.sv (slc 1 (List.map bL j5.1))),(10,.sv (slc 1 (List.map bL j5.2)))] [(5,⟨34,[aj false,.sv ax]⟩),(4,⟨34,[aj false,.sv ax]⟩),(3,⟨34,[aj cc,.sv (slc 1 (List.map aX bY))]⟩),(2,⟨34,[aj ur,.sv (slc 1 (List.map aX bp))]⟩)] []) (λh=>?_) (λj5 h=>?_);cases Nc;exact fs<|⟨(z7,Dr),(F h),wR []⟩;exact cT<|sr<|mv Y<|bl (l:=[1]) (e:=bL) (.one Y (.nil)) Y Y Y Y Y Y<|bE (V h) λwc Hq h=>cl (DP Hq) ⟨Y,Y,aq⟩<|ag Y<|dn<|aW<|mv Y<|mv Y<|bE h λmL tK h=>cl (vC tK) ⟨Y,Y,aq⟩<|ag Y<|dn<|⟨(wc,mL),h,wR []⟩;obtain⟨LZ,Fa⟩:=j5
 try dsimp only
 refine aV.n<|sr<|fa Y Y<|lV Y Y Y<|fa Y Y<|lV Y Y Y<|lE h λGG Pa h=>RT.wA .none _ Y Y T Pa<|mv Y ?_;obtain⟨⟨E7,E8⟩,BL,h⟩:=bS h;refine cl (j1 BL) ⟨Y,Y,aq⟩<|mv Y ?_;obtain⟨⟨Fb,Fe⟩,Ts,h⟩:=bS h;refine cl (j1 Ts) ⟨Y,Y,aq⟩<|so Y Y Y<|so Y Y Y<|ag Y<|dn<|bf ?_;obtain rfl:=O h;exact RZ (.agg Y Y (.k2 Y Y) Y (.agg Y Y (.k2 Y Y) Y (.tmp Y (.nil))));refine cT<|sr<|bI (cs:=[_,_]) (cs':=[az false,ax]) (.nil) ⟨au,aB,aq⟩<|bI (cs:=[_,_]) (cs':=[az false,ax]) (.nil) ⟨au,aB,aq⟩<|so Y Y Y<|so Y Y Y<|ag Y<|dn<|bf<|aV.r ?_;obtain rfl:=O (V h);exact RZ (.agg Y Y (.k2 Y Y) Y (.agg Y Y (.k2 Y Y) Y (.tmp Y (.nil))))
theorem DV{x0:Zr}{x1:Zr}{r:Zr}(h:lZ x0 x1=some r):Pure ah 134 [.agg (eZ x0),.agg (eZ x1)] (.agg (eZ r)):=by
 obtain⟨bt,bp⟩:=x0;obtain⟨cc,bY⟩:=x1;refine aZ Tryz.func134 Y (af Y) (λdI M vs hvs=>?_);unfold lZ at h;refine sr<|bx Y<|bx Y<|al (cs:=[az false,ax]) (by exact⟨au,aB,aq⟩) Y<|dn<|qq<|bh mixed<|fa Y Y<|lV Y Y Y<|bE h λgu mw h=>cl (cX mw) ⟨Y,aq⟩<|fa Y Y<|lV Y Y Y<|bE h λdO jh h=>cl (cX jh) ⟨Y,aq⟩<|ag Y<|ag Y ?_;refine RT.done ⟨by kernel_rfl,?_⟩;refine aV.n<|qq<|bE h λe6 BG jW=>?_;refine bJ (λ(tg:(List Int))=>AS.cq 28 [(4,.ptr 4 0),(5,.sv (slc 1 (List.map bL tg)))] [(4,⟨34,[aj false,.sv ax]⟩)] []) (λtg=>tg=e6) ?_ (λtg BH=>?_);refine bj ?_;refine bK BG (λs6=>AS.cq 28 [(4,.ptr 4 0),(5,.sv (slc 1 (List.map bL s6.1))),(6,.sv (slc 1 (List.map bL s6.2)))] [(4,⟨34,[aj false,.sv ax]⟩)] []) (wR []) (λs6 y6 G6 h BI wU=>?_);obtain⟨mh,qF⟩:=s6
 try dsimp only
 refine qq<|sr<|mv Y<|lE h λeU iL h=>ln Y iL<|lE h λfz lj h=>gt _ Y Y lj<|dn ?_;cases fz;refine cF<|bN<|aV.x<|aV.x<|bw.x<|aV.n ?_;obtain rfl:=O (F h);exact⟨mh,wU _ Y,wR []⟩;refine cT<|bu<|aV.n<|bj<|sr<|mv Y<|mv Y ?_;obtain⟨⟨adf,Kh⟩,my,h⟩:=bS (V h);refine cl (vD my) ⟨Y,Y,aq⟩<|mv Y<|ex Y Y<|ex Y Y<|ag Y<|ag Y<|dn<|aW<|mv Y<|mv Y<|ag Y<|ag Y<|RT.done<|bw.n ?_;obtain rfl:=O h;exact aV.n ⟨(qF,Kh),BI _ Y,wR []⟩;subst BH
 try dsimp only
 refine aV.n<|sr<|mv Y ?_;obtain⟨⟨vi,tH⟩,m7,jW⟩:=bS jW;refine cl (j1 m7) ⟨Y,Y,aq⟩<|so Y Y Y<|dn<|bf ?_;obtain rfl:=O jW;exact RZ (.agg Y Y (.k2 Y Y) Y (.nil))
end
section
open Go.Fw
noncomputable def ke:Option (Zr):=(fU 1).bind λ⟨cc,bY⟩=>some ⟨cc,bY⟩
noncomputable def l6(x0:Qr):Option (Zr):=match x0 with|⟨⟨bt,bp⟩,⟨bD,bG⟩⟩=>(dQ ⟨bD,bG⟩).bind λx5=>(some (decide ((x5:Int)=0))).bind λx6=>(bif x6 then(ke).bind λ⟨yO,yP⟩=>some ⟨yO,yP⟩else(lY ⟨bD,bG⟩).bind λ⟨xL,xM⟩=>some ⟨xL,xM⟩)
noncomputable def l7(x0:Qr):Option (Zr):=match x0 with|⟨⟨bt,bp⟩,⟨bD,bG⟩⟩=>(dQ ⟨bD,bG⟩).bind λx5=>(some (decide ((x5:Int)<0))).bind λx6=>(bif x6 then(lX ⟨bt,bp⟩).bind λ⟨FL,FM⟩=>some ⟨FL,FM⟩else(gh ⟨bt,bp⟩).bind λ⟨jA,jq⟩=>some ⟨jA,jq⟩)
noncomputable def kG(x0:Zr)(x1:Zr):Option (Qr):=match x0 with|⟨bt,bp⟩=>match x1 with|⟨cc,bY⟩=>(lZ ⟨bt,bp⟩ ⟨cc,bY⟩).bind λ⟨Ah,Ai⟩=>(j0 ⟨bt,bp⟩ ⟨Ah,Ai⟩).bind λ⟨⟨hG,ia⟩,⟨ku,kx⟩,adw⟩=>(j0 ⟨cc,bY⟩ ⟨Ah,Ai⟩).bind λ⟨⟨DW,DX⟩,⟨Uf,Ug⟩,adx⟩=>(ke).bind λ⟨vm,vn⟩=>(lW ⟨DW,DX⟩ ⟨vm,vn⟩).bind λql=>(some (decide ((ql:Int)=0))).bind λir=>(bif ir then some ⟨⟨hG,ia⟩,⟨false,[]⟩⟩else some ⟨⟨hG,ia⟩,⟨DW,DX⟩⟩)
noncomputable def jB(x0:Qr):Option (Qr):=match x0 with|⟨⟨bt,bp⟩,⟨bD,bG⟩⟩=>(l7 ⟨⟨bt,bp⟩,⟨bD,bG⟩⟩).bind λ⟨mP,mQ⟩=>(l6 ⟨⟨bt,bp⟩,⟨bD,bG⟩⟩).bind λ⟨yM,yN⟩=>(kG ⟨mP,mQ⟩ ⟨yM,yN⟩).bind λ⟨⟨yO,yP⟩,⟨DY,DZ⟩⟩=>some ⟨⟨yO,yP⟩,⟨DY,DZ⟩⟩
noncomputable def l8(x0:Int):Option (Qr):=(fU x0).bind λ⟨mP,mQ⟩=>some ⟨⟨mP,mQ⟩,⟨false,[]⟩⟩
noncomputable def nA(x0:Int)(x1:Int):Option (Qr):=(fU x0).bind λ⟨yM,yN⟩=>(fU x1).bind λ⟨wZ,w5⟩=>(jB ⟨⟨yM,yN⟩,⟨wZ,w5⟩⟩).bind λ⟨⟨xL,xM⟩,⟨Si,Sj⟩⟩=>some ⟨⟨xL,xM⟩,⟨Si,Sj⟩⟩
end
section
open Go.Fw Go.Fw.Z Go.RowKit
theorem vF{r:Zr}(h:ke=some r):Pure ah 137 [] (.agg (eZ r)):=by
 refine aZ Tryz.func137 Y (af Y) (λdI M vs hvs=>?_);unfold ke at h;refine sr<|al (cs:=[az false,ax]) (by exact⟨au,aB,aq⟩) Y<|dn<|sr ?_;obtain⟨⟨cc,bY⟩,h1,h⟩:=bS h;refine cl (lF h1) ⟨Y,aq⟩<|so Y Y Y<|dn<|bf ?_;obtain rfl:=O h;exact RZ (.agg Y Y (.k2 Y Y) Y (.nil))
theorem D0{x0:Qr}{r:Zr}(h:l6 x0=some r):Pure ah 109 [.agg (eQ x0)] (.agg (eZ r)):=by
 obtain⟨⟨bt,bp⟩,⟨bD,bG⟩⟩:=x0;refine aZ Tryz.func109 Y (af Y) (λdI M vs hvs=>?_);unfold l6 at h;refine sr<|bx Y<|al (cs:=[az false,ax]) (by exact⟨au,aB,aq⟩) Y<|dn<|qq<|sr<|fa Y Y<|ld Y Y (.k2 Y Y)<|bE h λx5 h5 h=>cl (gi h5) ⟨Y,aq⟩<|lE h λx6 h6 h=>eq _ Y Y (o9 (p:=x5) (q:=0) h6)<|dn ?_;cases x6;refine fs<|sr<|fa Y Y<|ld Y Y (.k2 Y Y) ?_;obtain⟨⟨xL,xM⟩,fY,h⟩:=bS (F h);refine cl (DU fY) ⟨Y,aq⟩<|so Y Y Y<|dn<|bf ?_;obtain rfl:=O h;exact RZ (.agg Y Y (.k2 Y Y) Y (.nil));refine cT<|sr ?_;obtain⟨⟨yO,yP⟩,h7,h⟩:=bS (V h);refine cl (vF h7) trivial<|so Y Y Y<|dn<|bf<|aV.r ?_;obtain rfl:=O h;exact RZ (.agg Y Y (.k2 Y Y) Y (.nil))
theorem D1{x0:Qr}{r:Zr}(h:l7 x0=some r):Pure ah 108 [.agg (eQ x0)] (.agg (eZ r)):=by
 obtain⟨⟨bt,bp⟩,⟨bD,bG⟩⟩:=x0;refine aZ Tryz.func108 Y (af Y) (λdI M vs hvs=>?_);unfold l7 at h;refine sr<|bx Y<|al (cs:=[az false,ax]) (by exact⟨au,aB,aq⟩) Y<|dn<|qq<|sr<|fa Y Y<|ld Y Y (.k2 Y Y)<|bE h λx5 h5 h=>cl (gi h5) ⟨Y,aq⟩<|lE h λx6 h6 h=>ls _ Y Y h6<|dn ?_;cases x6;refine fs<|sr<|fa Y Y<|ld Y Y (.k2 Y Y) ?_;obtain⟨⟨jA,jq⟩,fP,h⟩:=bS (F h);refine cl (rW fP) ⟨Y,aq⟩<|so Y Y Y<|dn<|bf ?_;obtain rfl:=O h;exact RZ (.agg Y Y (.k2 Y Y) Y (.nil));refine cT<|sr<|fa Y Y<|ld Y Y (.k2 Y Y) ?_;obtain⟨⟨FL,FM⟩,h9,h⟩:=bS (V h);refine cl (DT h9) ⟨Y,aq⟩<|so Y Y Y<|dn<|bf<|aV.r ?_;obtain rfl:=O h;exact RZ (.agg Y Y (.k2 Y Y) Y (.nil))
theorem BY{x0:Zr}{x1:Zr}{r:Qr}(h:kG x0 x1=some r):Pure ah 106 [.agg (eZ x0),.agg (eZ x1)] (.agg (eQ r)):=by
 obtain⟨bt,bp⟩:=x0;obtain⟨cc,bY⟩:=x1;refine aZ Tryz.func106 Y (af Y) (λdI M vs hvs=>?_);unfold kG at h;refine sr<|bx Y<|bx Y<|al (cs:=[az false,ax,az false,ax]) (by exact⟨au,aB,au,aB,aq⟩) Y<|dn<|sr<|ld Y Y (.k2 Y Y)<|ld Y Y (.k2 Y Y) ?_;obtain⟨⟨Ah,Ai⟩,jh,h⟩:=bS h;refine cl (DV jh) ⟨Y,Y,aq⟩<|al (cs:=[az false,ax]) (by exact⟨au,aB,aq⟩) Y<|so Y Y Y<|dn<|sr<|ld Y Y (.k2 Y Y)<|ld Y Y (.k2 Y Y) ?_;obtain⟨⟨⟨hG,ia⟩,⟨ku,kx⟩,adw⟩,kR,h⟩:=bS h;refine cl (vE kR) ⟨Y,Y,aq⟩<|mv Y<|ex Y Y<|ex Y Y<|ex Y Y<|al (cs:=[az false,ax]) (by exact⟨au,aB,aq⟩) Y<|al (cs:=[az false,ax]) (by exact⟨au,aB,aq⟩) Y<|so Y Y Y<|so Y Y Y<|ag Y<|dn<|sr<|ld Y Y (.k2 Y Y) ?_;refine ld Y Y (.k2 Y Y) ?_;obtain⟨⟨⟨DW,DX⟩,⟨Uf,Ug⟩,adx⟩,qE,h⟩:=bS h;refine cl (vE qE) ⟨Y,Y,aq⟩<|mv Y<|ex Y Y<|ex Y Y<|ex Y Y<|al (cs:=[az false,ax]) (by exact⟨au,aB,aq⟩) Y<|al (cs:=[az false,ax]) (by exact⟨au,aB,aq⟩) Y<|so Y Y Y<|so Y Y Y<|ag Y<|dn<|qq<|qq<|bh mixed<|ld Y Y (.k2 Y Y) ?_;obtain⟨⟨vm,vn⟩,BJ,h⟩:=bS h;refine cl (vF BJ) trivial<|bE h λql Bm h=>cl (DS Bm) ⟨Y,Y,aq⟩<|lE h λir nn h=>eq _ Y Y (o9 (p:=ql) (q:=0) nn) ?_;refine RT.done ⟨by kernel_rfl,?_⟩;refine aV.n ?_;cases ir
 refine fs<|sr<|ld Y Y (.k2 Y Y)<|ld Y Y (.k2 Y Y)<|bI (cs:=[_,_,_,_]) (cs':=[az hG,slc 1 (List.map aX ia),az DW,slc 1 (List.map aX DX)]) (.agg Y (.agg Y (.nil))) ⟨au,au,au,au,aq⟩<|so Y Y Y<|dn<|bf ?_;obtain rfl:=O (F h);exact RZ (.agg Y Y (.k4 Y Y Y Y) Y (.nil));refine cT<|sr<|ld Y Y (.k2 Y Y)<|bI (cs:=[_,_,_,_]) (cs':=[az hG,slc 1 (List.map aX ia),az false,ax]) (.agg Y (.nil)) ⟨au,au,au,aB,aq⟩<|so Y Y Y<|dn<|bf<|aV.r ?_;obtain rfl:=O (V h);exact RZ (.agg Y Y (.k4 Y Y Y Y) Y (.nil))
theorem AI{x0:Qr}{r:Qr}(h:jB x0=some r):Pure ah 76 [.agg (eQ x0)] (.agg (eQ r)):=by
 obtain⟨⟨bt,bp⟩,⟨bD,bG⟩⟩:=x0;refine aZ Tryz.func76 Y (af Y) (λdI M vs hvs=>?_);unfold jB at h;refine sr<|bx Y<|al (cs:=[az false,ax,az false,ax]) (by exact⟨au,aB,au,aB,aq⟩) Y<|dn<|qq<|bh mixed<|ld Y Y (.k4 Y Y Y Y) ?_;obtain⟨⟨mP,mQ⟩,h4,h⟩:=bS h;refine cl (D1 h4) ⟨Y,aq⟩<|ld Y Y (.k4 Y Y Y Y) ?_;obtain⟨⟨yM,yN⟩,h6,h⟩:=bS h;refine cl (D0 h6) ⟨Y,aq⟩ ?_;obtain⟨⟨⟨yO,yP⟩,⟨DY,DZ⟩⟩,h7,h⟩:=bS h;refine cl (BY h7) ⟨Y,Y,aq⟩<|so Y Y Y ?_;refine RT.done ⟨by kernel_rfl,?_⟩;refine aV.n<|bf ?_;obtain rfl:=O h;exact RZ (.agg Y Y (.k4 Y Y Y Y) Y (.nil))
theorem D2{x0:Int}{r:Qr}(h:l8 x0=some r):Pure ah 13 [ay x0] (.agg (eQ r)):=by
 refine aZ Tryz.func13 Y (af Y) (λdI M vs hvs=>?_);unfold l8 at h;refine sr<|al (cs:=[az false,ax,az false,ax]) (by exact⟨au,aB,au,aB,aq⟩) Y<|dn<|sr<|mv Y ?_;obtain⟨⟨mP,mQ⟩,h4,h⟩:=bS h;refine cl (lF h4) ⟨Y,aq⟩<|bI (cs:=[_,_,_,_]) (cs':=[az mP,slc 1 (List.map aX mQ),az false,ax]) (.agg Y (.nil)) ⟨au,au,au,aB,aq⟩<|so Y Y Y<|dn<|bf ?_;obtain rfl:=O h;exact RZ (.agg Y Y (.k4 Y Y Y Y) Y (.nil))
theorem FV{x0:Int}{x1:Int}{r:Qr}(h:nA x0 x1=some r):Pure ah 43 [ay x0,ay x1] (.agg (eQ r)):=by
 refine aZ Tryz.func43 Y (af Y) (λdI M vs hvs=>?_);unfold nA at h;refine sr<|al (cs:=[az false,ax,az false,ax]) (by exact⟨au,aB,au,aB,aq⟩) Y<|dn<|sr<|mv Y ?_;obtain⟨⟨yM,yN⟩,h6,h⟩:=bS h;refine cl (lF h6) ⟨Y,aq⟩<|mv Y ?_;obtain⟨⟨wZ,w5⟩,h8,h⟩:=bS h;refine cl (lF h8) ⟨Y,aq⟩<|bI (cs:=[_,_,_,_]) (cs':=[az yM,slc 1 (List.map aX yN),az wZ,slc 1 (List.map aX w5)]) (.agg Y (.agg Y (.nil))) ⟨au,au,au,au,aq⟩ ?_;obtain⟨⟨⟨xL,xM⟩,⟨Si,Sj⟩⟩,fY,h⟩:=bS h;refine cl (AI fY) ⟨Y,aq⟩<|so Y Y Y<|dn<|bf ?_;obtain rfl:=O h;exact RZ (.agg Y Y (.k4 Y Y Y Y) Y (.nil))
end
section
open Go.Fw
noncomputable def kH(x0:List (List Qr)):Option (Int):=(b8 (λ(s6:Int×Int)=>match s6 with|⟨lS,uF⟩=>(show Option ((Int×Int)⊕(Int))from(some (x0.length:Int)).bind λx7=>(some (decide ((uF:Int)<x7))).bind λx8=>(bif x8 then(cY x0 uF).bind λdO=>(some (dO.length:Int)).bind λeU=>(some (max (lS:Int) eU)).bind λfz=>(some (IntKind.i64.wrap (uF+1))).bind λdK=>some (.inl (fz,dK))else some (.inr lS)))) (0,0)).bind λoS=>some oS
end
section
open Go.Fw Go.Fw.Z Go.RowKit
theorem BZ{x0:List (List Qr)}{r:Int}(h:kH x0=some r):Pure ah 86 [slc 1 (List.map (eS 4 eQ) x0)] (ay r):=by
 refine aZ Tryz.func86 Y (af Y) (λdI M vs hvs=>?_);unfold kH at h;refine sr<|ag Y<|dn<|sr<|ag Y<|dn<|qq<|sr<|ag Y<|dn<|bE h λe6 BG jW=>?_;refine bJ (λ(oS:Int)=>AS.cq 19 [(3,ai oS)] [] []) (λoS=>oS=e6) ?_ (λoS BH=>?_);refine bj ?_;refine bK BG (λs6=>AS.cq 19 [(0,.sv (slc 1 (List.map (eS 4 eQ) x0))),(3,ai s6.1),(4,ai s6.2)] [] []) (wR []) (λs6 y6 G6 h BI wU=>?_);obtain⟨lS,uF⟩:=s6
 try dsimp only
 refine qq<|sr<|mv Y<|mv Y<|lE h λx7 h7 h=>ln Y h7<|lE h λx8 h8 h=>ls _ Y Y h8<|dn ?_;cases x8;refine cF<|bN<|aV.x<|aV.x<|bw.x<|aV.n ?_;obtain rfl:=O (F h);exact⟨lS,wU _ Y,wR []⟩;refine cT<|bu<|aV.n<|qq<|bj<|aW<|mv Y<|mv Y<|mv Y<|bE (V h) λdO jh h=>ix Y Y jh<|lr Y Y<|lE h λeU iL h=>ln Y iL<|lE h λfz lj h=>RT.max .none _ Y Y T (OV (p:=lS) (q:=eU) lj)<|ag Y<|RT.done<|bw.n<|aV.n<|aW<|mv Y<|lE h λdK fY h=>ad _ Y Y fY<|ag Y<|RT.done ?_;obtain rfl:=O h;exact aV.n ⟨(fz,dK),BI _ Y,wR []⟩;subst BH
 try dsimp only
 refine aV.n<|sr<|mv Y<|ag Y<|dn<|bf ?_;obtain rfl:=O jW;exact R1 Y
end
section
open Go.Fw
noncomputable def kI(x0:List Zr):Option (Bool):=(b8 (λ(lS:Int)=>(show Option ((Int)⊕((Unit)⊕(Bool)))from(some (x0.length:Int)).bind λx6=>(some (decide ((lS:Int)<x6))).bind λx7=>(bif x7 then(cY x0 lS).bind λ⟨jA,jq⟩=>(some (jq.length:Int)).bind λeM=>(some (decide ((12:Int)<eM))).bind λeU=>(bif eU then some (.inr (.inr true))else(some (IntKind.i64.wrap (lS+1))).bind λx9=>some (.inl x9))else some (.inr (.inl ()))))) 0).bind λe6=>match e6 with|.inr v6=>some v6|.inl _=>some false
end
section
open Go.Fw Go.Fw.Z Go.RowKit
theorem B0{x0:List Zr}{r:Bool}(h:kI x0=some r):Pure ah 68 [slc 2 (List.map eZ x0)] (az r):=by
 refine aZ Tryz.func68 Y (af Y) (λdI M vs hvs=>?_);unfold kI at h;refine sr<|ag Y<|dn<|qq<|sr<|ag Y<|dn<|bE h λe6 BG jW=>?_;refine bJ (λ(Hl:Unit)=>AS.cq 17 [] [] []) (λHl=>.inl Hl=e6) ?_ (λHl BH=>?_);refine bj ?_;refine bK BG (λs6=>AS.cq 17 [(0,.sv (slc 2 (List.map eZ x0))),(3,ai s6)] [] []) (wR []) (λlS y6 G6 h BI wU=>?_)
 try dsimp only
 refine qq<|sr<|mv Y<|mv Y<|lE h λx6 h6 h=>ln Y h6<|lE h λx7 h7 h=>ls _ Y Y h7<|dn ?_;cases x7;refine cF<|bN<|aV.x<|aV.x<|bw.x<|aV.n ?_;obtain rfl:=O (F h);exact⟨(),wU _ Y,wR []⟩;refine cT<|bu<|aV.n<|qq<|bj<|sr<|mv Y<|mv Y ?_;obtain⟨⟨jA,jq⟩,fP,h⟩:=bS (V h);refine ix Y Y fP<|RT.fF .none Y T Y<|lr Y Y<|lE h λeM jL h=>ln Y jL<|lE h λeU iL h=>gt _ Y Y iL<|dn ?_;cases eU;refine cF<|bu<|bw.n<|aV.n<|aW<|mv Y<|lE (F h) λx9 h9 h=>ad _ Y Y h9<|ag Y<|RT.done ?_;obtain rfl:=O h;exact aV.n ⟨x9,BI _ Y,wR []⟩;refine cT<|sr<|ag Y<|dn<|bf<|bw.r<|aV.r ?_;obtain rfl:=O (V h);have L6:=wU _ Y;subst L6;refine aV.r<|bw.r<|aV.r<|aV.r ?_;obtain rfl:=O jW;exact R1 Y;subst BH
 try dsimp only
 refine aV.n<|sr<|ag Y<|dn<|bf ?_;obtain rfl:=O jW;exact R1 Y
end
section
open Go.Fw
noncomputable def jm(x0:List Qr):Option (Bool):=(b8 (λ(tu:Int)=>(show Option ((Int)⊕((Unit)⊕(Bool)))from(some (x0.length:Int)).bind λx6=>(some (decide ((tu:Int)<x6))).bind λx7=>(bif x7 then cm (λ(HS:Bool)=>(bif HS then some (.inr (.inr true))else(some (IntKind.i64.wrap (tu+1))).bind λx9=>some (.inl x9))) λXh=>(cY x0 tu).bind λ⟨⟨jA,jq⟩,⟨Xm,Xn⟩⟩=>(cY x0 tu).bind λ⟨⟨nZ,n5⟩,⟨qt,qu⟩⟩=>(kI [⟨jA,jq⟩,⟨qt,qu⟩]).bind λfZ=>(bif fZ then some true else(cY x0 tu).bind λ⟨⟨xI,vk⟩,⟨Xo,Xp⟩⟩=>(some (vk.length:Int)).bind λiM=>(some (decide ((6:Int)<iM))).bind λwN=>some wN).bind λNh=>(bif Nh then some true else(cY x0 tu).bind λ⟨⟨Xq,Xr⟩,⟨Xs,Sk⟩⟩=>(some (Sk.length:Int)).bind λqD=>(some (decide ((6:Int)<qD))).bind λmL=>some mL).bind λUh=>Xh Uh else some (.inr (.inl ()))))) 0).bind λPt=>match Pt with|.inr nP=>some nP|.inl _=>some false
end
section
open Go.Fw Go.Fw.Z Go.RowKit
theorem tQ{x0:List Qr}{r:Bool}(h:jm x0=some r):Pure ah 24 [slc 4 (List.map eQ x0)] (az r):=by
 refine aZ Tryz.func24 Y (af Y) (λdI M vs hvs=>?_);unfold jm at h;refine sr<|ag Y<|dn<|qq<|sr<|ag Y<|dn<|bE h λPt HQ DQ=>?_;refine bJ (λ(HT:Unit)=>AS.cq 42 [] [] []) (λHT=>.inl HT=Pt) ?_ (λHT DR=>?_);refine bj ?_;refine bK HQ (λM3=>AS.cq 42 [(0,.sv (slc 4 (List.map eQ x0))),(3,ai M3)] [] []) (wR []) (λtu y16 G16 h Nd HR=>?_)
 try dsimp only
 refine qq<|sr<|mv Y<|mv Y<|lE h λx6 h6 h=>ln Y h6<|lE h λx7 h7 h=>ls _ Y Y h7<|dn ?_;cases x7;refine cF<|bN<|aV.x<|aV.x<|bw.x<|aV.n ?_;obtain rfl:=O (F h);exact⟨(),HR _ Y,wR []⟩;refine cT<|bu<|aV.n<|qq<|bj<|qq ?_;refine bC (V h) (λXj=>AS.cq 42 [(0,.sv (slc 4 (List.map eQ x0))),(3,ai tu),(41,aj Xj)] [] []) (λh=>?_) (λHS h=>?_);refine bh mixed<|mv Y<|mv Y ?_;obtain⟨⟨⟨jA,jq⟩,⟨Xm,Xn⟩⟩,fP,h⟩:=bS h;refine ix Y Y fP<|RT.fF .none Y T Y<|RT.nT (cs:=[_,_]) .none Y T Y Y<|mv Y<|mv Y ?_;obtain⟨⟨⟨nZ,n5⟩,⟨qt,qu⟩⟩,lj,h⟩:=bS h;refine ix Y Y lj<|RT.fF .none Y T Y<|RT.nT (cs:=[_,_]) .none Y T Y Y<|bl (l:=[⟨jA,jq⟩,⟨qt,qu⟩]) (e:=eZ) (.agg Y (.agg Y (.nil))) Y Y Y Y Y Y<|bE h λfZ my h=>cl (B0 my) ⟨Y,aq⟩<|mv Y<|bE h λNh lU h=>?_;cases fZ;refine gm Y<|gm Y ?_;obtain⟨⟨⟨xI,vk⟩,⟨Xo,Xp⟩⟩,qE,lU⟩:=bS (F lU);refine RT.Q3 (.some Y Y) Y Y T qE<|RT.fF (.some Y Y) Y T Y<|RT.fF (.some Y Y) Y T Y<|gr Y Y<|lE lU λiM nL lU=>gn Y nL<|lE lU λwN BJ lU=>gg _ Y Y BJ ?_;obtain rfl:=O lU;refine pF Y<|mv Y<|bE h λady nO h=>?_;cases wN;refine gm Y<|gm Y ?_;obtain⟨⟨⟨Xq,Xr⟩,⟨Xs,Sk⟩⟩,BK,nO⟩:=bS (F nO)
 refine RT.Q3 (.some Y Y) Y Y T BK<|RT.fF (.some Y Y) Y T Y<|RT.fF (.some Y Y) Y T Y<|gr Y Y<|lE nO λqD BM nO=>gn Y BM<|lE nO λmL tK nO=>gg _ Y Y tK ?_;obtain rfl:=O nO;refine pF Y ?_;refine RT.done ⟨by kernel_rfl,?_⟩;exact aV.n<|⟨mL,h,wR []⟩;obtain rfl:=O (V nO);refine ww<|ww<|ww<|ww<|ww<|ww<|ww<|ww<|pT Y ?_;refine RT.done ⟨by kernel_rfl,?_⟩;exact aV.n<|⟨true,h,wR []⟩;obtain rfl:=O (V lU);refine ww<|ww<|ww<|ww<|ww<|ww<|ww<|ww<|pT Y<|mv Y<|bE h λadz Nf h=>?_;obtain rfl:=O (V Nf);refine ww<|ww<|ww<|ww<|ww<|ww<|ww<|ww<|pT Y ?_;refine RT.done ⟨by kernel_rfl,?_⟩;exact aV.n<|⟨true,h,wR []⟩
 try dsimp only
 refine aV.n ?_;cases HS;refine cF<|bu<|bw.n<|aV.n<|aW<|mv Y<|lE (F h) λx9 h9 h=>ad _ Y Y h9<|ag Y<|RT.done ?_;obtain rfl:=O h;exact aV.n ⟨x9,Nd _ Y,wR []⟩;refine cT<|sr<|ag Y<|dn<|bf<|bw.r<|aV.r ?_;obtain rfl:=O (V h);have Ui:=HR _ Y;subst Ui;refine aV.r<|bw.r<|aV.r<|aV.r ?_;obtain rfl:=O DQ;exact R1 Y;subst DR
 try dsimp only
 refine aV.n<|sr<|ag Y<|dn<|bf ?_;obtain rfl:=O DQ;exact R1 Y
end
section
open Go.Fw
noncomputable def ij(x0:List (List Qr)):Option (Bool):=(b8 (λ(vA:Int)=>(show Option ((Int)⊕((Unit)⊕(Bool)))from(some (x0.length:Int)).bind λx6=>(some (decide ((vA:Int)<x6))).bind λx7=>(bif x7 then cm (λ(HU:Bool)=>(bif HU then some (.inr (.inr true))else(some (IntKind.i64.wrap (vA+1))).bind λx9=>some (.inl x9))) λLK=>(cY x0 vA).bind λdg=>(some (dg.length:Int)).bind λdO=>(some (decide ((20:Int)<dO))).bind λeM=>(bif eM then some true else(cY x0 vA).bind λjU=>(jm jU).bind λfZ=>some fZ).bind λNi=>LK Ni else some (.inr (.inl ()))))) 0).bind λL4=>match L4 with|.inr v10=>some v10|.inl _=>some false
noncomputable def jn(x0:List (List (List Qr))):Option (Bool):=(b8 (λ(tu:Int)=>(show Option ((Int)⊕((Unit)⊕(Bool)))from(some (x0.length:Int)).bind λx6=>(some (decide ((tu:Int)<x6))).bind λx7=>(bif x7 then cm (λ(HV:Bool)=>(bif HV then some (.inr (.inr true))else(some (IntKind.i64.wrap (tu+1))).bind λx9=>some (.inl x9))) λXh=>(cY x0 tu).bind λdg=>(some (dg.length:Int)).bind λdO=>(some (decide ((8:Int)<dO))).bind λeM=>(bif eM then some true else(cY x0 tu).bind λjU=>(kH jU).bind λfZ=>(some (decide ((8:Int)<fZ))).bind λiB=>some iB).bind λNj=>(bif Nj then some true else(cY x0 tu).bind λgx=>(ij gx).bind λiM=>some iM).bind λUj=>Xh Uj else some (.inr (.inl ()))))) 0).bind λPt=>match Pt with|.inr nP=>some nP|.inl _=>some false
noncomputable def lG:Option (Lr):=(eH [[3,5]]).bind λx3=>(eH [[1,0],[0,2],[3,2]]).bind λx8=>(cU [4,12,18]).bind λdK=>some ⟨2,x3,x8,dK⟩
noncomputable def fu:Option (Bool):=(lG).bind λ⟨yO,yP,DY,DZ⟩=>(oV ⟨yO,yP,DY,DZ⟩).bind λ⟨⟨D3,D4,D5,D6⟩,Ka⟩=>(eH [[(-4),(-12),(-18)]]).bind λeM=>(eH [[(-1),0,(-3)],[0,(-2),(-2)]]).bind λjU=>(cU [(-3),(-5)]).bind λfZ=>(cU [2,6]).bind λgU=>(nA 3 2).bind λ⟨⟨xZ,ya⟩,⟨yc,yd⟩⟩=>(l8 1).bind λ⟨⟨vi,tH⟩,⟨IZ,I0⟩⟩=>cm (λ(Sl:Bool)=>some Sl) λK36=>(ja ⟨yO,yP,DY,DZ⟩).bind λwN=>(bif wN then(cK ⟨yO,yP,DY,DZ⟩ gU).bind λmK=>some mK else some false).bind λNk=>(bif Nk then(eC ⟨yO,yP,DY,DZ⟩ gU).bind λqD=>(cU [36]).bind λv8=>(dU qD v8).bind λug=>some ug else some false).bind λUk=>(bif Uk then(lu ⟨yO,yP,DY,DZ⟩ gU).bind λxH=>(cU [2,0,0]).bind λWi=>(dU xH Wi).bind λBk=>some Bk else some false).bind λUl=>(bif Ul then(some (decide ((Ka:Int)=0))).bind λFg=>some Fg else some false).bind λNl=>(bif Nl then(nx ⟨D3,D4,D5,D6⟩ ⟨3,eM,jU,fZ⟩).bind λLM=>some LM else some false).bind λUm=>(bif Um then(cK ⟨D3,D4,D5,D6⟩ [⟨⟨false,[]⟩,⟨false,[]⟩⟩,⟨⟨xZ,ya⟩,⟨yc,yd⟩⟩,⟨⟨vi,tH⟩,⟨IZ,I0⟩⟩]).bind λVy=>some Vy else some false).bind λUo=>(bif Uo then(eC ⟨D3,D4,D5,D6⟩ [⟨⟨false,[]⟩,⟨false,[]⟩⟩,⟨⟨xZ,ya⟩,⟨yc,yd⟩⟩,⟨⟨vi,tH⟩,⟨IZ,I0⟩⟩]).bind λVm=>(cU [(-36)]).bind λKm=>(dU Vm Km).bind λLV=>some LV else some false).bind λUp=>K36 Up
noncomputable def kJ(x0:List (List Qr)):Option (Bool):=(b8 (λ(lS:Int)=>(show Option ((Int)⊕((Unit)⊕(Bool)))from(some (x0.length:Int)).bind λx6=>(some (decide ((lS:Int)<x6))).bind λx7=>(bif x7 then(cY x0 lS).bind λdg=>(some (dg.length:Int)).bind λdO=>(some (decide ((0:Int)<dO))).bind λeM=>(bif eM then some (.inr (.inr false))else(some (IntKind.i64.wrap (lS+1))).bind λx9=>some (.inl x9))else some (.inr (.inl ()))))) 0).bind λe6=>match e6 with|.inr v6=>some v6|.inl _=>some true
noncomputable def l9(x0:List Qr):Option (List Qr):=(some (x0.length:Int)).bind λx5=>(some (min (x5:Int) 20)).bind λx6=>(yD x0 0 x6).bind λx7=>some x7
noncomputable def kK(x0:Lr):Option (Bool):=match x0 with|⟨bt,bp,bD,bG⟩=>cm (λ(Sn:Bool)=>some Sn) λK59=>(some (bp.length:Int)).bind λx5=>(some (decide ((6:Int)<x5))).bind λx6=>(bif x6 then some true else(some (bD.length:Int)).bind λdK=>(some (decide ((140:Int)<dK))).bind λgu=>some gu).bind λNm=>(bif Nm then some true else(some (bG.length:Int)).bind λeU=>(some (decide ((140:Int)<eU))).bind λfz=>some fz).bind λPv=>(bif Pv then some true else(some (bD.length:Int)).bind λiB=>(some (decide ((8:Int)<iB))).bind λiC=>(bif iC then(kJ bD).bind λgx=>(some (!gx)).bind λmm=>some mm else some false).bind λPw=>some Pw).bind λPx=>(bif Px then some true else(some (bD.length:Int)).bind λmK=>(some (decide ((mK:Int)<=8))).bind λsu=>(bif su then(jn [bD]).bind λmL=>some mL else some false).bind λPy=>some Py).bind λPz=>(bif Pz then some true else(jn [bp]).bind λxH=>some xH).bind λPA=>(bif PA then some true else(l9 bG).bind λyZ=>(ij [yZ]).bind λFg=>some Fg).bind λPB=>K59 PB
noncomputable def fJ(x0:Lr)(x1:List Qr)(x2:List Qr)(x3:List Qr)(x4:Qr):Option (Bool):=match x0 with|⟨bt,bp,bD,bG⟩=>match x4 with|⟨⟨mP,mQ⟩,⟨xb,xd⟩⟩=>cm (λ(Nn:Bool)=>(bif Nn then(fu).bind λmK=>some mK else(dD ⟨bt,bp,bD,bG⟩ x3 ⟨⟨mP,mQ⟩,⟨xb,xd⟩⟩).bind λ⟨⟨No,Np,Nq,Nr⟩,xe⟩=>(c9 ⟨bt,bp,bD,bG⟩ x3 ⟨⟨mP,mQ⟩,⟨xb,xd⟩⟩).bind λ⟨⟨Ns,Nt,Nu,Nv⟩,uH⟩=>(gO x3 x1).bind λ⟨⟨Cs,Ct⟩,⟨Nw,Nx⟩⟩=>cm (λ(HW:Bool)=>(bif HW then some false else(fT ⟨bt,bp,bD,bG⟩ x1 x2).bind λKn=>(eC ⟨bt,bp,bD,bG⟩ x1).bind λXt=>(eC ⟨bt,bp,bD,bG⟩ x2).bind λBD=>(dy Xt BD).bind λuo=>cm (λ(D7:Bool)=>(bif D7 then some false else(lu ⟨bt,bp,bD,bG⟩ x1).bind λXu=>(dB [] Xu).bind λ⟨So,I1⟩=>cm (λ(D8:Bool)=>some D8) λK94=>(cK ⟨bt,bp,bD,bG⟩ x1).bind λPC=>(some (!PC)).bind λNy=>(bif Ny then some true else(some (!I1)).bind λNz=>some Nz).bind λze=>(bif ze then(fu).bind λHX=>some HX else some false).bind λD9=>K94 D9)) λK88=>(fT ⟨bt,bp,bD,bG⟩ x2 x1).bind λXv=>(some (IntKind.i64.wrap (0-Xv))).bind λHe=>(some (decide ((Kn:Int)≠He))).bind λJ2=>(bif J2 then some true else(some (decide ((Kn:Int)=0))).bind λFR=>(dU x1 x2).bind λNa=>(some (!(FR==Na))).bind λUq=>some Uq).bind λI2=>(bif I2 then some true else(some (decide ((uo:Int)≠0))).bind λJ3=>(bif J3 then(some (decide ((Kn:Int)≠uo))).bind λNA=>some NA else some false).bind λAJ=>some AJ).bind λNB=>(bif NB then some true else(some (decide ((uo:Int)=0))).bind λDp=>(bif Dp then(dy x2 x1).bind λBE=>(some (decide ((Kn:Int)≠BE))).bind λzZ=>some zZ else some false).bind λAK=>some AK).bind λNC=>K88 NC)) λK70=>(some (decide ((xe:Int)=0))).bind λKO=>(bif KO then(cK ⟨No,Np,Nq,Nr⟩ x1).bind λKL=>(cK ⟨bt,bp,bD,bG⟩ x1).bind λEZ=>(bif EZ then(ga ⟨⟨Cs,Ct⟩,⟨Nw,Nx⟩⟩ ⟨⟨mP,mQ⟩,⟨xb,xd⟩⟩).bind λVy=>(some (decide ((Vy:Int)<=0))).bind λIE=>some IE else some false).bind λI3=>(some (!(KL==I3))).bind λLU=>some LU else some false).bind λI4=>(bif I4 then some true else(some (decide ((uH:Int)=0))).bind λKm=>(bif Km then(cK ⟨Ns,Nt,Nu,Nv⟩ x1).bind λYH=>(cK ⟨bt,bp,bD,bG⟩ x1).bind λM9=>(bif M9 then(kz ⟨⟨Cs,Ct⟩,⟨Nw,Nx⟩⟩ ⟨⟨mP,mQ⟩,⟨xb,xd⟩⟩).bind λYI=>some YI else some false).bind λPD=>(some (!(YH==PD))).bind λGI=>some GI else some false).bind λPE=>some PE).bind λPF=>(bif PF then some true else(some (decide ((uH:Int)=0))).bind λzW=>(bif zW then(some (decide ((xe:Int)≠0))).bind λBl=>some Bl else some false).bind λPG=>some PG).bind λPI=>K70 PI)) λK6=>(kK ⟨bt,bp,bD,bG⟩).bind λfZ=>(bif fZ then some true else(ij [x1,x2,x3]).bind λgx=>some gx).bind λI5=>(bif I5 then some true else(jm [⟨⟨mP,mQ⟩,⟨xb,xd⟩⟩]).bind λir=>some ir).bind λPJ=>K6 PJ
end
section
open Go.Fw Go.Fw.Z Go.RowKit
theorem iD{x0:List (List Qr)}{r:Bool}(h:ij x0=some r):Pure ah 18 [slc 1 (List.map (eS 4 eQ) x0)] (az r):=by
 refine aZ Tryz.func18 Y (af Y) (λdI M vs hvs=>?_);unfold ij at h;refine sr<|ag Y<|dn<|qq<|sr<|ag Y<|dn<|bE h λL4 Dt sY=>?_;refine bJ (λ(Ur:Unit)=>AS.cq 23 [] [] []) (λUr=>.inl Ur=L4) ?_ (λUr Du=>?_);refine bj ?_;refine bK Dt (λCq=>AS.cq 23 [(0,.sv (slc 1 (List.map (eS 4 eQ) x0))),(3,ai Cq)] [] []) (wR []) (λvA YA YB h Dv z8=>?_)
 try dsimp only
 refine qq<|sr<|mv Y<|mv Y<|lE h λx6 h6 h=>ln Y h6<|lE h λx7 h7 h=>ls _ Y Y h7<|dn ?_;cases x7;refine cF<|bN<|aV.x<|aV.x<|bw.x<|aV.n ?_;obtain rfl:=O (F h);exact⟨(),z8 _ Y,wR []⟩;refine cT<|bu<|aV.n<|qq<|bj<|qq ?_;refine bC (V h) (λL5=>AS.cq 23 [(0,.sv (slc 1 (List.map (eS 4 eQ) x0))),(3,ai vA),(22,aj L5)] [] []) (λh=>?_) (λHU h=>?_);refine aW<|mv Y<|mv Y<|bE h λdg fP h=>ix Y Y fP<|lr Y Y<|lE h λdO jh h=>ln Y jh<|lE h λeM jL h=>gt _ Y Y jL<|mv Y<|bE h λNi eW h=>?_;cases eM;refine gm Y<|gm Y<|bE (F eW) λjU mM eW=>RT.Q3 (.some Y Y) Y Y T mM<|gr Y Y<|bE eW λfZ my eW=>gc (tQ my) ⟨Y,aq⟩ ?_;obtain rfl:=O eW;exact pF Y<|dn<|⟨fZ,h,wR []⟩;obtain rfl:=O (V eW);exact ww<|ww<|ww<|ww<|ww<|pT Y<|dn<|⟨true,h,wR []⟩
 try dsimp only
 refine aV.n ?_;cases HU;refine cF<|bu<|bw.n<|aV.n<|aW<|mv Y<|lE (F h) λx9 h9 h=>ad _ Y Y h9<|ag Y<|RT.done ?_;obtain rfl:=O h;exact aV.n ⟨x9,Dv _ Y,wR []⟩;refine cT<|sr<|ag Y<|dn<|bf<|bw.r<|aV.r ?_;obtain rfl:=O (V h);have adB:=z8 _ Y;subst adB;refine aV.r<|bw.r<|aV.r<|aV.r ?_;obtain rfl:=O sY;exact R1 Y;subst Du
 try dsimp only
 refine aV.n<|sr<|ag Y<|dn<|bf ?_;obtain rfl:=O sY;exact R1 Y
theorem iE{x0:List (List (List Qr))}{r:Bool}(h:jn x0=some r):Pure ah 45 [slc 1 (List.map (eS 1 (eS 4 eQ)) x0)] (az r):=by
 refine aZ Tryz.func45 Y (af Y) (λdI M vs hvs=>?_);unfold jn at h;refine sr<|ag Y<|dn<|qq<|sr<|ag Y<|dn<|bE h λPt HQ DQ=>?_;refine bJ (λ(HT:Unit)=>AS.cq 31 [] [] []) (λHT=>.inl HT=Pt) ?_ (λHT DR=>?_);refine bj ?_;refine bK HQ (λM3=>AS.cq 31 [(0,.sv (slc 1 (List.map (eS 1 (eS 4 eQ)) x0))),(3,ai M3)] [] []) (wR []) (λtu y16 G16 h Nd HR=>?_)
 try dsimp only
 refine qq<|sr<|mv Y<|mv Y<|lE h λx6 h6 h=>ln Y h6<|lE h λx7 h7 h=>ls _ Y Y h7<|dn ?_;cases x7;refine cF<|bN<|aV.x<|aV.x<|bw.x<|aV.n ?_;obtain rfl:=O (F h);exact⟨(),HR _ Y,wR []⟩;refine cT<|bu<|aV.n<|qq<|bj<|qq ?_;refine bC (V h) (λXj=>AS.cq 31 [(0,.sv (slc 1 (List.map (eS 1 (eS 4 eQ)) x0))),(3,ai tu),(30,aj Xj)] [] []) (λh=>?_) (λHV h=>?_);refine aW<|mv Y<|mv Y<|bE h λdg fP h=>ix Y Y fP<|lr Y Y<|lE h λdO jh h=>ln Y jh<|lE h λeM jL h=>gt _ Y Y jL<|mv Y<|bE h λNj lU h=>?_;cases eM;refine gm Y<|gm Y<|bE (F lU) λjU mM lU=>RT.Q3 (.some Y Y) Y Y T mM<|gr Y Y<|bE lU λfZ my lU=>gc (BZ my) ⟨Y,aq⟩<|lE lU λiB nm lU=>gg _ Y Y nm ?_;obtain rfl:=O lU;refine pF Y<|mv Y<|bE h λadC nO h=>?_;cases iB;refine gm Y<|gm Y<|bE (F nO) λgx m7 nO=>RT.Q3 (.some Y Y) Y Y T m7<|gr Y Y<|bE nO λiM nL nO=>gc (iD nL) ⟨Y,aq⟩ ?_;obtain rfl:=O nO;exact pF Y<|dn<|⟨iM,h,wR []⟩;obtain rfl:=O (V nO);exact ww<|ww<|ww<|ww<|ww<|pT Y<|dn<|⟨true,h,wR []⟩;obtain rfl:=O (V lU);refine ww<|ww<|ww<|ww<|ww<|ww<|pT Y<|mv Y<|bE h λadD Nf h=>?_;obtain rfl:=O (V Nf);exact ww<|ww<|ww<|ww<|ww<|pT Y<|dn<|⟨true,h,wR []⟩
 try dsimp only
 refine aV.n ?_;cases HV;refine cF<|bu<|bw.n<|aV.n<|aW<|mv Y<|lE (F h) λx9 h9 h=>ad _ Y Y h9<|ag Y<|RT.done ?_;obtain rfl:=O h;exact aV.n ⟨x9,Nd _ Y,wR []⟩;refine cT<|sr<|ag Y<|dn<|bf<|bw.r<|aV.r ?_;obtain rfl:=O (V h);have Ui:=HR _ Y;subst Ui;refine aV.r<|bw.r<|aV.r<|aV.r ?_;obtain rfl:=O DQ;exact R1 Y;subst DR
 try dsimp only
 refine aV.n<|sr<|ag Y<|dn<|bf ?_;obtain rfl:=O DQ;exact R1 Y
theorem AL{r:Lr}(h:lG=some r):Pure ah 40 [] (.agg (zR r)):=by
 refine aZ Tryz.func40 Y (af Y) (λdI M vs hvs=>?_);unfold lG at h;refine sr<|al (cs:=[ay 0,slc 1 (List.map (eS 4 eQ) []),slc 1 (List.map (eS 4 eQ) []),slc 4 (List.map eQ [])]) (by exact⟨au,aB,aB,aB,aq⟩) Y<|dn<|sr<|bl (l:=[3,5]) (e:=bL) (.one Y (.one Y (.nil))) Y Y Y Y Y Y<|bl (l:=[[3,5]]) (e:=(eS 1 bL)) (.one Y (.nil)) Y Y Y Y Y Y<|bE h λx3 h3 h=>cl (jG h3) ⟨Y,aq⟩<|bl (l:=[1,0]) (e:=bL) (.one Y (.one Y (.nil))) Y Y Y Y Y Y ?_;refine bl (l:=[0,2]) (e:=bL) (.one Y (.one Y (.nil))) Y Y Y Y Y Y<|bl (l:=[3,2]) (e:=bL) (.one Y (.one Y (.nil))) Y Y Y Y Y Y<|bl (l:=[[1,0],[0,2],[3,2]]) (e:=(eS 1 bL)) (.one Y (.one Y (.one Y (.nil)))) Y Y Y Y Y Y<|bE h λx8 h8 h=>cl (jG h8) ⟨Y,aq⟩<|bl (l:=[4,12,18]) (e:=bL) (.one Y (.one Y (.one Y (.nil)))) Y Y Y Y Y Y<|bE h λdK fY h=>cl (eR fY) ⟨Y,aq⟩ ?_;refine bI (cs:=[_,_,_,_]) (cs':=[ay 2,slc 1 (List.map (eS 4 eQ) x3),slc 1 (List.map (eS 4 eQ) x8),slc 4 (List.map eQ dK)]) (.one Y (.one Y (.one Y (.one Y (.nil))))) ⟨au,au,au,au,aq⟩<|so Y Y Y<|dn<|bf ?_;obtain rfl:=O h;exact RZ (.agg Y Y (.k4 Y Y Y Y) Y (.nil))
set_option maxHeartbeats 4000000 in
theorem nB{r:Bool}(h:fu=some r):Pure ah 9 [] (az r):=by
 refine aZ Tryz.func9 Y (af Y) (λdI M vs hvs=>?_);unfold fu at h;refine sr<|ag Y<|dn<|sr ?_;obtain⟨⟨yO,yP,DY,DZ⟩,h7,h⟩:=bS h;refine cl (AL h7) trivial<|al (cs:=[ay 0,slc 1 (List.map (eS 4 eQ) []),slc 1 (List.map (eS 4 eQ) []),slc 4 (List.map eQ [])]) (by exact⟨au,aB,aB,aB,aq⟩) Y<|so Y Y Y<|dn<|sr<|ld Y Y (.k4 Y Y Y Y) ?_;obtain⟨⟨⟨D3,D4,D5,D6⟩,Ka⟩,fY,h⟩:=bS h;refine cl (HG fY) ⟨Y,aq⟩<|mv Y<|ex Y Y<|ex Y Y<|al (cs:=[ay 0,slc 1 (List.map (eS 4 eQ) []),slc 1 (List.map (eS 4 eQ) []),slc 4 (List.map eQ [])]) (by exact⟨au,aB,aB,aB,aq⟩) Y<|so Y Y Y<|ag Y<|dn<|sr<|bl (l:=[(-4),(-12),(-18)]) (e:=bL) (.one Y (.one Y (.one Y (.nil)))) Y Y Y Y Y Y<|bl (l:=[[(-4),(-12),(-18)]]) (e:=(eS 1 bL)) (.one Y (.nil)) Y Y Y Y Y Y ?_;refine bE h λeM jL h=>cl (jG jL) ⟨Y,aq⟩<|bl (l:=[(-1),0,(-3)]) (e:=bL) (.one Y (.one Y (.one Y (.nil)))) Y Y Y Y Y Y<|bl (l:=[0,(-2),(-2)]) (e:=bL) (.one Y (.one Y (.one Y (.nil)))) Y Y Y Y Y Y<|bl (l:=[[(-1),0,(-3)],[0,(-2),(-2)]]) (e:=(eS 1 bL)) (.one Y (.one Y (.nil))) Y Y Y Y Y Y<|bE h λjU mM h=>cl (jG mM) ⟨Y,aq⟩<|bl (l:=[(-3),(-5)]) (e:=bL) (.one Y (.one Y (.nil))) Y Y Y Y Y Y ?_
 refine bE h λfZ my h=>cl (eR my) ⟨Y,aq⟩<|bI (cs:=[_,_,_,_]) (cs':=[ay 3,slc 1 (List.map (eS 4 eQ) eM),slc 1 (List.map (eS 4 eQ) jU),slc 4 (List.map eQ fZ)]) (.one Y (.one Y (.one Y (.one Y (.nil))))) ⟨au,au,au,au,aq⟩<|al (cs:=[ay 0,slc 1 (List.map (eS 4 eQ) []),slc 1 (List.map (eS 4 eQ) []),slc 4 (List.map eQ [])]) (by exact⟨au,aB,aB,aB,aq⟩) Y<|so Y Y Y ?_;refine dn<|sr<|bl (l:=[2,6]) (e:=bL) (.one Y (.one Y (.nil))) Y Y Y Y Y Y<|bE h λgU oG h=>cl (eR oG) ⟨Y,aq⟩<|bI (cs:=[_,_,_,_]) (cs':=[az false,ax,az false,ax]) (.nil) ⟨au,aB,au,aB,aq⟩ ?_;obtain⟨⟨⟨xZ,ya⟩,⟨yc,yd⟩⟩,uu,h⟩:=bS h;refine cl (FV uu) ⟨Y,Y,aq⟩ ?_;obtain⟨⟨⟨vi,tH⟩,⟨IZ,I0⟩⟩,m7,h⟩:=bS h;refine cl (D2 m7) ⟨Y,aq⟩<|bl (l:=[⟨⟨false,[]⟩,⟨false,[]⟩⟩,⟨⟨xZ,ya⟩,⟨yc,yd⟩⟩,⟨⟨vi,tH⟩,⟨IZ,I0⟩⟩]) (e:=eQ) (.agg Y (.agg Y (.agg Y (.nil)))) Y Y Y Y Y Y<|ag Y<|ag Y<|dn<|qq ?_;refine bC h (λj36=>AS.cq 74 [(0,aj j36)] [] []) (λh=>?_) (λSl h=>?_);refine aW<|ld Y Y (.k4 Y Y Y Y)<|bE h λwN BJ h=>cl (oh BJ) ⟨Y,aq⟩<|mv Y<|bE h λNk w6 h=>?_;cases wN;obtain rfl:=O (F w6);refine ww<|ww<|ww<|pF Y<|mv Y<|bE h λadE FU h=>?_;obtain rfl:=O (F FU);refine ww<|ww<|ww<|ww<|ww<|ww<|pF Y<|mv Y<|bE h λadF FW h=>?_;obtain rfl:=O (F FW)
 refine ww<|ww<|ww<|ww<|ww<|ww<|pF Y<|mv Y<|bE h λadG FX h=>?_;obtain rfl:=O (F FX);refine ww<|ww<|pF Y<|mv Y<|bE h λadH AM h=>?_;obtain rfl:=O (F AM);refine ww<|ww<|ww<|pF Y<|mv Y<|bE h λadI FY h=>?_;obtain rfl:=O (F FY);refine ww<|ww<|ww<|pF Y<|mv Y<|bE h λadJ AN h=>?_;obtain rfl:=O (F AN);exact ww<|ww<|ww<|ww<|ww<|ww<|pF Y<|ag Y<|dn<|⟨false,h,wR []⟩;refine gl Y Y (.k4 Y Y Y Y)<|gm Y<|bE (V w6) λmK ri w6=>gc (cV ri) ⟨Y,Y,aq⟩ ?_;obtain rfl:=O w6;refine pT Y<|mv Y<|bE h λadK uA h=>?_;cases mK;obtain rfl:=O (F uA);refine ww<|ww<|ww<|ww<|ww<|ww<|pF Y<|mv Y<|bE h λadL adM h=>?_;obtain rfl:=O (F adM);refine ww<|ww<|ww<|ww<|ww<|ww<|pF Y<|mv Y<|bE h λadN adO h=>?_;obtain rfl:=O (F adO);refine ww<|ww<|pF Y<|mv Y<|bE h λadP adQ h=>?_;obtain rfl:=O (F adQ);refine ww<|ww<|ww<|pF Y<|mv Y<|bE h λadR adS h=>?_;obtain rfl:=O (F adS);refine ww<|ww<|ww<|pF Y<|mv Y<|bE h λadT adU h=>?_;obtain rfl:=O (F adU);exact ww<|ww<|ww<|ww<|ww<|ww<|pF Y<|ag Y<|dn<|⟨false,h,wR []⟩;refine gl Y Y (.k4 Y Y Y Y)<|gm Y<|bE (V uA) λqD BM uA=>gc (gQ BM) ⟨Y,Y,aq⟩<|RT.gy (l:=[36]) (e:=bL) (.some Y Y) (.one Y (.nil)) T Y Y Y Y Y Y<|bE uA λv8 Hp uA=>gc (eR Hp) ⟨Y,aq⟩<|bE uA λug Fh uA=>gc (jk Fh) ⟨Y,Y,aq⟩ ?_
 obtain rfl:=O uA;refine pT Y<|mv Y<|bE h λadV yF h=>?_;cases ug;obtain rfl:=O (F yF);refine ww<|ww<|ww<|ww<|ww<|ww<|pF Y<|mv Y<|bE h λadW adX h=>?_;obtain rfl:=O (F adX);refine ww<|ww<|pF Y<|mv Y<|bE h λadY adZ h=>?_;obtain rfl:=O (F adZ);refine ww<|ww<|ww<|pF Y<|mv Y<|bE h λad0 ad1 h=>?_;obtain rfl:=O (F ad1);refine ww<|ww<|ww<|pF Y<|mv Y<|bE h λad2 ad3 h=>?_;obtain rfl:=O (F ad3);exact ww<|ww<|ww<|ww<|ww<|ww<|pF Y<|ag Y<|dn<|⟨false,h,wR []⟩;refine gl Y Y (.k4 Y Y Y Y)<|gm Y<|bE (V yF) λxH BL yF=>gc (yj BL) ⟨Y,Y,aq⟩<|RT.gy (l:=[2,0,0]) (e:=bL) (.some Y Y) (.one Y (.one Y (.one Y (.nil)))) T Y Y Y Y Y Y<|bE yF λWi Ts yF=>gc (eR Ts) ⟨Y,aq⟩<|bE yF λBk L7 yF=>gc (jk L7) ⟨Y,Y,aq⟩ ?_;obtain rfl:=O yF;refine pT Y<|mv Y<|bE h λad4 Kc h=>?_;cases Bk;obtain rfl:=O (F Kc);refine ww<|ww<|pF Y<|mv Y<|bE h λad5 ad6 h=>?_;obtain rfl:=O (F ad6);refine ww<|ww<|ww<|pF Y<|mv Y<|bE h λad7 ad8 h=>?_;obtain rfl:=O (F ad8);refine ww<|ww<|ww<|pF Y<|mv Y<|bE h λad9 aea h=>?_;obtain rfl:=O (F aea);exact ww<|ww<|ww<|ww<|ww<|ww<|pF Y<|ag Y<|dn<|⟨false,h,wR []⟩;refine gm Y<|lE (V Kc) λFg IG Kc=>Co _ Y Y (o9 (p:=Ka) (q:=0) IG) ?_;obtain rfl:=O Kc;refine pT Y<|mv Y<|bE h λaeb Ke h=>?_;cases Fg
 obtain rfl:=O (F Ke);refine ww<|ww<|ww<|pF Y<|mv Y<|bE h λaec aed h=>?_;obtain rfl:=O (F aed);refine ww<|ww<|ww<|pF Y<|mv Y<|bE h λaee aef h=>?_;obtain rfl:=O (F aef);exact ww<|ww<|ww<|ww<|ww<|ww<|pF Y<|ag Y<|dn<|⟨false,h,wR []⟩;refine gl Y Y (.k4 Y Y Y Y)<|gl Y Y (.k4 Y Y Y Y)<|bE (V Ke) λLM WI Ke=>gc (FN WI) ⟨Y,Y,aq⟩ ?_;obtain rfl:=O Ke;refine pT Y<|mv Y<|bE h λaeg PK h=>?_;cases LM;obtain rfl:=O (F PK);refine ww<|ww<|ww<|pF Y<|mv Y<|bE h λaeh aei h=>?_;obtain rfl:=O (F aei);exact ww<|ww<|ww<|ww<|ww<|ww<|pF Y<|ag Y<|dn<|⟨false,h,wR []⟩;refine gl Y Y (.k4 Y Y Y Y)<|gm Y<|bE (V PK) λVy Xw PK=>gc (cV Xw) ⟨Y,Y,aq⟩ ?_;obtain rfl:=O PK;refine pT Y<|mv Y<|bE h λaej FZ h=>?_;cases Vy;obtain rfl:=O (F FZ);exact ww<|ww<|ww<|ww<|ww<|ww<|pF Y<|ag Y<|dn<|⟨false,h,wR []⟩;refine gl Y Y (.k4 Y Y Y Y)<|gm Y<|bE (V FZ) λVm WL FZ=>gc (gQ WL) ⟨Y,Y,aq⟩<|RT.gy (l:=[(-36)]) (e:=bL) (.some Y Y) (.one Y (.nil)) T Y Y Y Y Y Y<|bE FZ λKm Pu FZ=>gc (eR Pu) ⟨Y,aq⟩<|bE FZ λLV WO FZ=>gc (jk WO) ⟨Y,Y,aq⟩ ?_;obtain rfl:=O FZ;exact pT Y<|ag Y<|dn<|⟨LV,h,wR []⟩
 try dsimp only
 refine aV.n<|bf ?_;obtain rfl:=O h;exact R1 Y
theorem B3{x0:List (List Qr)}{r:Bool}(h:kJ x0=some r):Pure ah 44 [slc 1 (List.map (eS 4 eQ) x0)] (az r):=by
 refine aZ Tryz.func44 Y (af Y) (λdI M vs hvs=>?_);unfold kJ at h;refine sr<|ag Y<|dn<|qq<|sr<|ag Y<|dn<|bE h λe6 BG jW=>?_;refine bJ (λ(Hl:Unit)=>AS.cq 16 [] [] []) (λHl=>.inl Hl=e6) ?_ (λHl BH=>?_);refine bj ?_;refine bK BG (λs6=>AS.cq 16 [(0,.sv (slc 1 (List.map (eS 4 eQ) x0))),(3,ai s6)] [] []) (wR []) (λlS y6 G6 h BI wU=>?_)
 try dsimp only
 refine qq<|sr<|mv Y<|mv Y<|lE h λx6 h6 h=>ln Y h6<|lE h λx7 h7 h=>ls _ Y Y h7<|dn ?_;cases x7;refine cF<|bN<|aV.x<|aV.x<|bw.x<|aV.n ?_;obtain rfl:=O (F h);exact⟨(),wU _ Y,wR []⟩;refine cT<|bu<|aV.n<|qq<|bj<|sr<|mv Y<|mv Y<|bE (V h) λdg fP h=>ix Y Y fP<|lr Y Y<|lE h λdO jh h=>ln Y jh<|lE h λeM jL h=>gt _ Y Y jL<|dn ?_;cases eM;refine cF<|bu<|bw.n<|aV.n<|aW<|mv Y<|lE (F h) λx9 h9 h=>ad _ Y Y h9<|ag Y<|RT.done ?_;obtain rfl:=O h;exact aV.n ⟨x9,BI _ Y,wR []⟩;refine cT<|sr<|ag Y<|dn<|bf<|bw.r<|aV.r ?_;obtain rfl:=O (V h);have L6:=wU _ Y;subst L6;refine aV.r<|bw.r<|aV.r<|aV.r ?_;obtain rfl:=O jW;exact R1 Y;subst BH
 try dsimp only
 refine aV.n<|sr<|ag Y<|dn<|bf ?_;obtain rfl:=O jW;exact R1 Y
theorem mW{x0:List Qr}{r:List Qr}(h:l9 x0=some r):Pure ah 46 [slc 4 (List.map eQ x0)] (slc 4 (List.map eQ r)):=by
 refine aZ Tryz.func46 Y (af Y) (λdI M vs hvs=>?_);unfold l9 at h;refine sr<|aI Y (aB (n:=4) (e:=eQ))<|dn<|sr<|mv Y<|mv Y<|lE h λx5 h5 h=>ln Y h5<|lE h λx6 h6 h=>RT.min .none _ Y Y T (OW (p:=x5) (q:=20) h6)<|bE h λx7 h7 h=>RT.wK .none 0 x6 Y Y ⟨_,Y⟩ T h7<|ag Y<|dn<|bf ?_;obtain rfl:=O h;exact R1 Y
set_option maxHeartbeats 4000000 in
theorem B4{x0:Lr}{r:Bool}(h:kK x0=some r):Pure ah 10 [.agg (zR x0)] (az r):=by
 obtain⟨bt,bp,bD,bG⟩:=x0;refine aZ Tryz.func10 Y (af Y) (λdI M vs hvs=>?_);unfold kK at h;refine sr<|bx Y<|ag Y<|dn<|qq ?_;refine bC h (λj59=>AS.cq 56 [(2,aj j59)] [] []) (λh=>?_) (λSn h=>?_);refine aW<|fa Y Y<|lV Y Y Y<|lE h λx5 h5 h=>ln Y h5<|lE h λx6 h6 h=>gt _ Y Y h6<|mv Y<|bE h λNm FW h=>?_;cases x6;refine RT.fieldAddr (.some Y Y) Y T Y<|RT.sW (.some Y Y) Y Y Y T<|lE (F FW) λdK fY FW=>gn Y fY<|lE FW λgu mw FW=>gg _ Y Y mw ?_;obtain rfl:=O FW;refine pF Y<|mv Y<|bE h λaek FX h=>?_;cases gu;refine RT.fieldAddr (.some Y Y) Y T Y<|RT.sW (.some Y Y) Y Y Y T<|lE (F FX) λeU iL FX=>gn Y iL<|lE FX λfz lj FX=>gg _ Y Y lj ?_;obtain rfl:=O FX;refine pF Y<|mv Y<|bE h λael AM h=>?_;cases fz;refine RT.fieldAddr (.some Y Y) Y T Y<|RT.sW (.some Y Y) Y Y Y T<|lE (F AM) λiB nm AM=>gn Y nm<|lE AM λiC oR AM=>gg _ Y Y oR<|gm Y<|bE AM λaem FY AM=>?_;cases iC;obtain rfl:=O (F FY);refine ww<|ww<|ww<|ww<|gF Y ?_;obtain rfl:=O AM;refine pF Y<|mv Y<|bE h λaen F0 h=>RT.fieldAddr (.some Y Y) Y T Y<|RT.sW (.some Y Y) Y Y Y T<|lE (F F0) λmK ri F0=>gn Y ri<|lE F0 λsu BK F0=>RT.leq (.some Y Y) _ Y Y T BK<|gm Y<|bE F0 λaeo PL F0=>?_;cases su;obtain rfl:=O (F PL);refine ww<|ww<|ww<|ww<|gF Y ?_;obtain rfl:=O F0
 refine pF Y<|mv Y<|bE h λaep Us h=>RT.fieldAddr (.some Y Y) Y T Y<|RT.sW (.some Y Y) Y Y Y T<|RT.gy (l:=[bp]) (e:=(eS 1 (eS 4 eQ))) (.some Y Y) (.one Y (.nil)) T Y Y Y Y Y Y<|bE (F Us) λxH BL Us=>gc (iE BL) ⟨Y,aq⟩ ?_;obtain rfl:=O Us;refine pF Y<|mv Y<|bE h λaeq Kr h=>?_;cases xH;refine RT.fieldAddr (.some Y Y) Y T Y<|RT.sW (.some Y Y) Y Y Y T<|bE (F Kr) λyZ Fi Kr=>gc (mW Fi) ⟨Y,aq⟩<|RT.gy (l:=[yZ]) (e:=(eS 4 eQ)) (.some Y Y) (.one Y (.nil)) T Y Y Y Y Y Y<|bE Kr λFg IG Kr=>gc (iD IG) ⟨Y,aq⟩ ?_;obtain rfl:=O Kr;exact pF Y<|ag Y<|dn<|⟨Fg,h,wR []⟩;obtain rfl:=O (V Kr);exact ww<|ww<|ww<|ww<|ww<|pT Y<|ag Y<|dn<|⟨true,h,wR []⟩;refine RT.fieldAddr (.some Y Y) Y T Y<|RT.sW (.some Y Y) Y Y Y T<|RT.gy (l:=[bD]) (e:=(eS 1 (eS 4 eQ))) (.some Y Y) (.one Y (.nil)) T Y Y Y Y Y Y<|bE (V PL) λmL tK PL=>gc (iE tK) ⟨Y,aq⟩ ?_;obtain rfl:=O PL;refine gT Y ?_;obtain rfl:=O F0;refine pF Y<|mv Y<|bE h λaer PM h=>?_;cases mL;refine RT.fieldAddr (.some Y Y) Y T Y<|RT.sW (.some Y Y) Y Y Y T<|RT.gy (l:=[bp]) (e:=(eS 1 (eS 4 eQ))) (.some Y Y) (.one Y (.nil)) T Y Y Y Y Y Y<|bE (F PM) λxH BL PM=>gc (iE BL) ⟨Y,aq⟩ ?_;obtain rfl:=O PM;refine pF Y<|mv Y<|bE h λaes Ks h=>?_;cases xH
 refine RT.fieldAddr (.some Y Y) Y T Y<|RT.sW (.some Y Y) Y Y Y T<|bE (F Ks) λyZ Fi Ks=>gc (mW Fi) ⟨Y,aq⟩<|RT.gy (l:=[yZ]) (e:=(eS 4 eQ)) (.some Y Y) (.one Y (.nil)) T Y Y Y Y Y Y<|bE Ks λFg IG Ks=>gc (iD IG) ⟨Y,aq⟩ ?_;obtain rfl:=O Ks;exact pF Y<|ag Y<|dn<|⟨Fg,h,wR []⟩;obtain rfl:=O (V Ks);exact ww<|ww<|ww<|ww<|ww<|pT Y<|ag Y<|dn<|⟨true,h,wR []⟩;obtain rfl:=O (V PM);refine ww<|ww<|ww<|ww<|pT Y<|mv Y<|bE h λaet aeu h=>?_;obtain rfl:=O (V aeu);exact ww<|ww<|ww<|ww<|ww<|pT Y<|ag Y<|dn<|⟨true,h,wR []⟩;refine RT.fieldAddr (.some Y Y) Y T Y<|RT.sW (.some Y Y) Y Y Y T<|bE (V FY) λgx m7 FY=>gc (B3 m7) ⟨Y,aq⟩<|lE FY λmm sZ FY=>gt_ Y _ sZ ?_;obtain rfl:=O FY;refine gT Y ?_;obtain rfl:=O AM;refine pF Y<|mv Y<|bE h λaev AN h=>?_;cases mm;refine RT.fieldAddr (.some Y Y) Y T Y<|RT.sW (.some Y Y) Y Y Y T<|lE (F AN) λmK ri AN=>gn Y ri<|lE AN λsu BK AN=>RT.leq (.some Y Y) _ Y Y T BK<|gm Y<|bE AN λaew PN AN=>?_;cases su;obtain rfl:=O (F PN);refine ww<|ww<|ww<|ww<|gF Y ?_;obtain rfl:=O AN
 refine pF Y<|mv Y<|bE h λaex Ut h=>RT.fieldAddr (.some Y Y) Y T Y<|RT.sW (.some Y Y) Y Y Y T<|RT.gy (l:=[bp]) (e:=(eS 1 (eS 4 eQ))) (.some Y Y) (.one Y (.nil)) T Y Y Y Y Y Y<|bE (F Ut) λxH BL Ut=>gc (iE BL) ⟨Y,aq⟩ ?_;obtain rfl:=O Ut;refine pF Y<|mv Y<|bE h λaey Kt h=>?_;cases xH;refine RT.fieldAddr (.some Y Y) Y T Y<|RT.sW (.some Y Y) Y Y Y T<|bE (F Kt) λyZ Fi Kt=>gc (mW Fi) ⟨Y,aq⟩<|RT.gy (l:=[yZ]) (e:=(eS 4 eQ)) (.some Y Y) (.one Y (.nil)) T Y Y Y Y Y Y<|bE Kt λFg IG Kt=>gc (iD IG) ⟨Y,aq⟩ ?_;obtain rfl:=O Kt;exact pF Y<|ag Y<|dn<|⟨Fg,h,wR []⟩;obtain rfl:=O (V Kt);exact ww<|ww<|ww<|ww<|ww<|pT Y<|ag Y<|dn<|⟨true,h,wR []⟩;refine RT.fieldAddr (.some Y Y) Y T Y<|RT.sW (.some Y Y) Y Y Y T<|RT.gy (l:=[bD]) (e:=(eS 1 (eS 4 eQ))) (.some Y Y) (.one Y (.nil)) T Y Y Y Y Y Y<|bE (V PN) λmL tK PN=>gc (iE tK) ⟨Y,aq⟩ ?_;obtain rfl:=O PN;refine gT Y ?_;obtain rfl:=O AN;refine pF Y<|mv Y<|bE h λaez PO h=>?_;cases mL;refine RT.fieldAddr (.some Y Y) Y T Y<|RT.sW (.some Y Y) Y Y Y T<|RT.gy (l:=[bp]) (e:=(eS 1 (eS 4 eQ))) (.some Y Y) (.one Y (.nil)) T Y Y Y Y Y Y<|bE (F PO) λxH BL PO=>gc (iE BL) ⟨Y,aq⟩ ?_;obtain rfl:=O PO;refine pF Y<|mv Y<|bE h λNl Ku h=>?_;cases xH
 refine RT.fieldAddr (.some Y Y) Y T Y<|RT.sW (.some Y Y) Y Y Y T<|bE (F Ku) λyZ Fi Ku=>gc (mW Fi) ⟨Y,aq⟩<|RT.gy (l:=[yZ]) (e:=(eS 4 eQ)) (.some Y Y) (.one Y (.nil)) T Y Y Y Y Y Y<|bE Ku λFg IG Ku=>gc (iD IG) ⟨Y,aq⟩ ?_;obtain rfl:=O Ku;exact pF Y<|ag Y<|dn<|⟨Fg,h,wR []⟩;obtain rfl:=O (V Ku);exact ww<|ww<|ww<|ww<|ww<|pT Y<|ag Y<|dn<|⟨true,h,wR []⟩;obtain rfl:=O (V PO);refine ww<|ww<|ww<|ww<|pT Y<|mv Y<|bE h λaeA aeB h=>?_;obtain rfl:=O (V aeB);exact ww<|ww<|ww<|ww<|ww<|pT Y<|ag Y<|dn<|⟨true,h,wR []⟩;obtain rfl:=O (V AN);refine ww<|ww<|ww<|ww<|ww<|wu<|wu<|wu<|wu<|ww<|pT Y<|mv Y<|bE h λaeC aeD h=>?_;obtain rfl:=O (V aeD);refine ww<|ww<|ww<|ww<|pT Y<|mv Y<|bE h λaeE aeF h=>?_;obtain rfl:=O (V aeF);exact ww<|ww<|ww<|ww<|ww<|pT Y<|ag Y<|dn<|⟨true,h,wR []⟩;obtain rfl:=O (V AM);refine ww<|ww<|ww<|ww<|ww<|wu<|wu<|wu<|wu<|ww<|pT Y<|mv Y<|bE h λaeG aeH h=>?_;obtain rfl:=O (V aeH);refine ww<|ww<|ww<|ww<|ww<|wu<|wu<|wu<|wu<|ww<|pT Y<|mv Y<|bE h λaeI B5 h=>?_;obtain rfl:=O (V B5);refine ww<|ww<|ww<|ww<|pT Y<|mv Y<|bE h λYJ vG h=>?_;obtain rfl:=O (V vG);exact ww<|ww<|ww<|ww<|ww<|pT Y<|ag Y<|dn<|⟨true,h,wR []⟩;obtain rfl:=O (V FX);refine ww<|ww<|ww<|ww<|pT Y<|mv Y<|bE h λYK CD h=>?_
 obtain rfl:=O (V CD);refine ww<|ww<|ww<|ww<|ww<|wu<|wu<|wu<|wu<|ww<|pT Y<|mv Y<|bE h λYL vH h=>?_;obtain rfl:=O (V vH);refine ww<|ww<|ww<|ww<|ww<|wu<|wu<|wu<|wu<|ww<|pT Y<|mv Y<|bE h λYM yl h=>?_;obtain rfl:=O (V yl);refine ww<|ww<|ww<|ww<|pT Y<|mv Y<|bE h λYN ym h=>?_;obtain rfl:=O (V ym);exact ww<|ww<|ww<|ww<|ww<|pT Y<|ag Y<|dn<|⟨true,h,wR []⟩;obtain rfl:=O (V FW);refine ww<|ww<|ww<|ww<|pT Y<|mv Y<|bE h λYO yn h=>?_;obtain rfl:=O (V yn);refine ww<|ww<|ww<|ww<|pT Y<|mv Y<|bE h λYP Xx h=>?_;obtain rfl:=O (V Xx);refine ww<|ww<|ww<|ww<|ww<|wu<|wu<|wu<|wu<|ww<|pT Y<|mv Y<|bE h λYQ Xy h=>?_;obtain rfl:=O (V Xy);refine ww<|ww<|ww<|ww<|ww<|wu<|wu<|wu<|wu<|ww<|pT Y<|mv Y<|bE h λYR ND h=>?_;obtain rfl:=O (V ND);refine ww<|ww<|ww<|ww<|pT Y<|mv Y<|bE h λYS NF h=>?_;obtain rfl:=O (V NF);exact ww<|ww<|ww<|ww<|ww<|pT Y<|ag Y<|dn<|⟨true,h,wR []⟩
 try dsimp only
 refine aV.n<|bf ?_;obtain rfl:=O h;exact R1 Y
end
section
open Go.Fw Go.Fw.Z Go.RowKit
set_option maxHeartbeats 4000000 in
theorem qb{x0:Lr}{x1:List Qr}{x2:List Qr}{x3:List Qr}{x4:Qr}{r:Bool}(h:fJ x0 x1 x2 x3 x4=some r):Pure ah 8 [.agg (zR x0),slc 4 (List.map eQ x1),slc 4 (List.map eQ x2),slc 4 (List.map eQ x3),.agg (eQ x4)] (az r):=by
 obtain⟨bt,bp,bD,bG⟩:=x0;obtain⟨⟨mP,mQ⟩,⟨xb,xd⟩⟩:=x4;refine aZ Tryz.func8 Y (af Y) (λdI M vs hvs=>?_);unfold fJ at h;refine sr<|bx Y<|bx Y<|ag Y<|dn<|qq<|qq ?_;refine bC h (λj6=>AS.cq 159 [(1,.sv (slc 4 (List.map eQ x1))),(2,.sv (slc 4 (List.map eQ x2))),(3,.sv (slc 4 (List.map eQ x3))),(5,.ptr 5 0),(9,.ptr 9 0),(33,aj j6)] [(9,⟨36,[aj mP,.sv (slc 1 (List.map aX mQ)),aj xb,.sv (slc 1 (List.map aX xd))]⟩),(5,⟨26,[ai bt,.sv (slc 1 (List.map (eS 4 eQ) bp)),.sv (slc 1 (List.map (eS 4 eQ) bD)),.sv (slc 4 (List.map eQ bG))]⟩)] []) (λh=>?_) (λNn h=>?_);refine aW<|ld Y Y (.k4 Y Y Y Y)<|bE h λfZ my h=>cl (B4 my) ⟨Y,aq⟩<|mv Y<|bE h λI5 I6 h=>?_;cases fZ;refine gm Y<|gm Y<|gm Y<|RT.gy (l:=[x1,x2,x3]) (e:=(eS 4 eQ)) (.some Y Y) (.one Y (.one Y (.one Y (.nil)))) T Y Y Y Y Y Y<|bE (F I6) λgx m7 I6=>gc (iD m7) ⟨Y,aq⟩ ?_;obtain rfl:=O I6;refine pF Y<|mv Y<|bE h λYT I7 h=>?_;cases gx;refine gl Y Y (.k4 Y Y Y Y)<|RT.gy (l:=[⟨⟨mP,mQ⟩,⟨xb,xd⟩⟩]) (e:=eQ) (.some Y Y) (.agg Y (.nil)) T Y Y Y Y Y Y<|bE (F I7) λir nn I7=>gc (tQ nn) ⟨Y,aq⟩ ?_;obtain rfl:=O I7;exact pF Y<|dn<|⟨ir,h,wR []⟩;obtain rfl:=O (V I7);exact ww<|ww<|ww<|pT Y<|dn<|⟨true,h,wR []⟩;obtain rfl:=O (V I6)
 refine ww<|ww<|ww<|ww<|ww<|pT Y<|mv Y<|bE h λYU Xz h=>?_;obtain rfl:=O (V Xz);exact ww<|ww<|ww<|pT Y<|dn<|⟨true,h,wR []⟩
 try dsimp only
 refine aV.n ?_;cases Nn;refine fs<|sr<|ld Y Y (.k4 Y Y Y Y)<|mv Y<|ld Y Y (.k4 Y Y Y Y) ?_;obtain⟨⟨⟨No,Np,Nq,Nr⟩,xe⟩,BM,h⟩:=bS (F h);refine cl (tq BM) ⟨Y,Y,Y,aq⟩<|mv Y<|ex Y Y<|ex Y Y<|al (cs:=[ay 0,slc 1 (List.map (eS 4 eQ) []),slc 1 (List.map (eS 4 eQ) []),slc 4 (List.map eQ [])]) (by exact⟨au,aB,aB,aB,aq⟩) Y<|so Y Y Y<|ag Y<|dn<|sr<|ld Y Y (.k4 Y Y Y Y)<|mv Y<|ld Y Y (.k4 Y Y Y Y) ?_;obtain⟨⟨⟨Ns,Nt,Nu,Nv⟩,uH⟩,h46,h⟩:=bS h;refine cl (vz h46) ⟨Y,Y,Y,aq⟩<|mv Y<|ex Y Y<|ex Y Y<|al (cs:=[ay 0,slc 1 (List.map (eS 4 eQ) []),slc 1 (List.map (eS 4 eQ) []),slc 4 (List.map eQ [])]) (by exact⟨au,aB,aB,aB,aq⟩) Y<|so Y Y Y<|ag Y<|dn<|sr<|mv Y<|mv Y ?_;obtain⟨⟨⟨Cs,Ct⟩,⟨Nw,Nx⟩⟩,Pb,h⟩:=bS h;refine cl (pU Pb) ⟨Y,Y,aq⟩<|al (cs:=[az false,ax,az false,ax]) (by exact⟨au,aB,au,aB,aq⟩) Y<|so Y Y Y<|dn<|qq<|qq ?_;refine bC h (λj70=>AS.cq 159 [(1,.sv (slc 4 (List.map eQ x1))),(2,.sv (slc 4 (List.map eQ x2))),(5,.ptr 5 0),(94,aj j70)] [(5,⟨26,[ai bt,.sv (slc 1 (List.map (eS 4 eQ) bp)),.sv (slc 1 (List.map (eS 4 eQ) bD)),.sv (slc 4 (List.map eQ bG))]⟩)] []) (λh=>?_) (λHW h=>?_);refine bh mixed<|mv Y<|lE h λKO Ty h=>eq _ Y Y (o9 (p:=xe) (q:=0) Ty)<|mv Y<|bE h λI4 oW h=>?_;cases KO;obtain rfl:=O (F oW)
 refine ww<|ww<|ww<|ww<|ww<|ww<|ww<|wu<|wu<|wu<|wu<|ww<|ww<|pF Y<|mv Y<|bE h λYV AO h=>gm Y<|lE (F AO) λKm Pu AO=>Co _ Y Y (o9 (p:=uH) (q:=0) Pu) ?_;refine gm Y<|bE AO λYW oX AO=>?_;cases Km;obtain rfl:=O (F oX);refine ww<|ww<|ww<|ww<|ww<|ww<|ww<|wu<|wu<|wu<|ww<|ww<|gF Y ?_;obtain rfl:=O AO;refine pF Y<|mv Y<|bE h λYX CE h=>gm Y<|lE (F CE) λzW Dw CE=>Co _ Y Y (o9 (p:=uH) (q:=0) Dw)<|gm Y<|bE CE λYY I8 CE=>?_;cases zW;obtain rfl:=O (F I8);refine ww<|ww<|gF Y ?_;obtain rfl:=O CE;refine pF Y ?_;refine RT.done ⟨by kernel_rfl,?_⟩;exact aV.n<|⟨false,h,wR []⟩;refine gm Y<|lE (V I8) λBl Dx I8=>gq _ Y Y (yV (p:=xe) (q:=0) Dx) ?_;obtain rfl:=O I8;refine gT Y ?_;obtain rfl:=O CE;refine pF Y ?_;refine RT.done ⟨by kernel_rfl,?_⟩;exact aV.n<|⟨Bl,h,wR []⟩;refine gl Y Y (.k4 Y Y Y Y)<|gm Y<|bE (V oX) λYH XA oX=>gc (cV XA) ⟨Y,Y,aq⟩<|gl Y Y (.k4 Y Y Y Y)<|gm Y<|bE oX λM9 Ud oX=>gc (cV Ud) ⟨Y,Y,aq⟩<|gm Y<|bE oX λYZ I9 oX=>?_;cases M9;obtain rfl:=O (F I9);refine ww<|ww<|ww<|gF Y<|lE oX λGI J9 oX=>RT.wA (.some Y Y) _ Y Y T J9 ?_;obtain rfl:=O oX;refine gT Y ?_;obtain rfl:=O AO;refine pF Y<|mv Y<|bE h λY0 AP h=>?_;cases GI
 refine gm Y<|lE (F AP) λzW Dw AP=>Co _ Y Y (o9 (p:=uH) (q:=0) Dw)<|gm Y<|bE AP λY1 Ja AP=>?_;cases zW;obtain rfl:=O (F Ja);refine ww<|ww<|gF Y ?_;obtain rfl:=O AP;refine pF Y ?_;refine RT.done ⟨by kernel_rfl,?_⟩;exact aV.n<|⟨false,h,wR []⟩;refine gm Y<|lE (V Ja) λBl Dx Ja=>gq _ Y Y (yV (p:=xe) (q:=0) Dx) ?_;obtain rfl:=O Ja;refine gT Y ?_;obtain rfl:=O AP;refine pF Y ?_;refine RT.done ⟨by kernel_rfl,?_⟩;exact aV.n<|⟨Bl,h,wR []⟩;obtain rfl:=O (V AP);refine ww<|ww<|ww<|wu<|wu<|ww<|pT Y ?_;refine RT.done ⟨by kernel_rfl,?_⟩;exact aV.n<|⟨true,h,wR []⟩;refine gl Y Y (.k4 Y Y Y Y)<|gl Y Y (.k4 Y Y Y Y)<|bE (V I9) λYI XB I9=>gc (oA XB) ⟨Y,Y,aq⟩ ?_;obtain rfl:=O I9;refine gT Y<|lE oX λGI J9 oX=>RT.wA (.some Y Y) _ Y Y T J9 ?_;obtain rfl:=O oX;refine gT Y ?_;obtain rfl:=O AO;refine pF Y<|mv Y<|bE h λY2 AQ h=>?_;cases GI;refine gm Y<|lE (F AQ) λzW Dw AQ=>Co _ Y Y (o9 (p:=uH) (q:=0) Dw)<|gm Y<|bE AQ λY3 Jb AQ=>?_;cases zW;obtain rfl:=O (F Jb);refine ww<|ww<|gF Y ?_;obtain rfl:=O AQ;refine pF Y ?_;refine RT.done ⟨by kernel_rfl,?_⟩;exact aV.n<|⟨false,h,wR []⟩;refine gm Y<|lE (V Jb) λBl Dx Jb=>gq _ Y Y (yV (p:=xe) (q:=0) Dx) ?_;obtain rfl:=O Jb;refine gT Y ?_;obtain rfl:=O AQ;refine pF Y ?_
 refine RT.done ⟨by kernel_rfl,?_⟩;exact aV.n<|⟨Bl,h,wR []⟩;obtain rfl:=O (V AQ);refine ww<|ww<|ww<|wu<|wu<|ww<|pT Y ?_;refine RT.done ⟨by kernel_rfl,?_⟩;exact aV.n<|⟨true,h,wR []⟩;refine gl Y Y (.k4 Y Y Y Y)<|gm Y<|bE (V oW) λKL Tu oW=>gc (cV Tu) ⟨Y,Y,aq⟩<|gl Y Y (.k4 Y Y Y Y)<|gm Y<|bE oW λEZ Ov oW=>gc (cV Ov) ⟨Y,Y,aq⟩<|gm Y<|bE oW λI3 CF oW=>?_;cases EZ;obtain rfl:=O (F CF);refine ww<|ww<|ww<|ww<|gF Y<|lE oW λLU WN oW=>RT.wA (.some Y Y) _ Y Y T WN ?_;obtain rfl:=O oW;refine pT Y<|mv Y<|bE h λY4 yo h=>?_;cases LU;refine gm Y<|lE (F yo) λKm Pu yo=>Co _ Y Y (o9 (p:=uH) (q:=0) Pu)<|gm Y<|bE yo λY5 oY yo=>?_;cases Km;obtain rfl:=O (F oY);refine ww<|ww<|ww<|ww<|ww<|ww<|ww<|wu<|wu<|wu<|ww<|ww<|gF Y ?_;obtain rfl:=O yo;refine pF Y<|mv Y<|bE h λY6 CG h=>gm Y<|lE (F CG) λzW Dw CG=>Co _ Y Y (o9 (p:=uH) (q:=0) Dw)<|gm Y<|bE CG λY7 Jc CG=>?_;cases zW;obtain rfl:=O (F Jc);refine ww<|ww<|gF Y ?_;obtain rfl:=O CG;refine pF Y ?_;refine RT.done ⟨by kernel_rfl,?_⟩;exact aV.n<|⟨false,h,wR []⟩;refine gm Y<|lE (V Jc) λBl Dx Jc=>gq _ Y Y (yV (p:=xe) (q:=0) Dx) ?_;obtain rfl:=O Jc;refine gT Y ?_;obtain rfl:=O CG;refine pF Y ?_;refine RT.done ⟨by kernel_rfl,?_⟩;exact aV.n<|⟨Bl,h,wR []⟩
 refine gl Y Y (.k4 Y Y Y Y)<|gm Y<|bE (V oY) λYH XA oY=>gc (cV XA) ⟨Y,Y,aq⟩<|gl Y Y (.k4 Y Y Y Y)<|gm Y<|bE oY λM9 Ud oY=>gc (cV Ud) ⟨Y,Y,aq⟩<|gm Y<|bE oY λY8 Jd oY=>?_;cases M9;obtain rfl:=O (F Jd);refine ww<|ww<|ww<|gF Y<|lE oY λGI J9 oY=>RT.wA (.some Y Y) _ Y Y T J9 ?_;obtain rfl:=O oY;refine gT Y ?_;obtain rfl:=O yo;refine pF Y<|mv Y<|bE h λY9 AR h=>?_;cases GI;refine gm Y<|lE (F AR) λzW Dw AR=>Co _ Y Y (o9 (p:=uH) (q:=0) Dw)<|gm Y<|bE AR λZa Je AR=>?_;cases zW;obtain rfl:=O (F Je);refine ww<|ww<|gF Y ?_;obtain rfl:=O AR;refine pF Y ?_;refine RT.done ⟨by kernel_rfl,?_⟩;exact aV.n<|⟨false,h,wR []⟩;refine gm Y<|lE (V Je) λBl Dx Je=>gq _ Y Y (yV (p:=xe) (q:=0) Dx) ?_;obtain rfl:=O Je;refine gT Y ?_;obtain rfl:=O AR;refine pF Y ?_;refine RT.done ⟨by kernel_rfl,?_⟩;exact aV.n<|⟨Bl,h,wR []⟩;obtain rfl:=O (V AR);refine ww<|ww<|ww<|wu<|wu<|ww<|pT Y ?_;refine RT.done ⟨by kernel_rfl,?_⟩;exact aV.n<|⟨true,h,wR []⟩;refine gl Y Y (.k4 Y Y Y Y)<|gl Y Y (.k4 Y Y Y Y)<|bE (V Jd) λYI XB Jd=>gc (oA XB) ⟨Y,Y,aq⟩ ?_;obtain rfl:=O Jd;refine gT Y<|lE oY λGI J9 oY=>RT.wA (.some Y Y) _ Y Y T J9 ?_;obtain rfl:=O oY;refine gT Y ?_;obtain rfl:=O yo;refine pF Y<|mv Y<|bE h λZb AT h=>?_;cases GI
 refine gm Y<|lE (F AT) λzW Dw AT=>Co _ Y Y (o9 (p:=uH) (q:=0) Dw)<|gm Y<|bE AT λZc Jf AT=>?_;cases zW;obtain rfl:=O (F Jf);refine ww<|ww<|gF Y ?_;obtain rfl:=O AT;refine pF Y ?_;refine RT.done ⟨by kernel_rfl,?_⟩;exact aV.n<|⟨false,h,wR []⟩;refine gm Y<|lE (V Jf) λBl Dx Jf=>gq _ Y Y (yV (p:=xe) (q:=0) Dx) ?_;obtain rfl:=O Jf;refine gT Y ?_;obtain rfl:=O AT;refine pF Y ?_;refine RT.done ⟨by kernel_rfl,?_⟩;exact aV.n<|⟨Bl,h,wR []⟩;obtain rfl:=O (V AT);refine ww<|ww<|ww<|wu<|wu<|ww<|pT Y ?_;refine RT.done ⟨by kernel_rfl,?_⟩;exact aV.n<|⟨true,h,wR []⟩;obtain rfl:=O (V yo);refine ww<|ww<|ww<|wu<|wu<|wu<|wu<|wu<|wu<|wu<|wu<|wu<|wu<|wu<|wu<|ww<|pT Y<|mv Y<|bE h λZd XC h=>?_;obtain rfl:=O (V XC);refine ww<|ww<|ww<|wu<|wu<|ww<|pT Y ?_;refine RT.done ⟨by kernel_rfl,?_⟩;exact aV.n<|⟨true,h,wR []⟩;refine gl Y Y (.k4 Y Y Y Y)<|gl Y Y (.k4 Y Y Y Y)<|bE (V CF) λVy Xw CF=>gc (lP Xw) ⟨Y,Y,aq⟩<|lE CF λIE Rg CF=>RT.leq (.some Y Y) _ Y Y T Rg ?_;obtain rfl:=O CF;refine gT Y<|lE oW λLU WN oW=>RT.wA (.some Y Y) _ Y Y T WN ?_;obtain rfl:=O oW;refine pT Y<|mv Y<|bE h λZe yp h=>?_;cases LU;refine gm Y<|lE (F yp) λKm Pu yp=>Co _ Y Y (o9 (p:=uH) (q:=0) Pu)<|gm Y<|bE yp λZf oZ yp=>?_;cases Km
 obtain rfl:=O (F oZ);refine ww<|ww<|ww<|ww<|ww<|ww<|ww<|wu<|wu<|wu<|ww<|ww<|gF Y ?_;obtain rfl:=O yp;refine pF Y<|mv Y<|bE h λZg CH h=>gm Y<|lE (F CH) λzW Dw CH=>Co _ Y Y (o9 (p:=uH) (q:=0) Dw)<|gm Y<|bE CH λZh Jg CH=>?_;cases zW;obtain rfl:=O (F Jg);refine ww<|ww<|gF Y ?_;obtain rfl:=O CH;refine pF Y ?_;refine RT.done ⟨by kernel_rfl,?_⟩;exact aV.n<|⟨false,h,wR []⟩;refine gm Y<|lE (V Jg) λBl Dx Jg=>gq _ Y Y (yV (p:=xe) (q:=0) Dx) ?_;obtain rfl:=O Jg;refine gT Y ?_;obtain rfl:=O CH;refine pF Y ?_;refine RT.done ⟨by kernel_rfl,?_⟩;exact aV.n<|⟨Bl,h,wR []⟩;refine gl Y Y (.k4 Y Y Y Y)<|gm Y<|bE (V oZ) λYH XA oZ=>gc (cV XA) ⟨Y,Y,aq⟩<|gl Y Y (.k4 Y Y Y Y)<|gm Y<|bE oZ λM9 Ud oZ=>gc (cV Ud) ⟨Y,Y,aq⟩<|gm Y<|bE oZ λZi Jh oZ=>?_;cases M9;obtain rfl:=O (F Jh);refine ww<|ww<|ww<|gF Y<|lE oZ λGI J9 oZ=>RT.wA (.some Y Y) _ Y Y T J9 ?_;obtain rfl:=O oZ;refine gT Y ?_;obtain rfl:=O yp;refine pF Y<|mv Y<|bE h λZj AU h=>?_;cases GI;refine gm Y<|lE (F AU) λzW Dw AU=>Co _ Y Y (o9 (p:=uH) (q:=0) Dw)<|gm Y<|bE AU λZk Ji AU=>?_;cases zW;obtain rfl:=O (F Ji);refine ww<|ww<|gF Y ?_;obtain rfl:=O AU;refine pF Y ?_;refine RT.done ⟨by kernel_rfl,?_⟩;exact aV.n<|⟨false,h,wR []⟩
 refine gm Y<|lE (V Ji) λBl Dx Ji=>gq _ Y Y (yV (p:=xe) (q:=0) Dx) ?_;obtain rfl:=O Ji;refine gT Y ?_;obtain rfl:=O AU;refine pF Y ?_;refine RT.done ⟨by kernel_rfl,?_⟩;exact aV.n<|⟨Bl,h,wR []⟩;obtain rfl:=O (V AU);refine ww<|ww<|ww<|wu<|wu<|ww<|pT Y ?_;refine RT.done ⟨by kernel_rfl,?_⟩;exact aV.n<|⟨true,h,wR []⟩;refine gl Y Y (.k4 Y Y Y Y)<|gl Y Y (.k4 Y Y Y Y)<|bE (V Jh) λYI XB Jh=>gc (oA XB) ⟨Y,Y,aq⟩ ?_;obtain rfl:=O Jh;refine gT Y<|lE oZ λGI J9 oZ=>RT.wA (.some Y Y) _ Y Y T J9 ?_;obtain rfl:=O oZ;refine gT Y ?_;obtain rfl:=O yp;refine pF Y<|mv Y<|bE h λZl AW h=>?_;cases GI;refine gm Y<|lE (F AW) λzW Dw AW=>Co _ Y Y (o9 (p:=uH) (q:=0) Dw)<|gm Y<|bE AW λZm Jj AW=>?_;cases zW;obtain rfl:=O (F Jj);refine ww<|ww<|gF Y ?_;obtain rfl:=O AW;refine pF Y ?_;refine RT.done ⟨by kernel_rfl,?_⟩;exact aV.n<|⟨false,h,wR []⟩;refine gm Y<|lE (V Jj) λBl Dx Jj=>gq _ Y Y (yV (p:=xe) (q:=0) Dx) ?_;obtain rfl:=O Jj;refine gT Y ?_;obtain rfl:=O AW;refine pF Y ?_;refine RT.done ⟨by kernel_rfl,?_⟩;exact aV.n<|⟨Bl,h,wR []⟩;obtain rfl:=O (V AW);refine ww<|ww<|ww<|wu<|wu<|ww<|pT Y ?_;refine RT.done ⟨by kernel_rfl,?_⟩;exact aV.n<|⟨true,h,wR []⟩;obtain rfl:=O (V yp)
 refine ww<|ww<|ww<|wu<|wu<|wu<|wu<|wu<|wu<|wu<|wu<|wu<|wu<|wu<|wu<|ww<|pT Y<|mv Y<|bE h λZn XD h=>?_;obtain rfl:=O (V XD);refine ww<|ww<|ww<|wu<|wu<|ww<|pT Y ?_;refine RT.done ⟨by kernel_rfl,?_⟩;exact aV.n<|⟨true,h,wR []⟩
 try dsimp only
 refine aV.n ?_;cases HW;refine fs<|sr<|ld Y Y (.k4 Y Y Y Y)<|mv Y<|mv Y<|bE (F h) λKn h98 h=>cl (tN h98) ⟨Y,Y,Y,aq⟩<|ag Y<|dn<|qq<|bh mixed<|ld Y Y (.k4 Y Y Y Y)<|mv Y<|bE h λXt aeJ h=>cl (gQ aeJ) ⟨Y,Y,aq⟩<|ld Y Y (.k4 Y Y Y Y) ?_;refine mv Y<|bE h λBD Mb h=>cl (gQ Mb) ⟨Y,Y,aq⟩<|bE h λuo Mc h=>cl (gP Mc) ⟨Y,Y,aq⟩<|ag Y ?_;refine RT.done ⟨by kernel_rfl,?_⟩;refine aV.n<|qq<|qq ?_;refine bC h (λj88=>AS.cq 159 [(1,.sv (slc 4 (List.map eQ x1))),(5,.ptr 5 0),(140,aj j88)] [(5,⟨26,[ai bt,.sv (slc 1 (List.map (eS 4 eQ) bp)),.sv (slc 1 (List.map (eS 4 eQ) bD)),.sv (slc 4 (List.map eQ bG))]⟩)] []) (λh=>?_) (λD7 h=>?_);refine aW<|mv Y<|ld Y Y (.k4 Y Y Y Y)<|mv Y<|mv Y<|bE h λXv aeK h=>cl (tN aeK) ⟨Y,Y,Y,aq⟩<|lE h λHe TA h=>RT.neg .none _ Y T TA<|lE h λJ2 TB h=>ne _ Y Y (yV (p:=Kn) (q:=He) TB)<|mv Y<|bE h λI2 B5 h=>?_;cases J2;refine gm Y<|lE (F B5) λFR Uc B5=>Co _ Y Y (o9 (p:=Kn) (q:=0) Uc)<|gm Y<|gm Y<|bE B5 λNa Ue B5=>gc (jk Ue) ⟨Y,Y,aq⟩<|lE B5 λUq aeL B5=>RT.wA (.some Y Y) _ Y Y T aeL ?_;obtain rfl:=O B5;refine pF Y<|mv Y<|bE h λXE vG h=>?_;cases Uq;refine gm Y<|lE (F vG) λJ3 TD vG=>gq _ Y Y (yV (p:=uo) (q:=0) TD)<|gm Y<|bE vG λXF CD vG=>?_;cases J3;obtain rfl:=O (F CD)
 refine ww<|ww<|ww<|gF Y ?_;obtain rfl:=O vG;refine pF Y<|mv Y<|bE h λXG ym h=>gm Y<|lE (F ym) λDp Md ym=>Co _ Y Y (o9 (p:=uo) (q:=0) Md)<|gm Y<|bE ym λXH yn ym=>?_;cases Dp;obtain rfl:=O (F yn);refine ww<|ww<|ww<|ww<|ww<|gF Y ?_;obtain rfl:=O ym;exact pF Y<|dn<|⟨false,h,wR []⟩;refine gm Y<|gm Y<|gm Y<|bE (V yn) λBE Me yn=>gc (gP Me) ⟨Y,Y,aq⟩<|lE yn λzZ Mf yn=>gq _ Y Y (yV (p:=Kn) (q:=BE) Mf) ?_;obtain rfl:=O yn;refine gT Y ?_;obtain rfl:=O ym;exact pF Y<|dn<|⟨zZ,h,wR []⟩;refine gm Y<|gm Y<|lE (V CD) λNA aeM CD=>gq _ Y Y (yV (p:=Kn) (q:=uo) aeM) ?_;obtain rfl:=O CD;refine gT Y ?_;obtain rfl:=O vG;refine pF Y<|mv Y<|bE h λXI vH h=>?_;cases NA;refine gm Y<|lE (F vH) λDp Md vH=>Co _ Y Y (o9 (p:=uo) (q:=0) Md)<|gm Y<|bE vH λXJ yl vH=>?_;cases Dp;obtain rfl:=O (F yl);refine ww<|ww<|ww<|ww<|ww<|gF Y ?_;obtain rfl:=O vH;exact pF Y<|dn<|⟨false,h,wR []⟩;refine gm Y<|gm Y<|gm Y<|bE (V yl) λBE Me yl=>gc (gP Me) ⟨Y,Y,aq⟩<|lE yl λzZ Mf yl=>gq _ Y Y (yV (p:=Kn) (q:=BE) Mf) ?_;obtain rfl:=O yl;refine gT Y ?_;obtain rfl:=O vH;exact pF Y<|dn<|⟨zZ,h,wR []⟩;obtain rfl:=O (V vH);exact ww<|ww<|ww<|wu<|wu<|wu<|wu<|wu<|ww<|pT Y<|dn<|⟨true,h,wR []⟩;obtain rfl:=O (V vG)
 refine ww<|ww<|ww<|wu<|wu<|wu<|ww<|pT Y<|mv Y<|bE h λXK ND h=>?_;obtain rfl:=O (V ND);exact ww<|ww<|ww<|wu<|wu<|wu<|wu<|wu<|ww<|pT Y<|dn<|⟨true,h,wR []⟩;obtain rfl:=O (V B5);refine ww<|ww<|ww<|ww<|ww<|ww<|pT Y<|mv Y<|bE h λXL NF h=>?_;obtain rfl:=O (V NF);refine ww<|ww<|ww<|wu<|wu<|wu<|ww<|pT Y<|mv Y<|bE h λXM XN h=>?_;obtain rfl:=O (V XN);exact ww<|ww<|ww<|wu<|wu<|wu<|wu<|wu<|ww<|pT Y<|dn<|⟨true,h,wR []⟩
 try dsimp only
 refine aV.n ?_;cases D7;refine fs<|sr<|ld Y Y (.k4 Y Y Y Y)<|mv Y<|bE (F h) λXu aeN h=>cl (yj aeN) ⟨Y,Y,aq⟩ ?_;obtain⟨⟨So,I1⟩,aeO,h⟩:=bS h;refine cl ((tj aeO).w (args':=[_,_]) ⟨aB,au,aq⟩) ⟨Y,Y,aq⟩<|mv Y<|ex Y Y<|ex Y Y<|ag Y<|ag Y<|dn<|qq ?_;refine bC h (λj94=>AS.cq 159 [(10,aj j94)] [] []) (λh=>?_) (λD8 h=>?_);refine aW<|ld Y Y (.k4 Y Y Y Y)<|mv Y<|bE h λPC aeP h=>cl (cV aeP) ⟨Y,Y,aq⟩<|lE h λNy aeQ h=>nt Y _ aeQ<|mv Y<|bE h λze PR h=>?_;cases Ny;refine gm Y<|lE (F PR) λNz aeR PR=>gt_ Y _ aeR ?_;obtain rfl:=O PR;refine pF Y<|mv Y<|bE h λZo PS h=>?_;cases Nz;obtain rfl:=O (F PS);exact ww<|pF Y<|ag Y<|dn<|⟨false,h,wR []⟩;refine bE (V PS) λHX Uu PS=>gc (nB Uu) trivial ?_;obtain rfl:=O PS;exact pT Y<|ag Y<|dn<|⟨HX,h,wR []⟩;obtain rfl:=O (V PR);refine ww<|ww<|pT Y<|mv Y<|bE h λZp Uv h=>bE (V Uv) λHX Uu Uv=>gc (nB Uu) trivial ?_;obtain rfl:=O Uv;exact pT Y<|ag Y<|dn<|⟨HX,h,wR []⟩
 try dsimp only
 refine aV.n<|bf ?_;obtain rfl:=O h;exact R1 Y;refine cT<|sr<|ag Y<|dn<|bf<|aV.r ?_;obtain rfl:=O (V h);exact R1 Y;refine cT<|sr<|ag Y<|dn<|bf<|aV.r ?_;obtain rfl:=O (V h);exact R1 Y;refine cT<|sr<|bE (V h) λmK ri h=>cl (nB ri) trivial<|ag Y<|dn<|bf<|aV.r ?_;obtain rfl:=O h;exact R1 Y
end
end Go.Proofs.YtfoldppidpmchaaGreat
namespace Go.Fw
section
theorem gD{n:Nat}(h:n<=9223372036854775807):IntKind.i64.wrap (n:Int)=n:=kn (by omega)
theorem ct{x:Int}(h: -9223372036854775808<=x)(h':x<=9223372036854775807):IntKind.i64.wrap x=x:=kn ⟨h,h'⟩
theorem bZ{n:Nat}(h:n<9223372036854775807):IntKind.i64.wrap ((n:Int)+1)=((n+1:Nat):Int):=by rw[kn (by omega)];simp
theorem kL{n m:Nat}(h:n+m<=9223372036854775807):IntKind.i64.wrap ((n:Int)+(m:Int))=((n+m:Nat):Int):=by rw[kn (by omega)];simp
theorem AX{n:Nat}(h:n<=9223372036854775807):IntKind.i64.wrap (((n+1:Nat):Int)-1)=(n:Int):=by rw[kn (by omega)];omega
theorem bP{α:Type}{l:List α}{i:Nat}{a:α}(h:l[i]? =some a):cY l (i:Int)=some a:=by simp[cY,h]
theorem sI{α:Type}{l:List α}{a:α}(h:l[0]? =some a):cY l 0=some a:=by simp[cY,h]
theorem NG{α:Type}{l:List α}{a:α}(h:l[1]? =some a):cY l 1=some a:=by simp[cY,h]
theorem fe{α:Type}{l:List α}{i:Nat}(h:i<l.length):tB l (i:Int)=some i:=by simp[tB,h]
theorem iH{α:Type}{l:List α}{i:Nat}{y:α}(h:i<l.length):stM l i y=some (l.set i y):=by simp[stM,h]
theorem NH{α:Type}{b:Nat}{l k:List α}(h:(l.length+k.length)*b<=140737488355328)(h':l.length+k.length<=140737488355328):sX b l k=some (l++k):=by simp[sX,h,h']
theorem Sq{b n M:Nat}(hb:1<=b/\b<=1000)(h:n*b<=M):n<=M:=Nat.le_trans (Nat.le_mul_of_pos_right n hb.1) h
theorem uI{α:Type}{b:Nat}{l:List α}{x:α}(hb:1<=b/\b<=1000)(h:(l.length+1)*b<=140737488355328):sX b l [x]=some (l++[x]):=NH h (Sq hb h)
theorem Uw{α:Type}{b:Nat}{l k:List α}(hb:1<=b/\b<=1000)(h:(l.length+k.length)*b<=140737488355328):sX b l k=some (l++k):=NH h (Sq hb h)
theorem F1{b n:Nat}(hb:2<=b/\b<=1000)(h:b*n<=281474976710656):0<=(n:Int)/\(b:Int)*(n:Int)<=281474976710656/\(n:Int)<=140737488355328:=by
 have h2:(b:Int)*(n:Int)=((b*n:Nat):Int):=by simp
 have h3:2*n<=b*n:=Nat.mul_le_mul_right _ hb.1;rw[h2];exact⟨by omega,by omega,by omega⟩
theorem HY{α:Type}{b:Nat}{n:Nat}(hb:2<=b/\b<=1000)(h:b*n<=281474976710656):OU (α:=α) b (n:Int)=some []:=by
 unfold OU;rw[if_pos (F1 hb h)]
theorem qc{α:Type}{b:Nat}{n:Nat}{z:α}(hb:2<=b/\b<=1000)(h:b*n<=281474976710656):Ce b (n:Int) z=some (List.replicate n z):=by
 unfold Ce;rw[if_pos (F1 hb h),Int.toNat_natCast]
theorem NI{α:Type}{l:List α}{i j:Nat}(h:i<=j)(h':j<=l.length):yD l (i:Int) (j:Int)=some (cut l i j):=by
 unfold yD;rw[if_pos ⟨by omega,by omega,by omega⟩];simp
theorem m8{α:Type}{l:List α}{j:Nat}(h':j<=l.length):yD l 0 (j:Int)=some (l.take j):=by
 have:=NI (l:=l) (i:=0) (j:=j) (by omega) h';simpa[cut]using this
theorem qe{M a b:Nat}(h:b<=a)(h':a<M):nj M a b=a-b:=by
 unfold nj;rw[show(a:Int)-(b:Int)=((a-b:Nat):Int) by omega,<-Int.natCast_emod,Int.toNat_natCast,Nat.mod_eq_of_lt (by omega)]
theorem vI{M a b:Nat}(h:a<b)(h':b<=M):nj M a b=M+a-b:=by
 unfold nj;have:((a:Int)-(b:Int))%(M:Int)=((M+a-b:Nat):Int):=by
  rw[<-Int.add_emod_right (a:=(a:Int)-b),show(a:Int)-(b:Int)+(M:Int)=((M+a-b:Nat):Int) by omega,<-Int.natCast_emod,Nat.mod_eq_of_lt (by omega)]
 rw[this,Int.toNat_natCast]
theorem zf{o n i:Nat}(h:i<n):Ot o n (i:Int)=some (o+i):=by simp[Ot,h]
theorem o3{α:Type}{l l':List α}(h:l'.length=l.length):tD l l'=some ():=by simp[tD,h]
theorem Ea{M a b:Nat}(h:b≠0)(h':a<M):Db M a b=some (a/b):=by
 unfold Db;rw[if_neg h,Nat.mod_eq_of_lt (Nat.lt_of_le_of_lt (Nat.div_le_self _ _) h')]
theorem zg{a b:Nat}(h:b≠0):Bw a b=some (a%b):=by unfold Bw;rw[if_neg h]
theorem bF{α β:Type}{a:α}{f:α->Option β}:Option.bind (some a) f=f a:=by
 have h:∀o,o=some a->Option.bind o f=f a:=by intro o ho;rw[ho];rfl
 exact h _ Y
theorem fy{α:Type}{x y:α}:(bif true then x else y)=x:=by
 have h:∀b,b=true->(bif b then x else y)=x:=by intro b hb;rw[hb];rfl
 exact h _ Y
theorem fL{α:Type}{x y:α}:(bif false then x else y)=y:=by
 have h:∀b,b=false->(bif b then x else y)=y:=by intro b hb;rw[hb];rfl
 exact h _ Y
theorem gR{S E R:Type}{body:S->Option (S⊕E)}{s:S}{f:E->Option R}{r:R}(I:S->Prop)(Post:E->Prop)(μ:S->Nat)
  (step:∀s,I s->(∃s',body s=some (.inl s')/\I s'/\μ s'<μ s)\/(∃e,body s=some (.inr e)/\Post e)) (h:I s) (hf:∀e,Post e->f e=some r):(b8 body s).bind f=some r:=by
 obtain⟨e,h1,h2⟩:=wJ I Post μ step h;rw[h1];exact hf e h2
theorem mX{S E R:Type}{body:S->Option (S⊕E)}{s:S}{f:E->Option R}{Q:R->Prop}(I:S->Prop)(Post:E->Prop)(μ:S->Nat)
  (step:∀s,I s->(∃s',body s=some (.inl s')/\I s'/\μ s'<μ s)\/(∃e,body s=some (.inr e)/\Post e)) (h:I s) (hf:∀e,Post e->∃r,f e=some r/\Q r):∃r,(b8 body s).bind f=some r/\Q r:=by
 obtain⟨e,h1,h2⟩:=wJ I Post μ step h;rw[h1];exact hf e h2
theorem bH{S E R:Type}{body:S->Option (S⊕E)}{s:S}{f:E->Option R}{r:R}(st:Nat->S)(n:Nat)(e:E)(h0:s=st 0)(hs:∀k,k<n->body (st k)=some (.inl (st (k+1))))(he:body (st n)=some (.inr e))(hf:f e=some r):(b8 body s).bind f=some r:=by
 rw[h0,Ly st n hs he];exact hf
theorem qf{S R:Type}{body:Nat->S->Option S}{s:S}{f:S->Option R}{r:R}(st:Nat->S){n:Nat}(h0:s=st 0)(hs:∀k,k<n->body k (st k)=some (st (k+1)))(hf:f (st n)=some r):(ou body n s).bind f=some r:=by
 rw[h0,Ci st n hs];exact hf
theorem aA{α β:Type}{x:Option α}{a:α}{f:α->Option β}{r:Option β}(h:x=some a)(hf:f a=r):x.bind f=r:=by rw[h];exact hf
theorem bX{α:Type}{b:Bool}{x y r:α}(hb:b=true)(h:x=r):(bif b then x else y)=r:=by rw[hb];exact h
theorem bQ{α:Type}{b:Bool}{x y r:α}(hb:b=false)(h:y=r):(bif b then x else y)=r:=by rw[hb];exact h
end
section
def val(B:Nat):List Nat->Nat
 |[]=>0
 |x::l=>x+B*val B l
def dR(B:Nat):Nat->Nat->List Nat
 |0,_=>[]
 |n+1,v=>v%B::dR B n (v/B)
def jc(ws:List Nat):List Nat:=(ws.reverse.dropWhile (· ==0)).reverse
def can(B v:Nat):List Nat:=jc (dR B v v)
theorem bB(B:Nat):∀n v,(dR B n v).length=n
 |0,_=>rfl
 |n+1,v=>by simp[dR,bB B n]
theorem kM(B:Nat):∀n v,val B (dR B n v)=v%B^n
 |0,v=>by simp[dR,val,Nat.mod_one]
 |n+1,v=>by
  rw[dR,val,kM B n,Nat.pow_succ,Nat.mul_comm (B^n) B,Nat.mod_mul]
theorem mB{B:Nat}(hB:0<B):∀(n v x:Nat),x∈dR B n v->x<B
 |n+1,v,x,h=>by
  rcases List.mem_cons.1 h with rfl|h
  ·exact Nat.mod_lt _ hB
  exact mB hB n _ x h
theorem eT{B:Nat}:∀(l:List Nat),(∀x∈l,x<B)->val B l<B^l.length
 |[],_=>by simp[val]
 |x::l,h=>by
  have h1:=eT l (λy hy=>h y (List.mem_cons_of_mem _ hy));have h2:=h x (by simp);rw[val,List.length_cons,Nat.pow_succ]
  calc x+B*val B l<B+B*val B l:=by omega
   _=B*(val B l+1):=by rw[Nat.mul_add];omega
   _<=B*B^l.length:=Nat.mul_le_mul_left _ h1
   _=B^l.length*B:=Nat.mul_comm _ _
theorem zh{B:Nat}:∀(l:List Nat),(∀x∈l,x<B)->dR B l.length (val B l)=l
 |[],_=>rfl
 |x::l,h=>by
  have h2:=h x (by simp);have hB:0<B:=by omega
  rw[List.length_cons,dR,val,Nat.add_mul_mod_self_left,Nat.mod_eq_of_lt h2,Nat.add_mul_div_left _ _ hB,Nat.div_eq_of_lt h2,Nat.zero_add,zh l (λy hy=>h y (List.mem_cons_of_mem _ hy))]
theorem vJ{B:Nat}:∀(n v j:Nat),j<n->(dR B n v)[j]? =some (v/B^j%B)
 |n+1,v,0,_=>by simp[dR]
 |n+1,v,j+1,h=>by
  rw[dR,List.getElem?_cons_succ,vJ n _ j (by omega),Nat.div_div_eq_div_mul,Nat.pow_succ,Nat.mul_comm B]
theorem Eb{B:Nat}:∀(a b:List Nat),val B (a++b)=val B a+B^a.length*val B b
 |[],b=>by simp[val]
 |x::a,b=>by
  rw[List.cons_append,val,val,Eb a b,List.length_cons,Nat.pow_succ,Nat.mul_add,Nat.add_assoc,Nat.mul_comm (B^a.length) B,Nat.mul_assoc]
theorem gS{B:Nat}:∀(n v:Nat),dR B (n+1) v=dR B n v++[v/B^n%B]
 |0,v=>by simp[dR]
 |n+1,v=>by
  rw[dR,gS n,dR,List.cons_append,Nat.div_div_eq_div_mul,Nat.pow_succ,Nat.mul_comm B]
theorem o4(B:Nat):∀k,dR B k 0=List.replicate k 0
 |0=>rfl
 |k+1=>by rw[dR,Nat.zero_mod,Nat.zero_div,o4 B k];rfl
theorem AY{B:Nat}(hB:0<B):∀(n k v:Nat),v<B^n->dR B (n+k) v=dR B n v++List.replicate k 0
 |0,k,v,h=>by
  have:v=0:=by simpa using h
  subst this;rw[Nat.zero_add,o4];rfl
 |n+1,k,v,h=>by
  rw[show n+1+k=n+k+1 by omega,dR,dR,List.cons_append,AY hB n k (v/B) (by rw[Nat.div_lt_iff_lt_mul hB];rwa[Nat.pow_succ]at h)]
theorem qg{B:Nat}(hB:2<=B):∀v,v<B^v
 |0=>by simp
 |v+1=>by
  have:=qg hB v;rw[Nat.pow_succ];have h2:B^v*2<=B^v*B:=Nat.mul_le_mul_left _ hB;omega
theorem nC(l:List Nat):jc (l++[0])=jc l:=by simp[jc]
theorem rY(l:List Nat):∀k,jc (l++List.replicate k 0)=jc l
 |0=>by simp
 |k+1=>by rw[List.replicate_succ',<-List.append_assoc,nC,rY l k]
theorem qh(l:List Nat){x:Nat}(h:x≠0):jc (l++[x])=l++[x]:=by simp[jc,h]
theorem uJ(xs:List Nat):xs=[]\/(∃ys,xs=ys++[0])\/(∃ys y,y≠0/\xs=ys++[y]):=by
 rcases List.eq_nil_or_concat xs with rfl|⟨ys,y,rfl⟩
 ·exact .inl Y
 by_cases hy:y=0
 ·subst hy;exact .inr (.inl ⟨ys,by simp⟩)
 exact .inr (.inr ⟨ys,y,hy,by simp⟩)
theorem xg:∀(n:Nat) (l:List Nat),l.length=n->∃k,l=jc l++List.replicate k 0:=by
 intro n
 induction n with
 |zero=>intro l h;obtain rfl:=List.length_eq_zero_iff.1 h;exact⟨0,Y⟩
 |succ n ih=>
  intro l h;rcases uJ l with rfl|⟨ys,rfl⟩|⟨ys,y,hy,rfl⟩
  ·simp at h
  ·obtain⟨k,hk⟩:=ih ys (by simpa using h);refine⟨k+1,?_⟩;rw[nC,List.replicate_succ',<-List.append_assoc,<-hk]
  exact⟨0,by rw[qh _ hy];simp⟩
theorem Kv{l:List Nat}{x:Nat}(h:x∈jc l):x∈l:=by
 obtain⟨k,hk⟩:=xg _ l Y;rw[hk];exact List.mem_append_left _ h
theorem CI(l:List Nat):(jc l).length<=l.length:=by
 obtain⟨k,hk⟩:=xg _ l Y;have:=congrArg List.length hk;rw[List.length_append]at this;omega
theorem CJ(B:Nat):∀k,val B (List.replicate k 0)=0
 |0=>rfl
 |k+1=>by rw[List.replicate_succ,val,CJ B k];simp
theorem NJ(B:Nat)(l:List Nat):val B (jc l)=val B l:=by
 obtain⟨k,hk⟩:=xg _ l Y
 conv=>rhs;rw[hk,Eb,CJ]
 simp
theorem mc{B:Nat}(hB:2<=B){n v:Nat}(h:v<B^n):jc (dR B n v)=can B v:=by
 have hv:=qg hB v;rcases Nat.le_total n v with hn|hn
 ·obtain⟨k,rfl⟩:=Nat.exists_eq_add_of_le hn;rw[can,AY (by omega) n k _ h,rY]
 obtain⟨k,rfl⟩:=Nat.exists_eq_add_of_le hn;rw[can,AY (by omega) v k _ hv,rY]
theorem jd{B:Nat}(hB:2<=B){l:List Nat}(h:∀x∈l,x<B):jc l=can B (val B l):=by
 conv=>lhs;rw[<-zh l h]
 exact mc hB (eT l h)
theorem jo{B:Nat}(hB:2<=B)(v:Nat):val B (can B v)=v:=by
 rw[can,NJ,kM,Nat.mod_eq_of_lt (qg hB v)]
theorem eJ{B:Nat}(hB:2<=B){v x:Nat}(h:x∈can B v):x<B:=mB (by omega) v v x (Kv h)
theorem nD(B:Nat):can B 0=[]:=rfl
theorem vK{B:Nat}(hB:2<=B){v:Nat}(h:can B v=[]):v=0:=by have:=jo hB v;rw[h]at this;exact this.symm
theorem PT{B:Nat}(hB:2<=B){v n:Nat}(h:v<B^n):(can B v).length<=n:=by
 rw[<-mc hB h];have:=CI (dR B n v);rwa[bB]at this
theorem PU{B:Nat}(hB:2<=B)(v:Nat):jc (can B v)=can B v:=by
 rw[jd hB (λx hx=>eJ hB hx),jo hB]
theorem Jk{B:Nat}(hB:2<=B)(v:Nat):can B v=dR B (can B v).length v:=by
 have:=zh (can B v) (λx hx=>eJ hB hx);rw[jo hB]at this;exact this.symm
theorem cj{B:Nat}(hB:2<=B)(v:Nat):v<B^(can B v).length:=by
 have:=eT (can B v) (λx hx=>eJ hB hx);rwa[jo hB]at this
theorem sJ{B:Nat}(hB:2<=B){v j:Nat}(h:j<(can B v).length):(can B v)[j]? =some (v/B^j%B):=by
 rw[Jk hB v]at h⊢;rw[bB]at h;exact vJ _ _ _ h
theorem AZ{B:Nat}(hB:2<=B){v j:Nat}(h:(can B v).length<=j):v/B^j=0:=by
 refine Nat.div_eq_of_lt (Nat.lt_of_lt_of_le (cj hB v) ?_);exact Nat.pow_le_pow_right (by omega) h
theorem F2{B:Nat}(hB:2<=B){v:Nat}(h:v≠0):∃l x,x≠0/\can B v=l++[x]:=by
 rcases uJ (can B v)with e|⟨ys,e⟩|⟨ys,y,hy,e⟩
 ·exact absurd (vK hB e) h
 ·exfalso;have h1:=PU hB v;rw[e,nC]at h1;have h2:=CI ys;rw[h1]at h2;simp at h2;omega
 exact⟨ys,y,hy,e⟩
theorem oD{B:Nat}(hB:2<=B){v n:Nat}(h:n<(can B v).length):B^n<=v:=by
 by_cases h0:v=0
 ·subst h0;simp[nD]at h
 obtain⟨l,x,hx,e⟩:=F2 hB h0;have h1:=jo hB v;rw[e,Eb]at h1;have hl:n<=l.length:=by rw[e]at h;simp at h;omega
 have h2:B^n<=B^l.length:=Nat.pow_le_pow_right (by omega) hl;have h3:B^l.length<=B^l.length*val B [x]:=Nat.le_mul_of_pos_right _ (by simp[val];omega);omega
theorem bR{B:Nat}(hB:2<=B){v n:Nat}:(can B v).length<=n↔v<B^n:=by
 refine⟨λh=>?_,PT hB⟩;exact Nat.lt_of_lt_of_le (cj hB v) (Nat.pow_le_pow_right (by omega) h)
theorem NK{B:Nat}(hB:2<=B){l:List Nat}{x:Nat}(hx:x≠0)(h:∀y∈l++[x],y<B):l++[x]=can B (val B (l++[x])):=by
 rw[<-jd hB h,qh _ hx]
theorem o5{B:Nat}:∀(l:List Nat),(∀x∈l,x<B)->∀k,l.getD k 0=val B l/B^k%B
 |[],_,k=>by simp[val]
 |x::l,h,0=>by
  have h2:=h x (by simp);simp[val,Nat.add_mul_mod_self_left,Nat.mod_eq_of_lt h2]
 |x::l,h,k+1=>by
  have h2:=h x (by simp);have hB:0<B:=by omega
  rw[List.getD_cons_succ,o5 l (λy hy=>h y (List.mem_cons_of_mem _ hy)) k,val,Nat.pow_succ,Nat.mul_comm (B^k) B,<-Nat.div_div_eq_div_mul,Nat.add_mul_div_left _ _ hB,Nat.div_eq_of_lt h2,Nat.zero_add]
theorem fV(B V k:Nat):V%B^(k+1)=V%B^k+B^k*(V/B^k%B):=by
 rw[Nat.pow_succ,Nat.mod_mul]
def zj(B V W k:Nat):Nat:=(V%B^k+W%B^k)/B^k
theorem A0{B:Nat}(hB:0<B)(V W k:Nat):zj B V W k<=1:=by
 have hP:0<B^k:=Nat.pow_pos hB;have h1:=Nat.mod_lt V hP;have h2:=Nat.mod_lt W hP;have:zj B V W k<2:=by rw[zj,Nat.div_lt_iff_lt_mul hP];omega
 omega
theorem A3{B:Nat}(hB:0<B)(V W k:Nat):(V/B^k%B+W/B^k%B+zj B V W k)/B=zj B V W (k+1):=by
 have hP:0<B^k:=Nat.pow_pos hB;rw[zj,zj,fV,fV,Nat.pow_succ,<-Nat.div_div_eq_div_mul];congr 1;rw[show V%B^k+B^k*(V/B^k%B)+(W%B^k+B^k*(W/B^k%B))=(V%B^k+W%B^k)+B^k*(V/B^k%B+W/B^k%B) by rw[Nat.mul_add];omega,Nat.add_mul_div_left _ _ hP];omega
theorem zk{B:Nat}(hB:0<B)(V W k:Nat):(V/B^k%B+W/B^k%B+zj B V W k)%B=(V+W)/B^k%B:=by
 have hP:0<B^k:=Nat.pow_pos hB;have h:(V+W)/B^k=V/B^k+W/B^k+zj B V W k:=by
  have e1:=Nat.div_add_mod V (B^k);have e2:=Nat.div_add_mod W (B^k);rw[zj]
  conv=>lhs;rw[<-e1,<-e2]
  rw[show B^k*(V/B^k)+V%B^k+(B^k*(W/B^k)+W%B^k)=(V%B^k+W%B^k)+B^k*(V/B^k+W/B^k) by rw[Nat.mul_add];omega,Nat.add_mul_div_left _ _ hP];omega
 rw[h];simp[Nat.add_mod]
theorem Ec{B:Nat}{V W k:Nat}(hV:V<B^k)(hW:W<B^k):zj B V W k=(V+W)/B^k:=by
 rw[zj,Nat.mod_eq_of_lt hV,Nat.mod_eq_of_lt hW]
theorem A4(B V W:Nat):zj B V W 0=0:=by simp[zj,Nat.mod_one]
def xh(B V W k:Nat):Nat:=(V%B^k+B^k-W%B^k)/B^k
theorem A5(B V W:Nat):xh B V W 0=1:=by simp[xh,Nat.mod_one]
theorem HZ{B:Nat}(hB:0<B)(V W k:Nat):xh B V W k<=1:=by
 have hP:0<B^k:=Nat.pow_pos hB;have h1:=Nat.mod_lt V hP;have:xh B V W k<2:=by
  rw[xh,Nat.div_lt_iff_lt_mul hP];generalize W%B^k=y at*;generalize V%B^k=x at*;omega
 omega
theorem Jl{B:Nat}(hB:0<B)(V W k:Nat):V%B^(k+1)+B^(k+1)-W%B^(k+1)=(V%B^k+B^k-W%B^k)+B^k*(V/B^k%B+(B-1-W/B^k%B)):=by
 have hP:0<B^k:=Nat.pow_pos hB;have h1:=Nat.mod_lt V hP;have h2:=Nat.mod_lt W hP;have h3:=Nat.mod_lt (W/B^k) hB;rw[fV,fV,Nat.pow_succ];generalize B^k=p at*;generalize V/p%B=x at*;generalize W/p%B=y at*;obtain⟨z,rfl⟩:∃z,B=y+1+z:=⟨B-y-1,by omega⟩;have e1:y+1+z-1-y=z:=by omega
 rw[e1,Nat.mul_add p x z,Nat.mul_add p (y+1) z,Nat.mul_add p y 1];omega
theorem A6{B:Nat}(hB:0<B)(V W k:Nat):(V/B^k%B+(B-1-W/B^k%B)+xh B V W k)/B=xh B V W (k+1):=by
 have hP:0<B^k:=Nat.pow_pos hB;rw[xh,xh,Jl hB,Nat.pow_succ,<-Nat.div_div_eq_div_mul,Nat.add_mul_div_left _ _ hP];congr 1;omega
theorem H6{Q V W:Nat}(hQ:0<Q)(h:W<=V):(V%Q+Q-W%Q)%Q=(V-W)%Q:=by
 have e1:=Nat.div_add_mod V Q;have e2:=Nat.div_add_mod W Q;have h1:=Nat.mod_lt V hQ;have h2:=Nat.mod_lt W hQ;have hq:W/Q<=V/Q:=Nat.div_le_div_right h;generalize V%Q=r at*;generalize W%Q=s at*;generalize V/Q=a at*;generalize W/Q=b at*;obtain⟨c,rfl⟩:=Nat.exists_eq_add_of_le hq;rw[Nat.mul_add]at e1;rcases Nat.lt_or_ge r s with hrs|hrs
 ·cases c with
  |zero=>simp at e1;omega
  |succ c=>
   rw[Nat.mul_add,Nat.mul_one]at e1;rw[show V-W=Q*c+(r+Q-s) by omega,Nat.mul_add_mod]
 rw[show V-W=Q*c+(r-s) by omega,Nat.mul_add_mod,show r+Q-s=r-s+Q by omega,Nat.add_mod_right]
theorem Ed{B:Nat}(hB:0<B){V W:Nat}(h:W<=V)(k:Nat):(V/B^k%B+(B-1-W/B^k%B)+xh B V W k)%B=(V-W)/B^k%B:=by
 have hP:0<B^k:=Nat.pow_pos hB;have hQ:0<B^(k+1):=Nat.pow_pos hB;have e:=H6 hQ h;have e2:V/B^k%B+(B-1-W/B^k%B)+xh B V W k=(V%B^(k+1)+B^(k+1)-W%B^(k+1))/B^k:=by
  rw[Jl hB,Nat.add_mul_div_left _ _ hP,xh];omega
 rw[e2,<-Nat.mod_mul_right_div_self,<-Nat.mod_mul_right_div_self,<-Nat.pow_succ,e]
end
section
theorem Jm{B:Nat}(hB:0<B):∀(j N lo p d hi:Nat),lo<B^j->p<B->d<B->j<N->(dR B N (lo+B^j*(p+B*hi))).set j d=dR B N (lo+B^j*(d+B*hi))
 |0,N+1,lo,p,d,hi,hlo,hp,hd,_=>by
  have:lo=0:=by simpa using hlo
  subst this;simp only[Nat.pow_zero,Nat.zero_add,Nat.one_mul,dR,List.set_cons_zero,Nat.add_mul_mod_self_left,Nat.mod_eq_of_lt hd];rw[Nat.add_mul_div_left _ _ hB,Nat.add_mul_div_left _ _ hB,Nat.div_eq_of_lt hp,Nat.div_eq_of_lt hd]
 |j+1,N+1,lo,p,d,hi,hlo,hp,hd,hN=>by
  have e:∀q,(lo+B^(j+1)*(q+B*hi))%B=lo%B:=λq=>by
   rw[Nat.pow_succ,Nat.mul_comm (B^j) B,Nat.mul_assoc,Nat.add_mul_mod_self_left]
  have e2:∀q,(lo+B^(j+1)*(q+B*hi))/B=lo/B+B^j*(q+B*hi):=λq=>by
   rw[Nat.pow_succ,Nat.mul_comm (B^j) B,Nat.mul_assoc,Nat.add_mul_div_left _ _ hB]
  have aeS:lo/B<B^j:=by rw[Nat.div_lt_iff_lt_mul hB];rwa[Nat.pow_succ]at hlo
  rw[dR,dR,List.set_cons_succ,e,e,e2,e2,Jm hB j N (lo/B) p d hi aeS hp hd (by omega)]
theorem sK{B:Nat}(hB:0<B){N j u u' d:Nat}(hj:j<N)(hd:d<B)(hlo:u'%B^j=u%B^j)(H7:u'/B^j%B=d)(hhi:u'/B^(j+1)=u/B^(j+1)):(dR B N u).set j d=dR B N u':=by
 have hP:0<B^j:=Nat.pow_pos hB;have f:∀u,u=u%B^j+B^j*(u/B^j%B+B*(u/B^(j+1))):=λu=>by
  have e1:=Nat.mod_add_div u (B^j);have e2:=Kw B u j;rw[Nat.add_comm]at e2;rw[<-e2,e1]
 rw[f u,Jm hB j N _ _ d _ (Nat.mod_lt _ hP) (Nat.mod_lt _ hB) hd hj]
 conv=>rhs;rw[f u',hlo,H7,hhi]
where
 Kw (B v m:Nat):v/B^m=B*(v/B^(m+1))+v/B^m%B:=by
  rw[Nat.pow_succ,<-Nat.div_div_eq_div_mul,Nat.div_add_mod]
def mT(B V W i k:Nat):Nat:=((V%B^i)*W)%B^(i+k)+B^i*(V/B^i%B)*(W%B^k)
def mC(B V W i k:Nat):Nat:=mT B V W i k/B^(i+k)
def mV(B V W i k:Nat):Nat:=mT B V W i k%B^(i+k)+B^(i+k)*(((V%B^i)*W)/B^(i+k))
theorem Sr{B:Nat}(hB:0<B)(V W i k:Nat):mT B V W i k<B^(i+k)*B:=by
 have h1:((V%B^i)*W)%B^(i+k)<B^(i+k):=Nat.mod_lt _ (Nat.pow_pos hB);have h2:V/B^i%B<B:=Nat.mod_lt _ hB;have h3:W%B^k<B^k:=Nat.mod_lt _ (Nat.pow_pos hB);have h4:B^i*(V/B^i%B)*(W%B^k)<=B^i*(B-1)*B^k:=Nat.mul_le_mul (Nat.mul_le_mul_left _ (by omega)) (Nat.le_of_lt h3);have h5:B^i*(B-1)*B^k=B^(i+k)*(B-1):=by rw[Nat.pow_add,Nat.mul_assoc,Nat.mul_assoc,Nat.mul_comm (B-1)]
 have h6:B^(i+k)*B=B^(i+k)*(B-1)+B^(i+k):=by
  obtain⟨b,rfl⟩:∃b,B=b+1:=⟨B-1,by omega⟩;rw[Nat.add_sub_cancel,Nat.mul_add,Nat.mul_one]
 unfold mT;omega
theorem Ss{B:Nat}(hB:0<B)(V W i k:Nat):mC B V W i k<B:=by
 rw[mC,Nat.div_lt_iff_lt_mul (Nat.pow_pos hB),Nat.mul_comm];exact Sr hB V W i k
theorem Ee{B:Nat}(V W i k:Nat):mT B V W i (k+1)=mT B V W i k+B^(i+k)*(((V%B^i)*W)/B^(i+k)%B+(V/B^i%B)*(W/B^k%B)):=by
 have e1:((V%B^i)*W)%B^(i+(k+1))=((V%B^i)*W)%B^(i+k)+B^(i+k)*(((V%B^i)*W)/B^(i+k)%B):=by rw[<-Nat.add_assoc,fV]
 have e2:W%B^(k+1)=W%B^k+B^k*(W/B^k%B):=fV B W k;unfold mT;rw[e1,e2,Nat.mul_add,Nat.mul_add (B^(i+k))];have e3:B^i*(V/B^i%B)*(B^k*(W/B^k%B))=B^(i+k)*((V/B^i%B)*(W/B^k%B)):=by
  rw[Nat.pow_add,Nat.mul_assoc,Nat.mul_assoc,Nat.mul_left_comm (V/B^i%B)]
 omega
theorem PV{B:Nat}(hB:0<B)(V W i k:Nat):(((V%B^i)*W)/B^(i+k)%B+(V/B^i%B)*(W/B^k%B)+mC B V W i k)/B=mC B V W i (k+1):=by
 have hP:0<B^(i+k):=Nat.pow_pos hB;rw[mC,mC,Ee,<-Nat.add_assoc,Nat.pow_succ,<-Nat.div_div_eq_div_mul,Nat.add_mul_div_left _ _ hP];congr 1;omega
theorem St{B:Nat}(V W i k:Nat):mV B V W i k%B^(i+k)=mT B V W i k%B^(i+k):=by
 rw[mV,Nat.add_mul_mod_self_left,Nat.mod_mod]
theorem Jn{B:Nat}(hB:0<B)(V W i k:Nat):mV B V W i k/B^(i+k)=((V%B^i)*W)/B^(i+k):=by
 have hP:0<B^(i+k):=Nat.pow_pos hB;rw[mV,Nat.add_mul_div_left _ _ hP,Nat.div_eq_of_lt (Nat.mod_lt _ hP),Nat.zero_add]
theorem Ux{B:Nat}(hB:0<B){V W i k N:Nat}(h:i+k<N):(dR B N (mV B V W i k))[i+k]? =some (((V%B^i)*W)/B^(i+k)%B):=by
 rw[vJ _ _ _ h,Jn hB]
theorem PW{B:Nat}(hB:0<B){V W i k N:Nat}(h:i+k<N):
  (dR B N (mV B V W i k)).set (i+k) ((((V%B^i)*W)/B^(i+k)%B+(V/B^i%B)*(W/B^k%B)+mC B V W i k)%B)=dR B N (mV B V W i (k+1)):=by
 have hP:0<B^(i+k):=Nat.pow_pos hB;have hPB:B^(i+(k+1))=B^(i+k)*B:=by rw[<-Nat.add_assoc,Nat.pow_succ]
 have hs:mT B V W i (k+1)/B^(i+k)=((V%B^i)*W)/B^(i+k)%B+(V/B^i%B)*(W/B^k%B)+mC B V W i k:=by
  rw[Ee,Nat.add_mul_div_left _ _ hP,mC];omega
 have ht:mT B V W i (k+1)%B^(i+k)=mT B V W i k%B^(i+k):=by rw[Ee,Nat.add_mul_mod_self_left]
 refine sK hB h (Nat.mod_lt _ hB) ?_ ?_ ?_
 ·rw[St,<-ht,mV,hPB,Nat.mul_assoc,Nat.add_mul_mod_self_left,Nat.mod_mul_right_mod]
 ·rw[mV,hPB,Nat.mul_assoc,Nat.add_mul_div_left _ _ hP,Nat.add_mul_mod_self_left,Nat.mod_mul_right_div_self,Nat.mod_mod,hs]
 rw[show i+k+1=i+(k+1) by omega,Jn hB,show i+(k+1)=i+k+1 by omega,Nat.pow_succ,<-Nat.div_div_eq_div_mul,<-Nat.div_div_eq_div_mul,Jn hB]
theorem PX{B:Nat}(V W i:Nat):mV B V W i 0=(V%B^i)*W:=by
 rw[mV,mT,Nat.pow_zero,Nat.mod_one,Nat.mul_zero,Nat.add_zero,Nat.add_zero,Nat.mod_mod,Nat.mod_add_div]
theorem PY{B:Nat}(hB:0<B)(V W i:Nat):mC B V W i 0=0:=by
 rw[mC,mT,Nat.pow_zero,Nat.mod_one,Nat.mul_zero,Nat.add_zero,Nat.add_zero];exact Nat.div_eq_of_lt (Nat.mod_lt _ (Nat.pow_pos hB))
theorem Uy{B:Nat}(hB:0<B){V W i n N:Nat}(hW:W<B^n)(h:i+n<N):(dR B N (mV B V W i n)).set (i+n) ((0+mC B V W i n)%B)=dR B N ((V%B^(i+1))*W):=by
 have hP:0<B^(i+n):=Nat.pow_pos hB;have hp:(V%B^i)*W<B^(i+n):=by
  have h1:V%B^i<B^i:=Nat.mod_lt _ (Nat.pow_pos hB);rw[Nat.pow_add];by_cases h0:W=0
  ·subst h0;rw[Nat.mul_zero];exact Nat.mul_pos (Nat.pow_pos hB) (Nat.pow_pos hB)
  calc (V%B^i)*W<B^i*W:=Nat.mul_lt_mul_of_pos_right h1 (by omega)
   _<=B^i*B^n:=Nat.mul_le_mul_left _ (Nat.le_of_lt hW)
 have hT:mT B V W i n=(V%B^(i+1))*W:=by
  rw[mT,Nat.mod_eq_of_lt hp,Nat.mod_eq_of_lt hW,fV,Nat.add_mul]
 have hlt:=Sr hB V W i n;rw[hT]at hlt;refine sK hB h (Nat.mod_lt _ hB) ?_ ?_ ?_
 ·rw[St,hT]
 ·rw[Nat.zero_add,mC,hT]
 rw[Nat.pow_succ B (i+n),Nat.div_eq_of_lt hlt,<-Nat.div_div_eq_div_mul,Jn hB,Nat.div_eq_of_lt hp,Nat.zero_div]
def sT(B V f e i:Nat):Nat:=V%B^i*f+e
def sC(B V f e i:Nat):Nat:=sT B V f e i/B^i
theorem Ef(B V f e:Nat):sC B V f e 0=e:=by simp[sC,sT,Nat.mod_one]
theorem Jo(B V f e i:Nat):sT B V f e (i+1)=sT B V f e i+B^i*(V/B^i%B*f):=by
 unfold sT;rw[fV,Nat.add_mul,Nat.mul_assoc];omega
theorem Eg{B:Nat}(hB:0<B)(V f e i:Nat):(V/B^i%B*f+sC B V f e i)/B=sC B V f e (i+1):=by
 have hP:0<B^i:=Nat.pow_pos hB;rw[sC,sC,Jo,Nat.pow_succ,<-Nat.div_div_eq_div_mul,Nat.add_mul_div_left _ _ hP];congr 1;omega
theorem H8{B:Nat}(hB:0<B)(V f e i:Nat):(V/B^i%B*f+sC B V f e i)%B=(V*f+e)/B^i%B:=by
 have hP:0<B^i:=Nat.pow_pos hB;have h1:V*f+e=sT B V f e (i+1)+B^i*(B*(V/B^(i+1)*f)):=by
  have e1:=Nat.mod_add_div V (B^(i+1));unfold sT
  conv=>lhs;rw[<-e1,Nat.add_mul]
  rw[Nat.pow_succ,Nat.mul_assoc,Nat.mul_assoc];omega
 rw[h1,Nat.add_mul_div_left _ _ hP,Nat.add_mul_mod_self_left,Jo,Nat.add_mul_div_left _ _ hP,sC,Nat.add_comm]
theorem NL{B:Nat}(hB:0<B){V f e:Nat}(hf:f<B)(he:e<B)(i:Nat):sC B V f e i<B:=by
 have hP:0<B^i:=Nat.pow_pos hB;rw[sC,Nat.div_lt_iff_lt_mul hP];have h1:V%B^i<=B^i-1:=by have:=Nat.mod_lt V hP;omega
 have h2:V%B^i*f<=(B^i-1)*(B-1):=Nat.mul_le_mul h1 (by omega);obtain⟨p,hp⟩:∃p,B^i=p+1:=⟨B^i-1,by omega⟩;obtain⟨b,rfl⟩:∃b,B=b+1:=⟨B-1,by omega⟩;unfold sT;rw[hp]at h2⊢;rw[Nat.add_sub_cancel,Nat.add_sub_cancel]at h2;have h3:(b+1)*(p+1)=p*b+b+p+1:=by rw[Nat.add_mul,Nat.mul_add,Nat.mul_comm b p];omega
 omega
theorem H9{B V f e i:Nat}(h:V<B^i):sC B V f e i=(V*f+e)/B^i:=by rw[sC,sT,Nat.mod_eq_of_lt h]
def sU(B V f e i:Nat):Nat:=sT B V f e i%B^i+B^i*(V/B^i)
def qU(B V d n:Nat):Nat:=V%B^n+B^n*(V/B^n/d)
theorem PZ(B V d:Nat):qU B V d 0=V/d:=by simp[qU,Nat.mod_one]
theorem Uz{B V d n:Nat}(h:V<B^n):qU B V d n=V:=by simp[qU,Nat.mod_eq_of_lt h,Nat.div_eq_of_lt h]
theorem P0(B V m:Nat):V/B^m=B*(V/B^(m+1))+V/B^m%B:=by rw[Nat.pow_succ,<-Nat.div_div_eq_div_mul,Nat.div_add_mod]
theorem Su{B d:Nat}(V m:Nat):V/B^m=(V/B^(m+1)%d*B+V/B^m%B)+d*(B*(V/B^(m+1)/d)):=by
 have h1:=P0 B V m;have h2:=Nat.mod_add_div (V/B^(m+1)) d;generalize V/B^(m+1)=q at*;generalize V/B^m%B=y at*;rw[h1]
 conv=>lhs;rw[<-h2]
 rw[Nat.mul_add,Nat.mul_left_comm B d,Nat.mul_comm B (q%d)];omega
theorem Sv{B d:Nat}(hd:0<d)(V m:Nat):V/B^m/d=B*(V/B^(m+1)/d)+(V/B^(m+1)%d*B+V/B^m%B)/d:=by
 conv=>lhs;rw[Su (B:=B) (d:=d) V m]
 rw[Nat.add_mul_div_left _ _ hd,Nat.add_comm]
theorem NM{B d:Nat}(V m:Nat):V/B^m%d=(V/B^(m+1)%d*B+V/B^m%B)%d:=by
 conv=>lhs;rw[Su (B:=B) (d:=d) V m]
 rw[Nat.add_mul_mod_self_left]
theorem P1{B d:Nat}(hB:0<B)(hd:0<d)(V m:Nat):V/B^(m+1)%d*B+V/B^m%B<d*B:=by
 have h1:=Nat.mod_lt (V/B^(m+1)) hd;have h2:=Nat.mod_lt (V/B^m) hB;have h3:(V/B^(m+1)%d+1)*B<=d*B:=Nat.mul_le_mul_right _ h1;rw[Nat.add_mul]at h3;omega
theorem NN{B:Nat}(hB:0<B)(V d n:Nat):qU B V d n/B^n=V/B^n/d:=by
 have hP:0<B^n:=Nat.pow_pos hB;rw[qU,Nat.add_mul_div_left _ _ hP,Nat.div_eq_of_lt (Nat.mod_lt _ hP),Nat.zero_add]
theorem XO(B V d n:Nat):qU B V d n%B^n=V%B^n:=by rw[qU,Nat.add_mul_mod_self_left,Nat.mod_mod]
theorem P2{B:Nat}(V d m:Nat):qU B V d (m+1)%B^m=V%B^m:=by
 rw[qU,Nat.pow_succ,Nat.mul_assoc,Nat.add_mul_mod_self_left,Nat.mod_mul_right_mod]
theorem UA{B:Nat}(hB:0<B){V d m N:Nat}(h:m<N):(dR B N (qU B V d (m+1)))[m]? =some (V/B^m%B):=by
 have hP:0<B^m:=Nat.pow_pos hB;rw[vJ _ _ _ h,qU,Nat.pow_succ,Nat.mul_assoc,Nat.add_mul_div_left _ _ hP,Nat.add_mul_mod_self_left,Nat.mod_mul_right_div_self,Nat.mod_mod]
theorem P3{B:Nat}(hB:0<B){V d m N:Nat}(hd:0<d)(h:m<N):(dR B N (qU B V d (m+1))).set m ((V/B^(m+1)%d*B+V/B^m%B)/d)=dR B N (qU B V d m):=by
 have hx:(V/B^(m+1)%d*B+V/B^m%B)/d<B:=by rw[Nat.div_lt_iff_lt_mul hd,Nat.mul_comm B d];exact P1 hB hd V m
 have hq:=Sv (B:=B) hd V m;refine sK hB h hx ?_ ?_ ?_
 ·rw[XO,P2]
 ·rw[NN hB,hq,Nat.mul_add_mod,Nat.mod_eq_of_lt hx]
 rw[NN hB,Nat.pow_succ,<-Nat.div_div_eq_div_mul,NN hB,hq,Nat.mul_add_div hB,Nat.div_eq_of_lt hx,<-Nat.pow_succ];rfl
end
section
theorem P4{B v:Nat}(hB:2<=B)(h0:v≠0)(h:v<B):can B v=[v]:=by
 have:=NK hB (l:=[]) h0 (by simpa using h);simpa[val]using this.symm
theorem P5{B v:Nat}(hB:2<=B)(h0:v/B≠0)(h:v<B*B):can B v=[v%B,v/B]:=by
 have h1:v/B<B:=by rw[Nat.div_lt_iff_lt_mul (by omega)];exact h
 have h2:v%B<B:=Nat.mod_lt _ (by omega);have:=NK hB (l:=[v%B]) h0 (by simp;exact⟨h2,h1⟩);simp only[List.cons_append,List.nil_append,val,Nat.mul_zero,Nat.add_zero]at this;rw[Nat.mod_add_div]at this;exact this.symm
theorem kN{B:Nat}{l:List Nat}(h:∀x∈l,x<B){i:Nat}(hi:i<l.length):l[i]? =some (val B l/B^i%B):=by
 rw[<-o5 l h i];simp[List.getD,hi]
def xj(v w:Nat):Int:=if v<w then-1 else if v=w then 0 else 1
theorem qi{v w:Nat}(h:v<w):xj v w=-1:=by simp[xj,h]
theorem vL(v:Nat):xj v v=0:=by simp[xj]
theorem sL{v w:Nat}(h:w<v):xj v w=1:=by
 have h1:¬v<w:=by omega
 have h2:¬v=w:=by omega
 simp[xj,h1,h2]
theorem uK{B v w:Nat}(hB:2<=B)(h:(can B v).length<(can B w).length):v<w:=
 Nat.lt_of_lt_of_le (cj hB v) (oD hB h)
theorem A7(B v m:Nat):v/B^m=B*(v/B^(m+1))+v/B^m%B:=by
 rw[Nat.pow_succ,<-Nat.div_div_eq_div_mul,Nat.div_add_mod]
theorem CK{B v w m:Nat}(h:v/B^m<w/B^m):v<w:=by
 rcases Nat.lt_or_ge v w with h1|h1
 ·exact h1
 have:=Nat.div_le_div_right (c:=B^m) h1;omega
theorem CL{B v w m:Nat}(h:v/B^(m+1)=w/B^(m+1)):(v/B^m%B=w/B^m%B/\v/B^m=w/B^m)\/(v/B^m%B<w/B^m%B/\v<w)\/(w/B^m%B<v/B^m%B/\w<v):=by
 have h1:=A7 B v m;have h2:=A7 B w m;rw[<-h]at h2;rcases Nat.lt_trichotomy (v/B^m%B) (w/B^m%B)with h3|h3|h3
 ·exact .inr (.inl ⟨h3,CK (B:=B) (m:=m) (by omega)⟩)
 ·exact .inl ⟨h3,by omega⟩
 exact .inr (.inr ⟨h3,CK (B:=B) (m:=m) (by omega)⟩)
end
end Go.Fw
