/- A part of the proof: the framework, the plain functions, the followed functions, the plain laws. -/
import Derived.Test.YtdpjpoekcgigkaaGreatPNR2
set_option linter.unusedVariables false
set_option linter.unusedSimpArgs false
set_option linter.unusedSectionVars false
namespace Go.Proofs.YtdpjpoekcgigkaaGreat
section
open Go.Fw Go.Fw.Z Go.RowKit
theorem Bs(a b:List Qr):Pure ah 58 [(slc 4 (List.map eQ a)),(slc 4 (List.map eQ b))] (oc 82 [ref [(slc 4 (List.map eQ a))],ref [(slc 4 (List.map eQ b))]]):=by
 refine bk Tryz.func58 Y (af Y) (λdI M vs hvs=>?_);refine sr<|RT.zA .none (s:=.sv _) Y T Y Y<|RT.zA .none (s:=.sv _) Y T Y Y<|ag Y<|dn<|sr<|RT.makeFunc .none (.box Y (.box Y (.nil))) T<|an (s:=.fO _ _) Y<|dn<|cg (gX (i:=2) Y [(slc 4 (List.map eQ a))] (.cons Y .nil) .any 0 [(4,.fO 82 [.val (ref [(slc 4 (List.map eQ a))]),.box 3])] (λ_ _ _=>trivial) (pN.h (l:=[(slc 4 (List.map eQ a))])) ⟨@FT.fO _ _ _ _ _ 4 82 [.box 2,.box 3] Y,aq⟩) ?_;exact cg (gX (i:=3) Y [(slc 4 (List.map eQ b))] (.cons Y .nil) .any 0 [(4,.fO 82 [.val (ref [(slc 4 (List.map eQ a))]),.val (ref [(slc 4 (List.map eQ b))])])] (λ_ _ _=>trivial) (pN.h (l:=[(slc 4 (List.map eQ b))])) ⟨@FT.fO _ _ _ _ _ 4 82 [.val (ref [(slc 4 (List.map eQ a))]),.box 3] Y,aq⟩)<|cg (HS 4 (oc 82 [ref [(slc 4 (List.map eQ a))],ref [(slc 4 (List.map eQ b))]]) (λ_ _ h=>HT h))<|bf<|⟨.inr Y,HI (.tmp Y (.nil)) Y⟩
theorem Bt(a b:List Qr):Iter ah 82 [ref [(slc 4 (List.map eQ a))],ref [(slc 4 (List.map eQ b))]] (max a.length b.length) (λk=>[.agg (eQ (a.getD k (⟨⟨false,[]⟩,⟨false,[]⟩⟩:Qr))),.agg (eQ (b.getD k (⟨⟨false,[]⟩,⟨false,[]⟩⟩:Qr)))]):=by
 refine xY Tryz.func82 Y Y (af Y) (λdI M O l J hJ Cw hr=>?_);obtain⟨rE,Cw⟩:=Cw;have hla:a.length<=9223372036854775807:=by cases rE with|nil=>exact Cw.elim|cons _ rE=>exact xm Cw.1
 have hlb:b.length<=9223372036854775807:=by cases rE with|nil=>exact Cw.elim|cons _ rE=>cases rE with|nil=>exact Cw.2.elim|cons _ _=>exact xm Cw.2.1
 refine bJ ?_;refine aW ?_;refine RT.dm .none Y Y (tl Y) ?_;refine RT.len .none Y (tl Y) ?_;refine RT.dm .none Y Y (tl Y) ?_;refine RT.len .none Y (tl Y) ?_;refine RT.max .none (((max a.length b.length:Nat):Int)) Y Y (tl Y) (by simp only[List.length_map];split<;>omega) ?_;refine RT.mv .none Y (tl Y) ?_;refine RT.done ?_;refine aV.n ?_;refine bg ?_
 refine AT (I:=λx:{i:Nat//i<=max a.length b.length}=>AS.cw 37 [(0,.sv (.v (.func (.yield l) #[] #[]))),(1,.sv (ref [(slc 4 (List.map eQ a))])),(2,.sv (ref [(slc 4 (List.map eQ b))])),(11,ai ((max a.length b.length:Nat):Int)),(12,ai ((x.1:Nat):Int))] [] [] (x.1)) (μ:=λx=>max a.length b.length-x.1) ⟨0,by omega⟩ (by(try dsimp only);exact eL id Y Y Y Y Y ⟨.sv (by first|exact au|exact SV.bh (by omega)|exact SV.bh (by push_cast;omega)|exact SV.bh (by dsimp only;omega)|exact SV.imp_eq (by simp)),.sv (by first|exact au|exact SV.bh (by omega)|exact SV.bh (by push_cast;omega)|exact SV.bh (by dsimp only;omega)|exact SV.imp_eq (by simp)),.sv (by first|exact au|exact SV.bh (by omega)|exact SV.bh (by push_cast;omega)|exact SV.bh (by dsimp only;omega)|exact SV.imp_eq (by simp)),.sv (by first|exact au|exact SV.bh (by omega)|exact SV.bh (by push_cast;omega)|exact SV.bh (by dsimp only;omega)|exact SV.imp_eq (by simp)),.sv (by first|exact au|exact SV.bh (by omega)|exact SV.bh (by push_cast;omega)|exact SV.bh (by dsimp only;omega)|exact SV.imp_eq (by simp)),aq⟩ trivial trivial (λ_ _=>Y)) ?_;rintro⟨i,WL⟩
 try dsimp only
 rcases yf a b i WL with⟨hi,A4,Ci⟩|⟨hi,A4,Ci⟩|⟨hi,A4,Ci⟩|hi
 ·
  refine bJ ?_;refine aW ?_;refine RT.lss .none (true) Y Y (tl Y) (by simp;omega) ?_;refine RT.done ?_;refine aV.n ?_;refine bJ ?_;refine c6 Y ?_;refine bu ?_;refine aV.n ?_;refine bJ ?_;refine bg ?_;refine bJ ?_;refine aW ?_;refine RT.mv .none Y (tl Y) ?_;refine RT.B5 .none Y (tl Y) ?_;refine RT.done ?_;refine aV.n ?_;refine bJ ?_;refine aW ?_;refine RT.sn .none (cs:=eQ ⟨⟨false,[]⟩,⟨false,[]⟩⟩) (by exact⟨au,aB,au,aB,aq⟩) Y (tl Y) Y Y ?_;refine RT.sn .none (cs:=eQ ⟨⟨false,[]⟩,⟨false,[]⟩⟩) (by exact⟨au,aB,au,aB,aq⟩) Y (tl Y) Y Y ?_;refine RT.done ?_;refine aV.n ?_;refine bJ ?_;refine bJ ?_;refine aW ?_;refine RT.mv .none Y (tl Y) ?_;refine RT.dm .none Y Y (tl Y) ?_;refine RT.len .none Y (tl Y) ?_;refine RT.lss .none (true) Y Y (tl Y) (by simp only[List.length_map];simp;omega) ?_;refine RT.done ?_;refine aV.n ?_;refine c6 Y ?_;refine aW ?_;refine RT.dm .none Y Y (tl Y) ?_;refine RT.mv .none Y (tl Y) ?_
  refine RT.Mt .none [az ((a.getD i (⟨⟨false,[]⟩,⟨false,[]⟩⟩:Qr)).num.neg),slc 1 ((a.getD i (⟨⟨false,[]⟩,⟨false,[]⟩⟩:Qr)).num.w.map aX),az ((a.getD i (⟨⟨false,[]⟩,⟨false,[]⟩⟩:Qr)).den.neg),slc 1 ((a.getD i (⟨⟨false,[]⟩,⟨false,[]⟩⟩:Qr)).den.w.map aX)] (Int.natCast_nonneg i) (by rw[Int.toNat_natCast,List.getElem?_map,iP A4];rfl) Y Y (tl Y) ?_;refine RT.ik .none Y (tl Y) (cs:=[az ((a.getD i (⟨⟨false,[]⟩,⟨false,[]⟩⟩:Qr)).num.neg),slc 1 ((a.getD i (⟨⟨false,[]⟩,⟨false,[]⟩⟩:Qr)).num.w.map aX),az ((a.getD i (⟨⟨false,[]⟩,⟨false,[]⟩⟩:Qr)).den.neg),slc 1 ((a.getD i (⟨⟨false,[]⟩,⟨false,[]⟩⟩:Qr)).den.w.map aX)]) Y Y ?_;refine RT.store .none Y Y Y Y Y ?_;refine RT.done ?_;refine aV.n ?_;refine bJ ?_;refine bJ ?_;refine aW ?_;refine RT.mv .none Y (tl Y) ?_;refine RT.dm .none Y Y (tl Y) ?_;refine RT.len .none Y (tl Y) ?_;refine RT.lss .none (true) Y Y (tl Y) (by simp only[List.length_map];simp;omega) ?_;refine RT.done ?_;refine aV.n ?_;refine c6 Y ?_;refine aW ?_;refine RT.dm .none Y Y (tl Y) ?_;refine RT.mv .none Y (tl Y) ?_
  refine RT.Mt .none [az ((b.getD i (⟨⟨false,[]⟩,⟨false,[]⟩⟩:Qr)).num.neg),slc 1 ((b.getD i (⟨⟨false,[]⟩,⟨false,[]⟩⟩:Qr)).num.w.map aX),az ((b.getD i (⟨⟨false,[]⟩,⟨false,[]⟩⟩:Qr)).den.neg),slc 1 ((b.getD i (⟨⟨false,[]⟩,⟨false,[]⟩⟩:Qr)).den.w.map aX)] (Int.natCast_nonneg i) (by rw[Int.toNat_natCast,List.getElem?_map,iP Ci];rfl) Y Y (tl Y) ?_;refine RT.ik .none Y (tl Y) (cs:=[az ((b.getD i (⟨⟨false,[]⟩,⟨false,[]⟩⟩:Qr)).num.neg),slc 1 ((b.getD i (⟨⟨false,[]⟩,⟨false,[]⟩⟩:Qr)).num.w.map aX),az ((b.getD i (⟨⟨false,[]⟩,⟨false,[]⟩⟩:Qr)).den.neg),slc 1 ((b.getD i (⟨⟨false,[]⟩,⟨false,[]⟩⟩:Qr)).den.w.map aX)]) Y Y ?_;refine RT.store .none Y Y Y Y Y ?_;refine RT.done ?_;refine aV.n ?_;refine bJ ?_;refine aW ?_;refine RT.mv .none Y (tl Y) ?_;refine RT.load .none Y Y (.k4 Y Y Y Y) Y (tl Y) ?_;refine RT.load .none Y Y (.k4 Y Y Y Y) Y (tl Y) ?_;refine RT.yield .none hr Y (λ_ h=>h) Y (i) Y Y hi (by exact⟨Y,Y,aq⟩) (tl Y) (λyb=>?_);cases yb
  ·
   refine RT.not .none Y (tl Y) true Y ?_;refine RT.done ?_;refine aV.n ?_;refine c6 Y ?_;refine bf ?_;refine bD.r ?_;refine aV.r ?_;refine aV.r ?_;refine bD.r ?_;exact⟨.inr rfl,(λh=>by cases h)⟩
  refine RT.not .none Y (tl Y) false Y ?_;refine RT.done ?_;refine aV.n ?_;refine fB Y ?_;refine bu ?_;refine bD.n ?_;refine aV.n ?_;refine aW ?_;refine RT.add .none (((i:Nat):Int)+1) Y Y (tl Y) (mU (by omega)) ?_;refine RT.mv .none Y (tl Y) ?_;refine RT.done ?_;refine aV.n ?_;refine⟨⟨i+1,by omega⟩,(by dsimp only;omega),?_⟩
  try dsimp only
  exact eL id Y Y Y Y Y ⟨.sv (by first|exact au|exact SV.bh (by omega)|exact SV.bh (by push_cast;omega)|exact SV.bh (by dsimp only;omega)|exact SV.imp_eq (by simp)),.sv (by first|exact au|exact SV.bh (by omega)|exact SV.bh (by push_cast;omega)|exact SV.bh (by dsimp only;omega)|exact SV.imp_eq (by simp)),.sv (by first|exact au|exact SV.bh (by omega)|exact SV.bh (by push_cast;omega)|exact SV.bh (by dsimp only;omega)|exact SV.imp_eq (by simp)),.sv (by first|exact au|exact SV.bh (by omega)|exact SV.bh (by push_cast;omega)|exact SV.bh (by dsimp only;omega)|exact SV.imp_eq (by simp)),.sv (by first|exact au|exact SV.bh (by omega)|exact SV.bh (by push_cast;omega)|exact SV.bh (by dsimp only;omega)|exact SV.imp_eq (by simp)),aq⟩ trivial trivial (λ_ _=>Y)
 ·
  refine bJ ?_;refine aW ?_;refine RT.lss .none (true) Y Y (tl Y) (by simp;omega) ?_;refine RT.done ?_;refine aV.n ?_;refine bJ ?_;refine c6 Y ?_;refine bu ?_;refine aV.n ?_;refine bJ ?_;refine bg ?_;refine bJ ?_;refine aW ?_;refine RT.mv .none Y (tl Y) ?_;refine RT.B5 .none Y (tl Y) ?_;refine RT.done ?_;refine aV.n ?_;refine bJ ?_;refine aW ?_;refine RT.sn .none (cs:=eQ ⟨⟨false,[]⟩,⟨false,[]⟩⟩) (by exact⟨au,aB,au,aB,aq⟩) Y (tl Y) Y Y ?_;refine RT.sn .none (cs:=eQ ⟨⟨false,[]⟩,⟨false,[]⟩⟩) (by exact⟨au,aB,au,aB,aq⟩) Y (tl Y) Y Y ?_;refine RT.done ?_;refine aV.n ?_;refine bJ ?_;refine bJ ?_;refine aW ?_;refine RT.mv .none Y (tl Y) ?_;refine RT.dm .none Y Y (tl Y) ?_;refine RT.len .none Y (tl Y) ?_;refine RT.lss .none (true) Y Y (tl Y) (by simp only[List.length_map];simp;omega) ?_;refine RT.done ?_;refine aV.n ?_;refine c6 Y ?_;refine aW ?_;refine RT.dm .none Y Y (tl Y) ?_;refine RT.mv .none Y (tl Y) ?_
  refine RT.Mt .none [az ((a.getD i (⟨⟨false,[]⟩,⟨false,[]⟩⟩:Qr)).num.neg),slc 1 ((a.getD i (⟨⟨false,[]⟩,⟨false,[]⟩⟩:Qr)).num.w.map aX),az ((a.getD i (⟨⟨false,[]⟩,⟨false,[]⟩⟩:Qr)).den.neg),slc 1 ((a.getD i (⟨⟨false,[]⟩,⟨false,[]⟩⟩:Qr)).den.w.map aX)] (Int.natCast_nonneg i) (by rw[Int.toNat_natCast,List.getElem?_map,iP A4];rfl) Y Y (tl Y) ?_;refine RT.ik .none Y (tl Y) (cs:=[az ((a.getD i (⟨⟨false,[]⟩,⟨false,[]⟩⟩:Qr)).num.neg),slc 1 ((a.getD i (⟨⟨false,[]⟩,⟨false,[]⟩⟩:Qr)).num.w.map aX),az ((a.getD i (⟨⟨false,[]⟩,⟨false,[]⟩⟩:Qr)).den.neg),slc 1 ((a.getD i (⟨⟨false,[]⟩,⟨false,[]⟩⟩:Qr)).den.w.map aX)]) Y Y ?_;refine RT.store .none Y Y Y Y Y ?_;refine RT.done ?_;refine aV.n ?_;refine bJ ?_;refine bJ ?_;refine aW ?_;refine RT.mv .none Y (tl Y) ?_;refine RT.dm .none Y Y (tl Y) ?_;refine RT.len .none Y (tl Y) ?_;refine RT.lss .none (false) Y Y (tl Y) (by simp only[List.length_map];simp;omega) ?_;refine RT.done ?_;refine aV.n ?_;refine fB Y ?_;refine bu ?_;refine aV.n ?_;refine bJ ?_;refine aW ?_;refine RT.mv .none Y (tl Y) ?_;refine RT.load .none Y Y (.k4 Y Y Y Y) Y (tl Y) ?_;refine RT.load .none Y Y (.k4 Y Y Y Y) Y (tl Y) ?_
  refine RT.yield .none hr Y (λ_ h=>h) Y (i) Y Y hi (by exact⟨Y,(by show AV.sv _=AV.sv _;rw[nG Ci]),aq⟩) (tl Y) (λyb=>?_);cases yb
  ·
   refine RT.not .none Y (tl Y) true Y ?_;refine RT.done ?_;refine aV.n ?_;refine c6 Y ?_;refine bf ?_;refine bD.r ?_;refine aV.r ?_;refine aV.r ?_;refine bD.r ?_;exact⟨.inr rfl,(λh=>by cases h)⟩
  refine RT.not .none Y (tl Y) false Y ?_;refine RT.done ?_;refine aV.n ?_;refine fB Y ?_;refine bu ?_;refine bD.n ?_;refine aV.n ?_;refine aW ?_;refine RT.add .none (((i:Nat):Int)+1) Y Y (tl Y) (mU (by omega)) ?_;refine RT.mv .none Y (tl Y) ?_;refine RT.done ?_;refine aV.n ?_;refine⟨⟨i+1,by omega⟩,(by dsimp only;omega),?_⟩
  try dsimp only
  exact eL id Y Y Y Y Y ⟨.sv (by first|exact au|exact SV.bh (by omega)|exact SV.bh (by push_cast;omega)|exact SV.bh (by dsimp only;omega)|exact SV.imp_eq (by simp)),.sv (by first|exact au|exact SV.bh (by omega)|exact SV.bh (by push_cast;omega)|exact SV.bh (by dsimp only;omega)|exact SV.imp_eq (by simp)),.sv (by first|exact au|exact SV.bh (by omega)|exact SV.bh (by push_cast;omega)|exact SV.bh (by dsimp only;omega)|exact SV.imp_eq (by simp)),.sv (by first|exact au|exact SV.bh (by omega)|exact SV.bh (by push_cast;omega)|exact SV.bh (by dsimp only;omega)|exact SV.imp_eq (by simp)),.sv (by first|exact au|exact SV.bh (by omega)|exact SV.bh (by push_cast;omega)|exact SV.bh (by dsimp only;omega)|exact SV.imp_eq (by simp)),aq⟩ trivial trivial (λ_ _=>Y)
 ·
  refine bJ ?_;refine aW ?_;refine RT.lss .none (true) Y Y (tl Y) (by simp;omega) ?_;refine RT.done ?_;refine aV.n ?_;refine bJ ?_;refine c6 Y ?_;refine bu ?_;refine aV.n ?_;refine bJ ?_;refine bg ?_;refine bJ ?_;refine aW ?_;refine RT.mv .none Y (tl Y) ?_;refine RT.B5 .none Y (tl Y) ?_;refine RT.done ?_;refine aV.n ?_;refine bJ ?_;refine aW ?_;refine RT.sn .none (cs:=eQ ⟨⟨false,[]⟩,⟨false,[]⟩⟩) (by exact⟨au,aB,au,aB,aq⟩) Y (tl Y) Y Y ?_;refine RT.sn .none (cs:=eQ ⟨⟨false,[]⟩,⟨false,[]⟩⟩) (by exact⟨au,aB,au,aB,aq⟩) Y (tl Y) Y Y ?_;refine RT.done ?_;refine aV.n ?_;refine bJ ?_;refine bJ ?_;refine aW ?_;refine RT.mv .none Y (tl Y) ?_;refine RT.dm .none Y Y (tl Y) ?_;refine RT.len .none Y (tl Y) ?_;refine RT.lss .none (false) Y Y (tl Y) (by simp only[List.length_map];simp;omega) ?_;refine RT.done ?_;refine aV.n ?_;refine fB Y ?_;refine bu ?_;refine aV.n ?_;refine bJ ?_;refine bJ ?_;refine aW ?_;refine RT.mv .none Y (tl Y) ?_;refine RT.dm .none Y Y (tl Y) ?_;refine RT.len .none Y (tl Y) ?_;refine RT.lss .none (true) Y Y (tl Y) (by simp only[List.length_map];simp;omega) ?_;refine RT.done ?_;refine aV.n ?_;refine c6 Y ?_;refine aW ?_;refine RT.dm .none Y Y (tl Y) ?_
  refine RT.mv .none Y (tl Y) ?_;refine RT.Mt .none [az ((b.getD i (⟨⟨false,[]⟩,⟨false,[]⟩⟩:Qr)).num.neg),slc 1 ((b.getD i (⟨⟨false,[]⟩,⟨false,[]⟩⟩:Qr)).num.w.map aX),az ((b.getD i (⟨⟨false,[]⟩,⟨false,[]⟩⟩:Qr)).den.neg),slc 1 ((b.getD i (⟨⟨false,[]⟩,⟨false,[]⟩⟩:Qr)).den.w.map aX)] (Int.natCast_nonneg i) (by rw[Int.toNat_natCast,List.getElem?_map,iP Ci];rfl) Y Y (tl Y) ?_;refine RT.ik .none Y (tl Y) (cs:=[az ((b.getD i (⟨⟨false,[]⟩,⟨false,[]⟩⟩:Qr)).num.neg),slc 1 ((b.getD i (⟨⟨false,[]⟩,⟨false,[]⟩⟩:Qr)).num.w.map aX),az ((b.getD i (⟨⟨false,[]⟩,⟨false,[]⟩⟩:Qr)).den.neg),slc 1 ((b.getD i (⟨⟨false,[]⟩,⟨false,[]⟩⟩:Qr)).den.w.map aX)]) Y Y ?_;refine RT.store .none Y Y Y Y Y ?_;refine RT.done ?_;refine aV.n ?_;refine bJ ?_;refine aW ?_;refine RT.mv .none Y (tl Y) ?_;refine RT.load .none Y Y (.k4 Y Y Y Y) Y (tl Y) ?_;refine RT.load .none Y Y (.k4 Y Y Y Y) Y (tl Y) ?_;refine RT.yield .none hr Y (λ_ h=>h) Y (i) Y Y hi (by exact⟨(by show AV.sv _=AV.sv _;rw[nG A4]),Y,aq⟩) (tl Y) (λyb=>?_);cases yb
  ·
   refine RT.not .none Y (tl Y) true Y ?_;refine RT.done ?_;refine aV.n ?_;refine c6 Y ?_;refine bf ?_;refine bD.r ?_;refine aV.r ?_;refine aV.r ?_;refine bD.r ?_;exact⟨.inr rfl,(λh=>by cases h)⟩
  refine RT.not .none Y (tl Y) false Y ?_;refine RT.done ?_;refine aV.n ?_;refine fB Y ?_;refine bu ?_;refine bD.n ?_;refine aV.n ?_;refine aW ?_;refine RT.add .none (((i:Nat):Int)+1) Y Y (tl Y) (mU (by omega)) ?_;refine RT.mv .none Y (tl Y) ?_;refine RT.done ?_;refine aV.n ?_;refine⟨⟨i+1,by omega⟩,(by dsimp only;omega),?_⟩
  try dsimp only
  exact eL id Y Y Y Y Y ⟨.sv (by first|exact au|exact SV.bh (by omega)|exact SV.bh (by push_cast;omega)|exact SV.bh (by dsimp only;omega)|exact SV.imp_eq (by simp)),.sv (by first|exact au|exact SV.bh (by omega)|exact SV.bh (by push_cast;omega)|exact SV.bh (by dsimp only;omega)|exact SV.imp_eq (by simp)),.sv (by first|exact au|exact SV.bh (by omega)|exact SV.bh (by push_cast;omega)|exact SV.bh (by dsimp only;omega)|exact SV.imp_eq (by simp)),.sv (by first|exact au|exact SV.bh (by omega)|exact SV.bh (by push_cast;omega)|exact SV.bh (by dsimp only;omega)|exact SV.imp_eq (by simp)),.sv (by first|exact au|exact SV.bh (by omega)|exact SV.bh (by push_cast;omega)|exact SV.bh (by dsimp only;omega)|exact SV.imp_eq (by simp)),aq⟩ trivial trivial (λ_ _=>Y)
 subst hi;refine bJ ?_;refine aW ?_;refine RT.lss .none (false) Y Y (tl Y) (by simp) ?_;refine RT.done ?_;refine aV.n ?_;refine bJ ?_;refine fB Y ?_;refine bT ?_;refine aV.x ?_;refine aV.x ?_;refine bD.x ?_;exact⟨.inl Y,(λ_=>Y)⟩
end
section
open Go.Fw Go.Fw.Z Go.RowKit
theorem Bu{x0:Qr}{x1:Qr}{c0:Qr}{r:Qr}(h:lF x0 x1 c0=some r):HO ah 56 [.agg (eQ x0),.agg (eQ x1)] 27 (eQ c0) (.any) (eQ r):=by
 obtain⟨⟨bC,bA⟩,⟨cD,cE⟩⟩:=x0;obtain⟨⟨bP,bN⟩,⟨ee,ef⟩⟩:=x1;obtain⟨⟨II,IJ⟩,⟨IK,IL⟩⟩:=c0;refine xU Tryz.func56 Y (af Y) (λdI M β=>?_);unfold lF at h;refine sr<|bx Y<|bx Y<|dn<|qq ?_;refine bG h (λj3=>AS.cw 18 [(2,.ptr 1000 0),(3,.ptr 3 0),(4,.ptr 4 0),(12,aj j3)] [(4,⟨27,[aj bP,.sv (slc 1 (List.map aX bN)),aj ee,.sv (slc 1 (List.map aX ef))]⟩),(3,⟨27,[aj bC,.sv (slc 1 (List.map aX bA)),aj cD,.sv (slc 1 (List.map aX cE))]⟩),(1000,⟨27,[aj II,.sv (slc 1 (List.map aX IJ)),aj IK,.sv (slc 1 (List.map aX IL))]⟩)] []) (λh=>?_) (λqE h=>?_);refine aW<|ld Y Y (.k4 Y Y Y Y)<|bE h λx6 h6 h=>cl (tZ h6) ⟨Y,aq⟩<|lE h λx7 h7 h=>ne _ Y Y (Kb (p:=x6) (q:=0) h7)<|mv Y<|bE h λMW wv h=>?_;cases x7;obtain rfl:=O (F wv);exact ww<|ww<|ww<|pF Y<|dn<|⟨false,h,wR []⟩;refine gl Y Y (.k4 Y Y Y Y)<|bE (V wv) λew ic wv=>gc (tZ ic) ⟨Y,aq⟩<|lE wv λeG jh wv=>gq _ Y Y (Kb (p:=ew) (q:=0) jh) ?_;obtain rfl:=O wv;exact pT Y<|dn<|⟨eG,h,wR []⟩
 try dsimp only
 refine aV.n ?_;refine bG h (λj5=>AS.cw 18 [(2,.ptr 1000 0)] [(1000,⟨27,[aj j5.1,.sv (slc 1 (List.map aX j5.2.1)),aj j5.2.2.1,.sv (slc 1 (List.map aX j5.2.2.2))]⟩)] []) (λh=>?_) (λj5 h=>?_);cases qE;exact fs<|⟨(II,IJ,IK,IL),(F h),wR []⟩;refine cT<|aY mixed<|ld Y Y (.k4 Y Y Y Y)<|ld Y Y (.k4 Y Y Y Y)<|ld Y Y (.k4 Y Y Y Y) ?_;obtain⟨⟨⟨dK,dL⟩,⟨iW,iX⟩⟩,iw,h⟩:=bS (V h);refine cl (qC iw) ⟨Y,Y,aq⟩ ?_;obtain⟨⟨⟨m6,m7⟩,⟨Aw,Ax⟩⟩,j6,h⟩:=bS h;refine cl (CS j6) ⟨Y,Y,aq⟩<|so Y Y Y ?_;refine RT.done ⟨by kernel_rfl,?_⟩;exact aV.n<|⟨(m6,m7,Aw,Ax),h,wR []⟩;obtain⟨As,At,Au,Av⟩:=j5
 try dsimp only
 obtain rfl:=O h;exact⟨.inl Y,mA .nil (λ_ _ _=>trivial),Y⟩
theorem yJ{x0:List Qr}{x1:List Qr}{r:Qr}(h:kU x0 x1=some r):Pure ah 30 [slc 4 (List.map eQ x0),slc 4 (List.map eQ x1)] (.agg (eQ r)):=by
 refine bk Tryz.func30 Y (af Y) (λdI M vs hvs=>?_);unfold kU at h;refine sr<|al (cs:=[az false,ax,az false,ax]) (by exact⟨au,aB,au,aB,aq⟩) Y<|dn<|sr<|al (cs:=[az false,ax,az false,ax]) (by exact⟨au,aB,au,aB,aq⟩) Y<|dn<|sr<|RT.makeFunc .none (.box Y (.nil)) T<|RT.alloc .none T Y Y<|RT.xG (cells:=[_]) .none (s:=.fO _ _) Y Y Y T Y ?_;refine dn<|sr<|mv Y<|lE h λeA jk h=>ln Y jk<|mv Y<|lE h λgw lW h=>ln Y lW<|lE h λgQ jl h=>RT.min .none _ Y Y T (DU (p:=eA) (q:=gw) jl)<|ag Y<|dn<|qq<|qq<|aY mixed<|mv Y<|mv Y<|bE h λeF ji h=>RT.ye .none 0 gQ Y Y ⟨_,Y⟩ T ji<|mv Y<|mv Y<|bE h λgY mY h=>RT.ye .none 0 gQ Y Y ⟨_,Y⟩ T mY<|cl (Bs eF gY) ⟨Y,Y,aq⟩ ?_;refine RT.done ⟨by kernel_rfl,?_⟩;refine aV.n<|bg<|bE h λe7 SP KZ=>?_;obtain⟨Gr,SQ,SR,SS⟩:=qX SP
 refine oP (Bt eF gY) (λ_ _ _ _ _=>trivial) Y (λk=>AS.cw 30 [(4,.ptr 4 0),(5,.ptr 5 0),(6,.ptr 6 0),(22,.sv (oc 82 [ref [slc 4 (List.map eQ eF)],ref [slc 4 (List.map eQ gY)]]))] [(6,⟨73,[.fO 56 [.box 5]]⟩),(5,⟨27,[aj ((Gr k).1),.sv (slc 1 (List.map aX (Gr k).2.1)),aj ((Gr k).2.2.1),.sv (slc 1 (List.map aX (Gr k).2.2.2))]⟩),(4,⟨27,[aj false,.sv ax,aj false,.sv ax]⟩)] []) [6,5,4] Y (λ_=>⟨Y,Y⟩) (DR Y) (λ_=>Y) (DS Y) (by(try dsimp only);rw[SQ];(try dsimp only);exact eL id Y Y Y Y Y ⟨.ptr,.ptr,.ptr,.sv au,aq⟩ ⟨⟨_,Y,⟨.fO,aq⟩⟩,⟨_,Y,⟨.sv au,.sv au,.sv au,.sv au,aq⟩⟩,⟨_,Y,⟨.sv au,.sv au,.sv au,.sv au,aq⟩⟩,aq⟩ trivial (λ_ _=>Y)) (λk hk D hD=>?_) ?_;have h:=SR k hk;obtain⟨sk,SU⟩:∃q,Gr k=q:=⟨_,Y⟩;rw[SU]at h⊢;obtain⟨yF,yG,yH,yI⟩:=sk;dsimp only[AS.RY,Ag]
 try dsimp only at h
 obtain⟨⟨⟨MX,MY⟩,⟨MZ,M1⟩⟩,X5,h⟩:=bS h;rw[Option.some.inj X5];obtain⟨⟨⟨M3,M4⟩,⟨M5,M6⟩⟩,X6,h⟩:=bS h;rw[Option.some.inj X6];refine sr<|al (cs:=[az false,ax,az false,ax]) (by exact⟨au,aB,au,aB,aq⟩) Y<|so Y Y Y<|dn<|aW<|al (cs:=[az false,ax,az false,ax]) (by exact⟨au,aB,au,aB,aq⟩) Y<|so Y Y Y<|RT.done ?_;refine aV.n ⟨Y,?_⟩;dsimp only[AS.HQ];refine bg<|aW<|RT.sZ .none (s:=.fO _ _) Y Y Y T<|ld Y Y (.k4 Y Y Y Y)<|ld Y Y (.k4 Y Y Y Y) ?_;obtain⟨⟨⟨Tb,Tc⟩,⟨Td,Te⟩⟩,vz,h⟩:=bS h;refine cB (Bu vz) 5 Y ⟨Y,Y,aq⟩<|RT.done<|bD.n ?_;replace h:=Option.some.inj h;refine⟨aq,Y,Y,?_⟩
 try dsimp only
 rw[<-h]
 try dsimp only
 exact wR [];rw[SS];obtain⟨yF,yG,yH,yI⟩:=e7
 try dsimp only
 refine bD.n<|aV.n<|sr<|ld Y Y (.k4 Y Y Y Y)<|so Y Y Y<|dn<|bf ?_;obtain rfl:=O KZ;exact RZ (.agg Y Y (.k4 Y Y Y Y) Y (.nil))
theorem er{x0:List Int}{r:List Qr}(h:cG x0=some r):Pure ah 15 [slc 1 (List.map bB x0)] (slc 4 (List.map eQ r)):=by
 refine bk Tryz.func15 Y (af Y) (λdI M vs hvs=>?_);unfold cG at h;refine sr<|aI Y (aB (n:=4) (e:=eQ))<|dn<|sr<|mv Y<|lE h λx7 h7 h=>ln Y h7<|bE h λx8 h8 h=>RT.tw (n:=4) (e:=eQ) .none Y Y T Y T (by rfl) (by decide) (by exact⟨au,aB,au,aB,aq⟩) h8<|an (s:=.row _) Y<|dn<|qq<|sr<|mv Y<|lE h λew ic h=>ln Y ic<|mv Y<|dn<|bE h λe8 Gx wZ=>?_;refine bL (λ(Ek:(List Qr))=>AS.cw 23 [(3,.row 8)] [] [(8,TR 27 4 eQ Ek)]) (λEk=>Ek=e8) ?_ (λEk Gy=>?_);refine bg ?_;refine bM Gx (λs8=>AS.cw 23 [(3,.row 8),(9,.sv (slc 1 (List.map bB x0))),(10,ai ew),(11,ai s8.1)] [] [(8,TR 27 4 eQ s8.2)]) (wR []) (λs8 y8 G8 h Gz GA=>?_);obtain⟨CW,IM⟩:=s8
 try dsimp only
 refine sr<|lE h λeA jk h=>ls _ Y Y jk<|dn<|qq ?_;cases eA;refine cF<|bT<|aV.x<|aV.x<|bD.x<|aV.n ?_;obtain rfl:=O (F h);exact⟨IM,GA _ Y,wR []⟩;refine cT<|bu<|aV.n<|qq<|bg<|sr<|mv Y<|bE (V h) λgw lW h=>ix Y Y lW<|lr Y Y<|ag Y<|ag Y<|dn<|aW<|mo (s:=.row _) Y<|mv Y<|mv Y ?_;obtain⟨⟨⟨jn,jo⟩,⟨ua,uc⟩⟩,mB,h⟩:=bS h;refine cl (ia mB) ⟨Y,aq⟩<|bE h λje oU h=>iR Y Y Y oU<|bE h λD0 yx h=>sA ⟨⟨jn,jo⟩,⟨ua,uc⟩⟩ Y Y Y yx<|RT.done<|bD.n<|aV.n<|aW<|lE h λgY mY h=>ad _ Y Y mY<|mv Y<|RT.done ?_;obtain rfl:=O h;exact aV.n ⟨(gY,D0),Gz _ Y,wR []⟩;subst Gy
 try dsimp only
 refine aV.n<|sr<|mo (s:=.row _) Y<|an (s:=.row _) Y<|dn<|cg (jB (i:=8) (E1:=27) (n:=4) (e:=eQ) (l:=Ek) Y)<|bf ?_;obtain rfl:=O wZ;exact R1 Y
end
section
open Go.Fw
noncomputable def gz(x0:List Qr)(x1:Int):Option (Qr):=cj (λ(qE:Bool)=>(bif qE then some ⟨⟨false,[]⟩,⟨false,[]⟩⟩else(cm x0 x1).bind λ⟨⟨dK,dL⟩,⟨iW,iX⟩⟩=>some ⟨⟨dK,dL⟩,⟨iW,iX⟩⟩)) λK3=>(some (decide ((x1:Int)<0))).bind λx6=>(bif x6 then some true else(some (x0.length:Int)).bind λew=>(some (decide ((ew:Int)<=x1))).bind λeG=>some eG).bind λCX=>K3 CX
noncomputable def iD(x0:Int)(Lc:List Qr)(Ke:List (List Qr))(Ld:Int):Option (Qr):=(cm Lc x0).bind λ⟨⟨kS,kT⟩,⟨ud,ue⟩⟩=>(cm Ke x0).bind λeA=>(gz eA Ld).bind λ⟨⟨ej,ek⟩,⟨jF,jG⟩⟩=>(gL ⟨⟨kS,kT⟩,⟨ud,ue⟩⟩ ⟨⟨ej,ek⟩,⟨jF,jG⟩⟩).bind λ⟨⟨dK,dL⟩,⟨iW,iX⟩⟩=>some ⟨⟨dK,dL⟩,⟨iW,iX⟩⟩
noncomputable def lG(x0:Int)(yK:List Qr)(yL:List (List Qr))(yM:Int):Option (Qr):=(b9 (λ(s6:Int×Bool×(List Nat)×Bool×(List Nat))=>match s6 with|⟨Bv,iZ,ja,jb,jc⟩=>(show Option ((Int×Bool×(List Nat)×Bool×(List Nat))⊕(Bool×(List Nat)×Bool×(List Nat)))from(some (decide ((Bv:Int)<x0))).bind λew=>(bif ew then(iD Bv yK yL yM).bind λ⟨⟨ej,ek⟩,⟨jF,jG⟩⟩=>(fP ⟨⟨iZ,ja⟩,⟨jb,jc⟩⟩ ⟨⟨ej,ek⟩,⟨jF,jG⟩⟩).bind λ⟨⟨dK,dL⟩,⟨iW,iX⟩⟩=>(some (IntKind.i64.wrap (Bv+1))).bind λez=>some (.inl (ez,dK,dL,iW,iX))else some (.inr (iZ,ja,jb,jc))))) (0,false,[],false,[])).bind λe6=>match e6 with|⟨qF,qG,qH,qJ⟩=>some ⟨⟨qF,qG⟩,⟨qH,qJ⟩⟩
noncomputable def iE(x0:Int)(Lc:List Int)(Ke:Int)(Ld:List Qr):Option (Qr):=(cm Lc x0).bind λx8=>(some (decide ((x8:Int)≠Ke))).bind λeG=>(bif eG then some ⟨⟨false,[]⟩,⟨false,[]⟩⟩else(cm Ld x0).bind λ⟨⟨ej,ek⟩,⟨jF,jG⟩⟩=>some ⟨⟨ej,ek⟩,⟨jF,jG⟩⟩)
noncomputable def lH(x0:Int)(yK:List Int)(yL:Int)(yM:List Qr):Option (Qr):=(b9 (λ(s6:Int×Bool×(List Nat)×Bool×(List Nat))=>match s6 with|⟨Bv,iZ,ja,jb,jc⟩=>(show Option ((Int×Bool×(List Nat)×Bool×(List Nat))⊕(Bool×(List Nat)×Bool×(List Nat)))from(some (decide ((Bv:Int)<x0))).bind λew=>(bif ew then(iE Bv yK yL yM).bind λ⟨⟨ej,ek⟩,⟨jF,jG⟩⟩=>(fP ⟨⟨iZ,ja⟩,⟨jb,jc⟩⟩ ⟨⟨ej,ek⟩,⟨jF,jG⟩⟩).bind λ⟨⟨dK,dL⟩,⟨iW,iX⟩⟩=>(some (IntKind.i64.wrap (Bv+1))).bind λez=>some (.inl (ez,dK,dL,iW,iX))else some (.inr (iZ,ja,jb,jc))))) (0,false,[],false,[])).bind λe6=>match e6 with|⟨qF,qG,qH,qJ⟩=>some ⟨⟨qF,qG⟩,⟨qH,qJ⟩⟩
noncomputable def fG(x0:List Int)(x1:List Qr)(x2:List (List Qr))(x3:List Qr):Option ((List Qr)×(List Qr)):=(some (x0.length:Int)).bind λgw=>(DT 64 gw (⟨⟨false,[]⟩,⟨false,[]⟩⟩:Qr)).bind λgQ=>(some (x0.length:Int)).bind λez=>(DT 64 ez (⟨⟨false,[]⟩,⟨false,[]⟩⟩:Qr)).bind λeF=>(some (x2.length:Int)).bind λje=>(some (x3.length:Int)).bind λiM=>(some (min (je:Int) iM)).bind λig=>(some (x0.length:Int)).bind λjC=>(b9 (λ(uW:Int×(List Qr)×(List Qr))=>match uW with|⟨rX,CY,CZ⟩=>(show Option ((Int×(List Qr)×(List Qr))⊕((List Qr)×(List Qr)))from(some (decide ((rX:Int)<jC))).bind λjV=>(bif jV then(cm x0 rX).bind λiq=>(gz x1 iq).bind λ⟨⟨M7,M8⟩,⟨M9,Na⟩⟩=>(dO ⟨⟨M7,M8⟩,⟨M9,Na⟩⟩).bind λ⟨⟨kI,kJ⟩,⟨pI,pJ⟩⟩=>(vh CY rX).bind λrF=>(stM CY rF ⟨⟨kI,kJ⟩,⟨pI,pJ⟩⟩).bind λX7=>(lG ig x3 x2 rX).bind λ⟨⟨IN,IP⟩,⟨IQ,IS⟩⟩=>(iC ⟨⟨IN,IP⟩,⟨IQ,IS⟩⟩).bind λ⟨⟨Ay,Az⟩,⟨AA,AB⟩⟩=>(vh CZ rX).bind λAo=>(stM CZ Ao ⟨⟨Ay,Az⟩,⟨AA,AB⟩⟩).bind λX8=>(some (IntKind.i64.wrap (rX+1))).bind λxu=>some (.inl (xu,X7,X8))else some (.inr (CY,CZ))))) (0,gQ,eF)).bind λGq=>match Gq with|⟨IT,IU⟩=>some (IT,IU)
noncomputable def fS(x0:List Int)(x1:List Qr)(x2:List (List Qr))(x3:List Qr):Option (List Qr):=(fG x0 x1 x2 x3).bind λ⟨PK,PL⟩=>(some (x0.length:Int)).bind λiM=>(DT 64 iM (⟨⟨false,[]⟩,⟨false,[]⟩⟩:Qr)).bind λig=>(some (ig.length:Int)).bind λjC=>(b9 (λ(s8:Int×(List Qr))=>match s8 with|⟨AD,C0⟩=>(show Option ((Int×(List Qr))⊕((List Qr)))from(some (decide ((AD:Int)<jC))).bind λjV=>(bif jV then(cm PK AD).bind λ⟨⟨ou,oy⟩,⟨rV,rW⟩⟩=>(cm PL AD).bind λ⟨⟨pD,pE⟩,⟨pG,pH⟩⟩=>(fP ⟨⟨ou,oy⟩,⟨rV,rW⟩⟩ ⟨⟨pD,pE⟩,⟨pG,pH⟩⟩).bind λ⟨⟨pK,pL⟩,⟨uf,ug⟩⟩=>(vh C0 AD).bind λnS=>(stM C0 nS ⟨⟨pK,pL⟩,⟨uf,ug⟩⟩).bind λD0=>(some (IntKind.i64.wrap (AD+1))).bind λwW=>some (.inl (wW,D0))else some (.inr C0)))) (0,ig)).bind λyN=>some yN
noncomputable def gC(x0:List Qr)(x1:List Qr):Option (Qr):=(kU x0 x1).bind λ⟨⟨ng,nh⟩,⟨qK,qL⟩⟩=>(iC ⟨⟨ng,nh⟩,⟨qK,qL⟩⟩).bind λ⟨⟨kS,kT⟩,⟨ud,ue⟩⟩=>some ⟨⟨kS,kT⟩,⟨ud,ue⟩⟩
noncomputable def iF(x0:List Qr)(x1:List Qr):Option (Qr):=(kU x0 x1).bind λ⟨⟨ng,nh⟩,⟨qK,qL⟩⟩=>some ⟨⟨ng,nh⟩,⟨qK,qL⟩⟩
noncomputable def c8(x0:List Qr)(x1:Int)(x2:Int)(x3:Qr):Option (Qr×Int):=match x3 with|⟨⟨pQ,pR⟩,⟨El,Em⟩⟩=>cj (λ(yO:Bool)=>(bif yO then some (⟨⟨false,[]⟩,⟨false,[]⟩⟩,1)else(cm x0 x2).bind λ⟨⟨jD,jg⟩,⟨kK,kL⟩⟩=>(cm x0 x1).bind λ⟨⟨kI,kJ⟩,⟨pI,pJ⟩⟩=>(iB ⟨⟨jD,jg⟩,⟨kK,kL⟩⟩ ⟨⟨kI,kJ⟩,⟨pI,pJ⟩⟩).bind λ⟨⟨wB,wC⟩,⟨C1,C2⟩⟩=>(gL ⟨⟨pQ,pR⟩,⟨El,Em⟩⟩ ⟨⟨wB,wC⟩,⟨C1,C2⟩⟩).bind λ⟨⟨pK,pL⟩,⟨uf,ug⟩⟩=>some (⟨⟨pK,pL⟩,⟨uf,ug⟩⟩,0))) λRq=>(some (decide ((x1:Int)<0))).bind λeG=>(bif eG then some true else(some (x0.length:Int)).bind λgQ=>(some (decide ((gQ:Int)<=x1))).bind λfX=>some fX).bind λyP=>(bif yP then some true else(some (decide ((x2:Int)<0))).bind λje=>some je).bind λEn=>(bif En then some true else(some (x0.length:Int)).bind λjC=>(some (decide ((jC:Int)<=x2))).bind λgR=>some gR).bind λEo=>Rq Eo
noncomputable def jI(x0:List Qr):Option (Int×Int):=(some (x0.length:Int)).bind λx7=>(b9 (λ(Ep:Int×Int×Int)=>match Ep with|⟨GJ,Er,yQ⟩=>(show Option ((Int×Int×Int)⊕(Int×Int))from(some (decide ((yQ:Int)<x7))).bind λx9=>(bif x9 then(cm x0 yQ).bind λ⟨⟨om,ot⟩,⟨Fv,Fx⟩⟩=>(cm x0 GJ).bind λ⟨⟨dK,dL⟩,⟨iW,iX⟩⟩=>(jx ⟨⟨om,ot⟩,⟨Fv,Fx⟩⟩ ⟨⟨dK,dL⟩,⟨iW,iX⟩⟩).bind λeF=>(some (decide ((eF:Int)<0))).bind λlU=>cj (λ(Fy:Int)=>(cm x0 Er).bind λ⟨⟨C3,C4⟩,⟨Nb,Nc⟩⟩=>(jx ⟨⟨om,ot⟩,⟨Fv,Fx⟩⟩ ⟨⟨C3,C4⟩,⟨Nb,Nc⟩⟩).bind λgR=>(some (decide ((0:Int)<gR))).bind λjV=>cj (λ(IV:Int)=>(some (IntKind.i64.wrap (yQ+1))).bind λiq=>some (.inl (Fy,IV,iq))) λTf=>(bif jV then Tf yQ else Tf Er)) λO9=>(bif lU then O9 yQ else O9 GJ)else some (.inr (GJ,Er))))) (0,0,0)).bind λPM=>match PM with|⟨Nd,Nf⟩=>some (Nd,Nf)
noncomputable def iS(x0:List Int)(x1:Int)(x2:List Qr):Option (Qr):=(some (x0.length:Int)).bind λx8=>(some (x2.length:Int)).bind λew=>(some (min (x8:Int) ew)).bind λeG=>(lH eG x0 x1 x2).bind λ⟨⟨qk,ql⟩,⟨Ng,Nh⟩⟩=>some ⟨⟨qk,ql⟩,⟨Ng,Nh⟩⟩
noncomputable def kV(x0:Int)(x1:List Int)(x2:List Int)(x3:List Qr)(x4:List Qr):Option (List Qr):=(some (decide ((x0:Int)<1))).bind λgw=>(bif gw then some []else(some (min (x0:Int) 6)).bind λfX=>(DT 64 fX (⟨⟨false,[]⟩,⟨false,[]⟩⟩:Qr)).bind λez=>(some (ez.length:Int)).bind λlU=>(b9 (λ(s8:Int×(List Qr))=>match s8 with|⟨AE,C5⟩=>(show Option ((Int×(List Qr))⊕((List Qr)))from(some (decide ((AE:Int)<lU))).bind λgY=>(bif gY then(iS x1 AE x3).bind λ⟨⟨IW,IX⟩,⟨IY,IZ⟩⟩=>(iS x2 AE x4).bind λ⟨⟨jD,jg⟩,⟨kK,kL⟩⟩=>(iB ⟨⟨IW,IX⟩,⟨IY,IZ⟩⟩ ⟨⟨jD,jg⟩,⟨kK,kL⟩⟩).bind λ⟨⟨ou,oy⟩,⟨rV,rW⟩⟩=>(vh C5 AE).bind λmK=>(stM C5 mK ⟨⟨ou,oy⟩,⟨rV,rW⟩⟩).bind λD0=>(some (IntKind.i64.wrap (AE+1))).bind λqY=>some (.inl (qY,D0))else some (.inr C5)))) (0,ez)).bind λyR=>some yR)
end
section
open Go.Fw Go.Fw.Z Go.RowKit
theorem pM{x0:List Qr}{x1:Int}{r:Qr}(h:gz x0 x1=some r):Pure ah 35 [slc 4 (List.map eQ x0),.v (.int .i64 x1)] (.agg (eQ r)):=by
 refine bk Tryz.func35 Y (af Y) (λdI M vs hvs=>?_);unfold gz at h;refine sr<|al (cs:=[.v (.bool false),slc 1 (List.map aX []),.v (.bool false),slc 1 (List.map aX [])]) (by exact⟨au,aB,au,aB,aq⟩) Y<|dn<|qq<|qq ?_;refine bG h (λj3=>AS.cw 18 [(0,.sv (slc 4 (List.map eQ x0))),(1,.sv (.v (.int .i64 x1))),(4,.ptr 4 0),(12,.sv (.v (.bool j3)))] [(4,⟨27,[.sv (.v (.bool false)),.sv (slc 1 (List.map aX [])),.sv (.v (.bool false)),.sv (slc 1 (List.map aX []))]⟩)] []) (λh=>?_) (λqE h=>?_);refine aW<|mv Y<|lE h λx6 h6 h=>ls _ Y Y h6<|mv Y<|bE h λCX oW h=>?_;cases x6;refine gm Y<|gm Y<|lE (F oW) λew ic oW=>gn Y ic<|lE oW λeG jh oW=>RT.geq (.some Y Y) _ Y Y T jh ?_;obtain rfl:=O oW;exact pF Y<|dn<|⟨eG,h,wR []⟩;obtain rfl:=O (V oW);exact ww<|ww<|ww<|ww<|pT Y<|dn<|⟨true,h,wR []⟩
 try dsimp only
 refine aV.n ?_;cases qE;refine fs<|sr<|mv Y<|mv Y ?_;obtain⟨⟨⟨dK,dL⟩,⟨iW,iX⟩⟩,iw,h⟩:=bS (F h);refine ix Y Y iw<|RT.ik (cs:=[_,_,_,_]) .none Y T Y Y<|so Y Y Y<|dn<|bf ?_;obtain rfl:=O h;exact RZ (.agg Y Y (.cons Y (.cons Y (.cons Y (.cons Y (.nil))))) Y (.nil));refine cT<|sr<|bI (cs:=[_,_,_,_]) (cs':=[.v (.bool false),slc 1 (List.map aX []),.v (.bool false),slc 1 (List.map aX [])]) (.nil) ⟨au,aB,au,aB,aq⟩<|so Y Y Y<|dn<|bf<|aV.r ?_;obtain rfl:=O (V h);exact RZ (.agg Y Y (.cons Y (.cons Y (.cons Y (.cons Y (.nil))))) Y (.nil))
theorem xd{x0:Int}{Lc:List Qr}{Ke:List (List Qr)}{Ld:Int}{r:Qr}(h:iD x0 Lc Ke Ld=some r):Pure ah 37 [.v (.int .i64 x0),ref [slc 4 (List.map eQ Lc)],ref [slc 1 (List.map (eS 4 eQ) Ke)],ref [.v (.int .i64 Ld)]] (.agg (eQ r)):=by
 refine bk Tryz.func37 Y (af Y) (λdI M vs hvs=>?_);unfold iD at h;refine sr<|al (cs:=[.v (.bool false),slc 1 (List.map aX []),.v (.bool false),slc 1 (List.map aX [])]) (by exact⟨au,aB,au,aB,aq⟩) Y<|dn<|qq<|aY mixed<|lr Y Y<|mv Y ?_;obtain⟨⟨⟨kS,kT⟩,⟨ud,ue⟩⟩,h8,h⟩:=bS h;refine ix Y Y h8<|RT.ik (cs:=[_,_,_,_]) .none Y T Y Y<|lr Y Y<|mv Y<|bE h λeA jk h=>ix Y Y jk<|lr Y Y<|lr Y Y ?_;obtain⟨⟨⟨ej,ek⟩,⟨jF,jG⟩⟩,jl,h⟩:=bS h;refine cl (pM jl) ⟨Y,Y,aq⟩ ?_;obtain⟨⟨⟨dK,dL⟩,⟨iW,iX⟩⟩,iw,h⟩:=bS h;refine cl (qC iw) ⟨Y,Y,aq⟩<|so Y Y Y ?_;refine RT.done ⟨by kernel_rfl,?_⟩;refine aV.n<|bf ?_;obtain rfl:=O h;exact RZ (.agg Y Y (.cons Y (.cons Y (.cons Y (.cons Y (.nil))))) Y (.nil))
theorem Bw{x0:Int}{yK:List Qr}{yL:List (List Qr)}{yM:Int}(N:Nat){r:Qr}(h:lG x0 yK yL yM=some r):cZ ah 36 N [.v (.int .i64 x0),oc 37 [ref [slc 4 (List.map eQ yK)],ref [slc 1 (List.map (eS 4 eQ) yL)],ref [.v (.int .i64 yM)]]] (.agg ((fQ N) r)):=by
 refine bF Tryz.func36 Y (af Y) (λdI M vs hN hvs=>?_);unfold lG at h;refine sr<|al (cs:=[.v (.bool false),nw N (slc 1 (List.map aX [])),.v (.bool false),nw N (slc 1 (List.map aX []))]) (by exact⟨au,bn,au,bn,aq⟩) Y<|dn<|sr<|bI (cs:=[_,_,_,_]) (cs':=[.v (.bool false),nw N (slc 1 (List.map aX [])),.v (.bool false),nw N (slc 1 (List.map aX []))]) (.nil) ⟨au,bn,au,bn,aq⟩<|al (cs:=[.v (.bool false),nw N (slc 1 (List.map aX [])),.v (.bool false),nw N (slc 1 (List.map aX []))]) (by exact⟨au,bn,au,bn,aq⟩) Y ?_;refine so Y Y Y<|dn<|qq<|sr<|mv Y<|mv Y<|dn<|bE h λe6 zM jW=>?_;refine bL (λ(pB:Bool×(List Nat)×Bool×(List Nat))=>AS.cw 19 [(4,.ptr 4 0),(5,.ptr 5 0)] [(5,⟨27,[.sv (.v (.bool pB.1)),.sv (nw N (slc 1 (List.map aX pB.2.1))),.sv (.v (.bool pB.2.2.1)),.sv (nw N (slc 1 (List.map aX pB.2.2.2)))]⟩),(4,⟨27,[.sv (.v (.bool false)),.sv (nw N (slc 1 (List.map aX []))),.sv (.v (.bool false)),.sv (nw N (slc 1 (List.map aX [])))]⟩)] []) (λpB=>pB=e6) ?_ (λpB zN=>?_);refine bg ?_
 refine bM zM (λs6=>AS.cw 19 [(1,.sv (oc 37 [ref [slc 4 (List.map eQ yK)],ref [slc 1 (List.map (eS 4 eQ) yL)],ref [.v (.int .i64 yM)]])),(4,.ptr 4 0),(5,.ptr 5 0),(8,.sv (.v (.int .i64 x0))),(9,.sv (.v (.int .i64 s6.1)))] [(5,⟨27,[.sv (.v (.bool s6.2.1)),.sv (nw N (slc 1 (List.map aX s6.2.2.1))),.sv (.v (.bool s6.2.2.2.1)),.sv (nw N (slc 1 (List.map aX s6.2.2.2.2)))]⟩),(4,⟨27,[.sv (.v (.bool false)),.sv (nw N (slc 1 (List.map aX []))),.sv (.v (.bool false)),.sv (nw N (slc 1 (List.map aX [])))]⟩)] []) (wR []) (λs6 y6 G6 h zO wm=>?_);obtain⟨Bv,iZ,ja,jb,jc⟩:=s6
 try dsimp only
 refine sr<|lE h λew ic h=>ls _ Y Y ic<|dn<|qq ?_;cases ew;refine cF<|bT<|aV.x<|aV.x<|bD.x<|aV.n ?_;obtain rfl:=O (F h);exact⟨(iZ,ja,jb,jc),wm _ Y,wR []⟩;refine cT<|bu<|aV.n<|qq<|bg<|sr<|mv Y<|ag Y<|dn<|aY mixed<|ld Y Y (.cons Y (.cons Y (.cons Y (.cons Y (.nil)))))<|mv Y<|mv Y ?_;obtain⟨⟨⟨ej,ek⟩,⟨jF,jG⟩⟩,jl,h⟩:=bS (V h);refine RT.My (args:=[_]) (caps:=[_,_,_]) .none (xd jl) Y ⟨Y,aq⟩ T ?_;obtain⟨⟨⟨dK,dL⟩,⟨iW,iX⟩⟩,iw,h⟩:=bS h;refine RT.bH .none ((nL N iw).w (args':=[_,_]) ⟨(SV.cM (show cH [.v (.bool iZ),nw N (slc 1 (List.map aX ja)),.v (.bool jb),nw N (slc 1 (List.map aX jc))] _ from⟨au,cq,au,cq,aq⟩)),au,aq⟩) hN Y ⟨Y,Y,aq⟩ T<|so Y Y Y ?_;refine RT.done ⟨by kernel_rfl,?_⟩;refine bD.n<|aV.n<|aW<|lE h λez j6 h=>ad _ Y Y j6<|mv Y<|RT.done ?_;obtain rfl:=O h;exact aV.n ⟨(ez,dK,dL,iW,iX),zO _ Y,wR []⟩;subst zN;obtain⟨qF,qG,qH,qJ⟩:=pB
 try dsimp only
 refine aV.n<|sr<|ld Y Y (.cons Y (.cons Y (.cons Y (.cons Y (.nil)))))<|so Y Y Y<|dn<|bf ?_;obtain rfl:=O jW;exact RZ (.agg Y Y (.cons Y (.cons Y (.cons Y (.cons Y (.nil))))) Y (.nil))
theorem xe{x0:Int}{Lc:List Int}{Ke:Int}{Ld:List Qr}{r:Qr}(h:iE x0 Lc Ke Ld=some r):Pure ah 63 [.v (.int .i64 x0),ref [slc 1 (List.map bB Lc)],ref [.v (.int .i64 Ke)],ref [slc 4 (List.map eQ Ld)]] (.agg (eQ r)):=by
 refine bk Tryz.func63 Y (af Y) (λdI M vs hvs=>?_);unfold iE at h;refine sr<|al (cs:=[.v (.bool false),slc 1 (List.map aX []),.v (.bool false),slc 1 (List.map aX [])]) (by exact⟨au,aB,au,aB,aq⟩) Y<|dn<|qq<|qq<|aY mixed<|lr Y Y<|mv Y<|bE h λx8 h8 h=>ix Y Y h8<|lr Y Y<|lr Y Y<|lE h λeG jh h=>ne _ Y Y (Kb (p:=x8) (q:=Ke) jh) ?_;refine RT.done ⟨by kernel_rfl,?_⟩;refine aV.n ?_;cases eG;refine fs<|sr<|lr Y Y<|mv Y ?_;obtain⟨⟨⟨ej,ek⟩,⟨jF,jG⟩⟩,jl,h⟩:=bS (F h);refine ix Y Y jl<|RT.ik (cs:=[_,_,_,_]) .none Y T Y Y<|so Y Y Y<|dn<|bf ?_;obtain rfl:=O h;exact RZ (.agg Y Y (.cons Y (.cons Y (.cons Y (.cons Y (.nil))))) Y (.nil));refine cT<|sr<|bI (cs:=[_,_,_,_]) (cs':=[.v (.bool false),slc 1 (List.map aX []),.v (.bool false),slc 1 (List.map aX [])]) (.nil) ⟨au,aB,au,aB,aq⟩<|so Y Y Y<|dn<|bf<|aV.r ?_;obtain rfl:=O (V h);exact RZ (.agg Y Y (.cons Y (.cons Y (.cons Y (.cons Y (.nil))))) Y (.nil))
theorem Bx{x0:Int}{yK:List Int}{yL:Int}{yM:List Qr}(N:Nat){r:Qr}(h:lH x0 yK yL yM=some r):cZ ah 36 N [.v (.int .i64 x0),oc 63 [ref [slc 1 (List.map bB yK)],ref [.v (.int .i64 yL)],ref [slc 4 (List.map eQ yM)]]] (.agg ((fQ N) r)):=by
 refine bF Tryz.func36 Y (af Y) (λdI M vs hN hvs=>?_);unfold lH at h;refine sr<|al (cs:=[.v (.bool false),nw N (slc 1 (List.map aX [])),.v (.bool false),nw N (slc 1 (List.map aX []))]) (by exact⟨au,bn,au,bn,aq⟩) Y<|dn<|sr<|bI (cs:=[_,_,_,_]) (cs':=[.v (.bool false),nw N (slc 1 (List.map aX [])),.v (.bool false),nw N (slc 1 (List.map aX []))]) (.nil) ⟨au,bn,au,bn,aq⟩<|al (cs:=[.v (.bool false),nw N (slc 1 (List.map aX [])),.v (.bool false),nw N (slc 1 (List.map aX []))]) (by exact⟨au,bn,au,bn,aq⟩) Y ?_;refine so Y Y Y<|dn<|qq<|sr<|mv Y<|mv Y<|dn<|bE h λe6 zM jW=>?_;refine bL (λ(pB:Bool×(List Nat)×Bool×(List Nat))=>AS.cw 19 [(4,.ptr 4 0),(5,.ptr 5 0)] [(5,⟨27,[.sv (.v (.bool pB.1)),.sv (nw N (slc 1 (List.map aX pB.2.1))),.sv (.v (.bool pB.2.2.1)),.sv (nw N (slc 1 (List.map aX pB.2.2.2)))]⟩),(4,⟨27,[.sv (.v (.bool false)),.sv (nw N (slc 1 (List.map aX []))),.sv (.v (.bool false)),.sv (nw N (slc 1 (List.map aX [])))]⟩)] []) (λpB=>pB=e6) ?_ (λpB zN=>?_);refine bg ?_
 refine bM zM (λs6=>AS.cw 19 [(1,.sv (oc 63 [ref [slc 1 (List.map bB yK)],ref [.v (.int .i64 yL)],ref [slc 4 (List.map eQ yM)]])),(4,.ptr 4 0),(5,.ptr 5 0),(8,.sv (.v (.int .i64 x0))),(9,.sv (.v (.int .i64 s6.1)))] [(5,⟨27,[.sv (.v (.bool s6.2.1)),.sv (nw N (slc 1 (List.map aX s6.2.2.1))),.sv (.v (.bool s6.2.2.2.1)),.sv (nw N (slc 1 (List.map aX s6.2.2.2.2)))]⟩),(4,⟨27,[.sv (.v (.bool false)),.sv (nw N (slc 1 (List.map aX []))),.sv (.v (.bool false)),.sv (nw N (slc 1 (List.map aX [])))]⟩)] []) (wR []) (λs6 y6 G6 h zO wm=>?_);obtain⟨Bv,iZ,ja,jb,jc⟩:=s6
 try dsimp only
 refine sr<|lE h λew ic h=>ls _ Y Y ic<|dn<|qq ?_;cases ew;refine cF<|bT<|aV.x<|aV.x<|bD.x<|aV.n ?_;obtain rfl:=O (F h);exact⟨(iZ,ja,jb,jc),wm _ Y,wR []⟩;refine cT<|bu<|aV.n<|qq<|bg<|sr<|mv Y<|ag Y<|dn<|aY mixed<|ld Y Y (.cons Y (.cons Y (.cons Y (.cons Y (.nil)))))<|mv Y<|mv Y ?_;obtain⟨⟨⟨ej,ek⟩,⟨jF,jG⟩⟩,jl,h⟩:=bS (V h);refine RT.My (args:=[_]) (caps:=[_,_,_]) .none (xe jl) Y ⟨Y,aq⟩ T ?_;obtain⟨⟨⟨dK,dL⟩,⟨iW,iX⟩⟩,iw,h⟩:=bS h;refine RT.bH .none ((nL N iw).w (args':=[_,_]) ⟨(SV.cM (show cH [.v (.bool iZ),nw N (slc 1 (List.map aX ja)),.v (.bool jb),nw N (slc 1 (List.map aX jc))] _ from⟨au,cq,au,cq,aq⟩)),au,aq⟩) hN Y ⟨Y,Y,aq⟩ T<|so Y Y Y ?_;refine RT.done ⟨by kernel_rfl,?_⟩;refine bD.n<|aV.n<|aW<|lE h λez j6 h=>ad _ Y Y j6<|mv Y<|RT.done ?_;obtain rfl:=O h;exact aV.n ⟨(ez,dK,dL,iW,iX),zO _ Y,wR []⟩;subst zN;obtain⟨qF,qG,qH,qJ⟩:=pB
 try dsimp only
 refine aV.n<|sr<|ld Y Y (.cons Y (.cons Y (.cons Y (.cons Y (.nil)))))<|so Y Y Y<|dn<|bf ?_;obtain rfl:=O jW;exact RZ (.agg Y Y (.cons Y (.cons Y (.cons Y (.cons Y (.nil))))) Y (.nil))
theorem rY{x0:List Int}{x1:List Qr}{x2:List (List Qr)}{x3:List Qr}(N:Nat){r:(List Qr)×(List Qr)}(h:fG x0 x1 x2 x3=some r):cZ ah 16 N [slc 1 (List.map bB x0),slc 4 (List.map eQ x1),slc 1 (List.map (eS 4 eQ) x2),slc 4 (List.map eQ x3)] (.uT [nw N (slc 4 (List.map (fQ N) r.1)),nw N (slc 4 (List.map (fQ N) r.2))]):=by
 refine bF Tryz.func16 Y (af Y) (λdI M vs hN hvs=>?_);unfold fG at h;refine sr<|RT.zA .none (s:=.sv _) Y T Y Y<|RT.zA .none (s:=.sv _) Y T Y Y<|ag Y<|ag Y<|dn<|cg (gX (i:=6) Y [slc 1 (List.map (eS 4 eQ) x2)] (.cons Y (.nil)) .any 0 [(6,.sv (ref [slc 1 (List.map (eS 4 eQ) x2)]))] (λ_ _ _=>trivial) (pN.h (l:=[slc 1 (List.map (eS 4 eQ) x2)])) ⟨@FT.ptr _ _ _ _ _ 6 0 Y,aq⟩)<|cg (gX (i:=7) Y [slc 4 (List.map eQ x3)] (.cons Y (.nil)) .any 0 [(7,.sv (ref [slc 4 (List.map eQ x3)]))] (λ_ _ _=>trivial) (pN.h (l:=[slc 4 (List.map eQ x3)])) ⟨@FT.ptr _ _ _ _ _ 7 0 Y,aq⟩) ?_;refine cg (gu 8 306 27 4 Y Y T)<|cg (gu 9 308 27 4 Y Y T)<|sr<|mv Y<|lE h λgw lW h=>ln Y lW<|bE h λgQ jl h=>RT.tw (n:=4) (e:=(fQ N)) .none Y Y T Y T (by rfl) (by decide) (by exact⟨au,bn,au,bn,aq⟩) jl<|an (s:=.row _) Y<|dn<|sr<|mv Y<|lE h λez j6 h=>ln Y j6<|bE h λeF ji h=>RT.tw (n:=4) (e:=(fQ N)) .none Y Y T Y T (by rfl) (by decide) (by exact⟨au,bn,au,bn,aq⟩) ji ?_;refine an (s:=.row _) Y<|dn<|sr<|lr Y Y<|lE h λje oU h=>ln Y oU<|lr Y Y<|lE h λiM oV h=>ln Y oV<|lE h λig nV h=>RT.min .none _ Y Y T (DU (p:=je) (q:=iM) nV)<|ag Y<|dn<|qq<|sr<|mv Y<|lE h λjC mZ h=>ln Y mZ<|mv Y<|dn<|bE h λGq yq qp=>?_
 refine bL (λ(GK:(List Qr)×(List Qr))=>AS.cw 48 [(8,.row 15),(9,.row 18)] [] [(15,TR 27 4 (fQ N) GK.1),(18,TR 27 4 (fQ N) GK.2)]) (λGK=>GK=Gq) ?_ (λGK yt=>?_);refine bg ?_;refine bM yq (λuW=>AS.cw 48 [(1,.sv (slc 4 (List.map eQ x1))),(6,.sv (ref [slc 1 (List.map (eS 4 eQ) x2)])),(7,.sv (ref [slc 4 (List.map eQ x3)])),(8,.row 15),(9,.row 18),(10,.sv (.v (.int .i64 ig))),(24,.sv (slc 1 (List.map bB x0))),(25,.sv (.v (.int .i64 jC))),(26,.sv (.v (.int .i64 uW.1)))] [] [(15,TR 27 4 (fQ N) uW.2.1),(18,TR 27 4 (fQ N) uW.2.2)]) (wR []) (λuW SN SO h yu wY=>?_);obtain⟨rX,CY,CZ⟩:=uW
 try dsimp only
 refine sr<|lE h λjV oJ h=>ls _ Y Y oJ<|dn<|qq ?_;cases jV;refine cF<|bT<|aV.x<|aV.x<|bD.x<|aV.n ?_;obtain rfl:=O (F h);exact⟨(CY,CZ),wY _ Y,wR []⟩;refine cT<|bu<|aV.n<|qq<|bg<|sr<|mv Y<|bE (V h) λiq ny h=>ix Y Y ny<|lr Y Y<|al (cs:=[.v (.int .i64 0)]) (by exact⟨au,aq⟩) Y<|RT.xG (cells:=[_]) .none (s:=.sv _) Y Y Y T Y<|ag Y<|dn<|cg (gX (i:=11) Y [.v (.int .i64 rX)] (.cons Y (.nil)) .any 0 [(11,.sv (ref [.v (.int .i64 rX)]))] (λ_ _ _=>trivial) (pN.h (l:=[.v (.int .i64 rX)])) ⟨@FT.ptr _ _ _ _ _ 11 0 Y,aq⟩)<|qq ?_;refine aY mixed<|mo (s:=.row _) Y<|lr Y Y<|mv Y<|mv Y ?_;obtain⟨⟨⟨M7,M8⟩,⟨M9,Na⟩⟩,zQ,h⟩:=bS h;refine cl (pM zQ) ⟨Y,Y,aq⟩ ?_;obtain⟨⟨⟨kI,kJ⟩,⟨pI,pJ⟩⟩,vB,h⟩:=bS h;refine RT.bH .none (nK N vB) hN Y ⟨Y,aq⟩ T<|bE h λrF yy h=>iR Y Y Y yy<|bE h λX7 Tg h=>sA ⟨⟨kI,kJ⟩,⟨pI,pJ⟩⟩ Y Y Y Tg ?_;refine RT.done ⟨by kernel_rfl,?_⟩;refine aV.n<|aY mixed<|mo (s:=.row _) Y<|lr Y Y<|mv Y<|RT.Am (caps:=[_,_,_]) .none ⟨Y,Y,Y,aq⟩ T ?_;obtain⟨⟨⟨IN,IP⟩,⟨IQ,IS⟩⟩,CK,h⟩:=bS h;refine RT.bH .none (Bw N CK) hN Y ⟨Y,Y,aq⟩ T ?_;obtain⟨⟨⟨Ay,Az⟩,⟨AA,AB⟩⟩,Fu,h⟩:=bS h
 refine RT.bH .none ((wE N Fu).w (args':=[_]) ⟨(SV.cM (show cH [.v (.bool IN),nw N (slc 1 (List.map aX IP)),.v (.bool IQ),nw N (slc 1 (List.map aX IS))] _ from⟨au,cq,au,cq,aq⟩)),aq⟩) hN Y ⟨Y,aq⟩ T<|bE h λAo CL h=>iR Y Y Y CL<|bE h λX8 Th h=>sA ⟨⟨Ay,Az⟩,⟨AA,AB⟩⟩ Y Y Y Th ?_;refine RT.done ⟨by kernel_rfl,?_⟩;refine bD.n<|aV.n<|aW<|lE h λxu Gu h=>ad _ Y Y Gu<|mv Y<|RT.done ?_;obtain rfl:=O h;exact aV.n ⟨(xu,X7,X8),yu _ Y,wR []⟩;subst yt;obtain⟨IT,IU⟩:=GK
 try dsimp only
 refine aV.n<|sr<|mo (s:=.row _) Y<|mo (s:=.row _) Y<|an (s:=.row _) Y<|an (s:=.row _) Y<|dn<|kZ (i:=15) (E1:=27) (n:=4) (e:=(fQ N)) (l:=IT) hN (λ_ h=>h) Y<|kZ (i:=18) (E1:=27) (n:=4) (e:=(fQ N)) (l:=IU) hN (λ_ h=>h) Y<|bf ?_;obtain rfl:=O qp;exact R2 Y Y
theorem zW{x0:List Int}{x1:List Qr}{x2:List (List Qr)}{x3:List Qr}{r:(List Qr)×(List Qr)}(h:fG x0 x1 x2 x3=some r):Pure ah 16 [slc 1 (List.map bB x0),slc 4 (List.map eQ x1),slc 1 (List.map (eS 4 eQ) x2),slc 4 (List.map eQ x3)] (.uT [slc 4 (List.map eQ r.1),slc 4 (List.map eQ r.2)]):=ff (λN=>rY N h) (λN=>(SV.Kv ⟨UH,UH,aq⟩))
theorem yS{x0:List Int}{x1:List Qr}{x2:List (List Qr)}{x3:List Qr}(N:Nat){r:List Qr}(h:fS x0 x1 x2 x3=some r):cZ ah 17 N [slc 1 (List.map bB x0),slc 4 (List.map eQ x1),slc 1 (List.map (eS 4 eQ) x2),slc 4 (List.map eQ x3)] (nw N (slc 4 (List.map (fQ N) r))):=by
 refine bF Tryz.func17 Y (af Y) (λdI M vs hN hvs=>?_);unfold fS at h;refine sr<|aI Y (bn (N:=N) (n:=4) (e:=(fQ N)))<|dn<|sr<|mv Y<|mv Y<|mv Y<|mv Y ?_;obtain⟨⟨PK,PL⟩,ji,h⟩:=bS h;refine RT.bH .none (rY N ji) hN Y ⟨Y,Y,Y,Y,aq⟩ T<|mv Y<|ex Y Y<|ex Y Y<|ag Y<|ag Y<|dn<|sr<|mv Y<|lE h λiM oV h=>ln Y oV<|bE h λig nV h=>RT.tw (n:=4) (e:=(fQ N)) .none Y Y T Y T (by rfl) (by decide) (by exact⟨au,bn,au,bn,aq⟩) nV<|an (s:=.row _) Y<|dn<|qq<|sr<|mo (s:=.row _) Y ?_;refine lE h λjC mZ h=>lL Y Y mZ<|mv Y<|dn<|bE h λe8 Gx wZ=>?_;refine bL (λ(yN:(List Qr))=>AS.cw 43 [(11,.row 23)] [] [(23,TR 27 4 (fQ N) yN)]) (λyN=>yN=e8) ?_ (λyN Gy=>?_);refine bg ?_;refine bM Gx (λs8=>AS.cw 43 [(9,.sv (nw N (slc 4 (List.map (fQ N) PK)))),(10,.sv (nw N (slc 4 (List.map (fQ N) PL)))),(11,.row 23),(25,.sv (.v (.int .i64 jC))),(26,.sv (.v (.int .i64 s8.1)))] [] [(23,TR 27 4 (fQ N) s8.2)]) (wR []) (λs8 y8 G8 h Gz GA=>?_);obtain⟨AD,C0⟩:=s8
 try dsimp only
 refine sr<|lE h λjV oJ h=>ls _ Y Y oJ<|dn<|qq ?_;cases jV;refine cF<|bT<|aV.x<|aV.x<|bD.x<|aV.n ?_;obtain rfl:=O (F h);exact⟨C0,GA _ Y,wR []⟩;refine cT<|bu<|aV.n<|qq<|bg<|sr<|mv Y<|ag Y<|dn<|aY mixed<|mo (s:=.row _) Y<|mv Y<|mv Y<|mv Y ?_;obtain⟨⟨⟨ou,oy⟩,⟨rV,rW⟩⟩,pV,h⟩:=bS (V h);refine RT.ON .none Y Y T pV<|RT.ik (cs:=[_,_,_,_]) .none Y T Y Y<|mv Y<|mv Y ?_;obtain⟨⟨⟨pD,pE⟩,⟨pG,pH⟩⟩,yy,h⟩:=bS h;refine RT.ON .none Y Y T yy<|RT.ik (cs:=[_,_,_,_]) .none Y T Y Y ?_;obtain⟨⟨⟨pK,pL⟩,⟨uf,ug⟩⟩,zR,h⟩:=bS h;refine RT.bH .none ((nL N zR).w (args':=[_,_]) ⟨(SV.cM (show cH [.v (.bool ou),nw N (slc 1 (List.map aX oy)),.v (.bool rV),nw N (slc 1 (List.map aX rW))] _ from⟨au,cq,au,cq,aq⟩)),(SV.cM (show cH [.v (.bool pD),nw N (slc 1 (List.map aX pE)),.v (.bool pG),nw N (slc 1 (List.map aX pH))] _ from⟨au,cq,au,cq,aq⟩)),aq⟩) hN Y ⟨Y,Y,aq⟩ T<|bE h λnS uY h=>iR Y Y Y uY<|bE h λD0 yx h=>sA ⟨⟨pK,pL⟩,⟨uf,ug⟩⟩ Y Y Y yx ?_;refine RT.done ⟨by kernel_rfl,?_⟩;refine bD.n<|aV.n<|aW<|lE h λwW Gt h=>ad _ Y Y Gt<|mv Y<|RT.done ?_;obtain rfl:=O h;exact aV.n ⟨(wW,D0),Gz _ Y,wR []⟩;subst Gy
 try dsimp only
 refine aV.n<|sr<|mo (s:=.row _) Y<|an (s:=.row _) Y<|dn<|kZ (i:=23) (E1:=27) (n:=4) (e:=(fQ N)) (l:=yN) hN (λ_ h=>h) Y<|bf ?_;obtain rfl:=O wZ;exact R1 Y
theorem yT{x0:List Int}{x1:List Qr}{x2:List (List Qr)}{x3:List Qr}{r:List Qr}(h:fS x0 x1 x2 x3=some r):Pure ah 17 [slc 1 (List.map bB x0),slc 4 (List.map eQ x1),slc 1 (List.map (eS 4 eQ) x2),slc 4 (List.map eQ x3)] (slc 4 (List.map eQ r)):=ff (λN=>yS N h) (λN=>UH)
theorem uh{x0:List Qr}{x1:List Qr}{r:Qr}(h:gC x0 x1=some r):Pure ah 11 [slc 4 (List.map eQ x0),slc 4 (List.map eQ x1)] (.agg (eQ r)):=by
 refine bk Tryz.func11 Y (af Y) (λdI M vs hvs=>?_);unfold gC at h;refine sr<|al (cs:=[.v (.bool false),slc 1 (List.map aX []),.v (.bool false),slc 1 (List.map aX [])]) (by exact⟨au,aB,au,aB,aq⟩) Y<|dn<|sr<|mv Y<|mv Y ?_;obtain⟨⟨⟨ng,nh⟩,⟨qK,qL⟩⟩,h7,h⟩:=bS h;refine cl (yJ h7) ⟨Y,Y,aq⟩ ?_;obtain⟨⟨⟨kS,kT⟩,⟨ud,ue⟩⟩,h8,h⟩:=bS h;refine cl (CV h8) ⟨Y,aq⟩<|so Y Y Y<|dn<|bf ?_;obtain rfl:=O h;exact RZ (.agg Y Y (.cons Y (.cons Y (.cons Y (.cons Y (.nil))))) Y (.nil))
theorem wF{x0:List Qr}{x1:List Qr}{r:Qr}(h:iF x0 x1=some r):Pure ah 13 [slc 4 (List.map eQ x0),slc 4 (List.map eQ x1)] (.agg (eQ r)):=by
 refine bk Tryz.func13 Y (af Y) (λdI M vs hvs=>?_);unfold iF at h;refine sr<|al (cs:=[.v (.bool false),slc 1 (List.map aX []),.v (.bool false),slc 1 (List.map aX [])]) (by exact⟨au,aB,au,aB,aq⟩) Y<|dn<|sr<|mv Y<|mv Y ?_;obtain⟨⟨⟨ng,nh⟩,⟨qK,qL⟩⟩,h7,h⟩:=bS h;refine cl (yJ h7) ⟨Y,Y,aq⟩<|so Y Y Y<|dn<|bf ?_;obtain rfl:=O h;exact RZ (.agg Y Y (.cons Y (.cons Y (.cons Y (.cons Y (.nil))))) Y (.nil))
theorem nY{x0:List Qr}{x1:Int}{x2:Int}{x3:Qr}{r:Qr×Int}(h:c8 x0 x1 x2 x3=some r):Pure ah 6 [slc 4 (List.map eQ x0),.v (.int .i64 x1),.v (.int .i64 x2),.agg (eQ x3)] (.uT [.agg (eQ r.1),.v (.int .i64 r.2)]):=by
 obtain⟨⟨pQ,pR⟩,⟨El,Em⟩⟩:=x3;refine bk Tryz.func6 Y (af Y) (λdI M vs hvs=>?_);unfold c8 at h;refine sr<|bx Y<|al (cs:=[.v (.bool false),slc 1 (List.map aX []),.v (.bool false),slc 1 (List.map aX [])]) (by exact⟨au,aB,au,aB,aq⟩) Y<|ag Y<|dn<|qq<|qq ?_;refine bG h (λKf=>AS.cw 40 [(0,.sv (slc 4 (List.map eQ x0))),(1,.sv (.v (.int .i64 x1))),(2,.sv (.v (.int .i64 x2))),(7,.ptr 7 0),(8,.ptr 8 0),(27,.sv (.v (.bool Kf)))] [(8,⟨27,[.sv (.v (.bool false)),.sv (slc 1 (List.map aX [])),.sv (.v (.bool false)),.sv (slc 1 (List.map aX []))]⟩),(7,⟨27,[.sv (.v (.bool pQ)),.sv (slc 1 (List.map aX pR)),.sv (.v (.bool El)),.sv (slc 1 (List.map aX Em))]⟩)] []) (λh=>?_) (λyO h=>?_);refine aW<|mv Y<|lE h λeG jh h=>ls _ Y Y jh<|mv Y<|bE h λyP vH h=>?_;cases eG;refine gm Y<|gm Y<|lE (F vH) λgQ jl vH=>gn Y jl<|lE vH λfX iw vH=>RT.geq (.some Y Y) _ Y Y T iw ?_;obtain rfl:=O vH;refine pF Y<|mv Y<|bE h λPN By h=>?_;cases fX;refine gm Y<|lE (F By) λje oU By=>RT.lss (.some Y Y) _ Y Y T oU ?_;obtain rfl:=O By;refine pF Y<|mv Y<|bE h λPO vI h=>?_;cases je;refine gm Y<|gm Y<|lE (F vI) λjC mZ vI=>gn Y mZ<|lE vI λgR nW vI=>RT.geq (.some Y Y) _ Y Y T nW ?_;obtain rfl:=O vI;exact pF Y<|dn<|⟨gR,h,wR []⟩
 obtain rfl:=O (V vI);exact ww<|ww<|ww<|ww<|pT Y<|dn<|⟨true,h,wR []⟩;obtain rfl:=O (V By);refine ww<|ww<|pT Y<|mv Y<|bE h λPR dG h=>?_;obtain rfl:=O (V dG);exact ww<|ww<|ww<|ww<|pT Y<|dn<|⟨true,h,wR []⟩;obtain rfl:=O (V vH);refine ww<|ww<|ww<|ww<|pT Y<|mv Y<|bE h λPS PT h=>?_;obtain rfl:=O (V PT);refine ww<|ww<|pT Y<|mv Y<|bE h λPU PV h=>?_;obtain rfl:=O (V PV);exact ww<|ww<|ww<|ww<|pT Y<|dn<|⟨true,h,wR []⟩
 try dsimp only
 refine aV.n ?_;cases yO;refine fs<|qq<|aY mixed<|ld Y Y (.cons Y (.cons Y (.cons Y (.cons Y (.nil)))))<|mv Y<|mv Y ?_;obtain⟨⟨⟨jD,jg⟩,⟨kK,kL⟩⟩,lZ,h⟩:=bS (F h);refine ix Y Y lZ<|RT.ik (cs:=[_,_,_,_]) .none Y T Y Y<|mv Y<|mv Y ?_;obtain⟨⟨⟨kI,kJ⟩,⟨pI,pJ⟩⟩,vB,h⟩:=bS h;refine ix Y Y vB<|RT.ik (cs:=[_,_,_,_]) .none Y T Y Y ?_;obtain⟨⟨⟨wB,wC⟩,⟨C1,C2⟩⟩,yw,h⟩:=bS h;refine cl (CT yw) ⟨Y,Y,aq⟩ ?_;obtain⟨⟨⟨pK,pL⟩,⟨uf,ug⟩⟩,zR,h⟩:=bS h;refine cl (qC zR) ⟨Y,Y,aq⟩<|so Y Y Y<|ag Y ?_;refine RT.done ⟨by kernel_rfl,?_⟩;refine aV.n<|bf ?_;obtain rfl:=O h;exact RZ (.agg Y Y (.cons Y (.cons Y (.cons Y (.cons Y (.nil))))) Y (.tmp Y (.nil)));refine cT<|sr<|bI (cs:=[_,_,_,_]) (cs':=[.v (.bool false),slc 1 (List.map aX []),.v (.bool false),slc 1 (List.map aX [])]) (.nil) ⟨au,aB,au,aB,aq⟩<|so Y Y Y<|ag Y<|dn<|bf<|aV.r ?_;obtain rfl:=O (V h);exact RZ (.agg Y Y (.cons Y (.cons Y (.cons Y (.cons Y (.nil))))) Y (.tmp Y (.nil)))
theorem uj{x0:List Qr}{r:Int×Int}(h:jI x0=some r):Pure ah 8 [slc 4 (List.map eQ x0)] (.uT [.v (.int .i64 r.1),.v (.int .i64 r.2)]):=by
 refine bk Tryz.func8 Y (af Y) (λdI M vs hvs=>?_);unfold jI at h;refine sr<|ag Y<|ag Y<|dn<|qq<|sr<|mv Y<|lE h λx7 h7 h=>ln Y h7<|mv Y<|dn<|bE h λPM PW PX=>?_;refine bL (λ(vJ:Int×Int)=>AS.cw 32 [(2,.sv (.v (.int .i64 vJ.1))),(3,.sv (.v (.int .i64 vJ.2)))] [] []) (λvJ=>vJ=PM) ?_ (λvJ PY=>?_);refine bg ?_;refine bM PW (λEp=>AS.cw 32 [(0,.sv (slc 4 (List.map eQ x0))),(2,.sv (.v (.int .i64 Ep.1))),(3,.sv (.v (.int .i64 Ep.2.1))),(6,.sv (slc 4 (List.map eQ x0))),(7,.sv (.v (.int .i64 x7))),(8,.sv (.v (.int .i64 Ep.2.2)))] [] []) (wR []) (λEp y14 G14 h PZ P0=>?_);obtain⟨GJ,Er,yQ⟩:=Ep
 try dsimp only
 refine sr<|lE h λx9 h9 h=>ls _ Y Y h9<|dn<|qq ?_;cases x9;refine cF<|bT<|aV.x<|aV.x<|bD.x<|aV.n ?_;obtain rfl:=O (F h);exact⟨(GJ,Er),P0 _ Y,wR []⟩;refine cT<|bu<|aV.n<|qq<|bg<|sr<|mv Y ?_;obtain⟨⟨⟨om,ot⟩,⟨Fv,Fx⟩⟩,jh,h⟩:=bS (V h);refine ix Y Y jh<|RT.ik (cs:=[_,_,_,_]) .none Y T Y Y<|al (cs:=[.v (.bool false),slc 1 (List.map aX []),.v (.bool false),slc 1 (List.map aX [])]) (by exact⟨au,aB,au,aB,aq⟩) Y<|ag Y<|so Y Y Y<|dn<|qq<|qq<|aY mixed<|ld Y Y (.cons Y (.cons Y (.cons Y (.cons Y (.nil)))))<|mv Y<|mv Y ?_;obtain⟨⟨⟨dK,dL⟩,⟨iW,iX⟩⟩,iw,h⟩:=bS h;refine ix Y Y iw<|RT.ik (cs:=[_,_,_,_]) .none Y T Y Y<|bE h λeF ji h=>cl (qD ji) ⟨Y,Y,aq⟩<|lE h λlU mB h=>ls _ Y Y mB ?_;refine RT.done ⟨by kernel_rfl,?_⟩;refine aV.n ?_;refine bG h (λS8=>AS.cw 32 [(0,.sv (slc 4 (List.map eQ x0))),(2,.sv (.v (.int .i64 S8))),(3,.sv (.v (.int .i64 Er))),(4,.sv (.v (.int .i64 yQ))),(5,.ptr 5 0),(6,.sv (slc 4 (List.map eQ x0))),(7,.sv (.v (.int .i64 x7))),(8,.sv (.v (.int .i64 yQ)))] [(5,⟨27,[.sv (.v (.bool om)),.sv (slc 1 (List.map aX ot)),.sv (.v (.bool Fv)),.sv (slc 1 (List.map aX Fx))]⟩)] []) (λh=>?_) (λFy h=>?_);cases lU;exact fs<|⟨GJ,(F h),wR []⟩;exact cT<|aW<|mv Y<|ag Y<|dn<|⟨yQ,(V h),wR []⟩
 try dsimp only
 refine aV.n<|qq<|aY mixed<|ld Y Y (.cons Y (.cons Y (.cons Y (.cons Y (.nil)))))<|mv Y<|mv Y ?_;obtain⟨⟨⟨C3,C4⟩,⟨Nb,Nc⟩⟩,pU,h⟩:=bS h;refine ix Y Y pU<|RT.ik (cs:=[_,_,_,_]) .none Y T Y Y<|bE h λgR nW h=>cl (qD nW) ⟨Y,Y,aq⟩<|lE h λjV oJ h=>gt _ Y Y oJ ?_;refine RT.done ⟨by kernel_rfl,?_⟩;refine aV.n ?_;refine bG h (λX9=>AS.cw 32 [(0,.sv (slc 4 (List.map eQ x0))),(2,.sv (.v (.int .i64 Fy))),(3,.sv (.v (.int .i64 X9))),(6,.sv (slc 4 (List.map eQ x0))),(7,.sv (.v (.int .i64 x7))),(8,.sv (.v (.int .i64 yQ)))] [] []) (λh=>?_) (λIV h=>?_);cases jV;exact fs<|⟨Er,(F h),wR []⟩;exact cT<|aW<|mv Y<|ag Y<|dn<|⟨yQ,(V h),wR []⟩
 try dsimp only
 refine bD.n<|aV.n<|aW<|lE h λiq ny h=>ad _ Y Y ny<|mv Y<|RT.done ?_;obtain rfl:=O h;exact aV.n ⟨(Fy,IV,iq),PZ _ Y,wR []⟩;subst PY;obtain⟨Nd,Nf⟩:=vJ
 try dsimp only
 refine aV.n<|sr<|mv Y<|mv Y<|ag Y<|ag Y<|dn<|bf ?_;obtain rfl:=O PX;exact R2 Y Y
theorem rZ{x0:List Int}{x1:Int}{x2:List Qr}(N:Nat){r:Qr}(h:iS x0 x1 x2=some r):cZ ah 41 N [slc 1 (List.map bB x0),.v (.int .i64 x1),slc 4 (List.map eQ x2)] (.agg ((fQ N) r)):=by
 refine bF Tryz.func41 Y (af Y) (λdI M vs hN hvs=>?_);unfold iS at h;refine sr<|RT.zA .none (s:=.sv _) Y T Y Y<|RT.zA .none (s:=.sv _) Y T Y Y<|RT.zA .none (s:=.sv _) Y T Y Y<|al (cs:=[.v (.bool false),nw N (slc 1 (List.map aX [])),.v (.bool false),nw N (slc 1 (List.map aX []))]) (by exact⟨au,bn,au,bn,aq⟩) Y<|dn<|cg (gX (i:=3) Y [slc 1 (List.map bB x0)] (.cons Y (.nil)) .any 0 [(3,.sv (ref [slc 1 (List.map bB x0)]))] (λ_ _ _=>trivial) (pN.h (l:=[slc 1 (List.map bB x0)])) ⟨@FT.ptr _ _ _ _ _ 3 0 Y,aq⟩) ?_;refine cg (gX (i:=4) Y [.v (.int .i64 x1)] (.cons Y (.nil)) .any 0 [(4,.sv (ref [.v (.int .i64 x1)]))] (λ_ _ _=>trivial) (pN.h (l:=[.v (.int .i64 x1)])) ⟨@FT.ptr _ _ _ _ _ 4 0 Y,aq⟩)<|cg (gX (i:=5) Y [slc 4 (List.map eQ x2)] (.cons Y (.nil)) .any 0 [(5,.sv (ref [slc 4 (List.map eQ x2)]))] (λ_ _ _=>trivial) (pN.h (l:=[slc 4 (List.map eQ x2)])) ⟨@FT.ptr _ _ _ _ _ 5 0 Y,aq⟩)<|sr<|lr Y Y<|lE h λx8 h8 h=>ln Y h8<|lr Y Y<|lE h λew ic h=>ln Y ic ?_;refine lE h λeG jh h=>RT.min .none _ Y Y T (DU (p:=x8) (q:=ew) jh)<|RT.Am (caps:=[_,_,_]) .none ⟨Y,Y,Y,aq⟩ T ?_;obtain⟨⟨⟨qk,ql⟩,⟨Ng,Nh⟩⟩,kF,h⟩:=bS h;refine RT.bH .none (Bx N kF) hN Y ⟨Y,Y,aq⟩ T<|so Y Y Y<|dn<|bf ?_;obtain rfl:=O h
 exact RZ (.agg Y Y (.cons Y (.cons Y (.cons Y (.cons Y (.nil))))) Y (.nil))
theorem Es{x0:Int}{x1:List Int}{x2:List Int}{x3:List Qr}{x4:List Qr}(N:Nat){r:List Qr}(h:kV x0 x1 x2 x3 x4=some r):cZ ah 21 N [.v (.int .i64 x0),slc 1 (List.map bB x1),slc 1 (List.map bB x2),slc 4 (List.map eQ x3),slc 4 (List.map eQ x4)] (nw N (slc 4 (List.map (fQ N) r))):=by
 refine bF Tryz.func21 Y (af Y) (λdI M vs hN hvs=>?_);unfold kV at h;refine sr<|aI Y (bn (N:=N) (n:=4) (e:=(fQ N)))<|dn<|qq<|sr<|mv Y<|lE h λgw lW h=>ls _ Y Y lW<|dn ?_;cases gw;refine fs<|sr<|mv Y<|lE (F h) λfX iw h=>RT.min .none _ Y Y T (DU (p:=x0) (q:=6) iw)<|bE h λez j6 h=>RT.tw (n:=4) (e:=(fQ N)) .none Y Y T Y T (by rfl) (by decide) (by exact⟨au,bn,au,bn,aq⟩) j6<|an (s:=.row _) Y<|dn<|qq<|sr<|mo (s:=.row _) Y<|lE h λlU mB h=>lL Y Y mB<|mv Y<|dn<|bE h λe8 Gx wZ=>?_;refine bL (λ(yR:(List Qr))=>AS.cw 37 [(11,.row 17)] [] [(17,TR 27 4 (fQ N) yR)]) (λyR=>yR=e8) ?_ (λyR Gy=>?_);refine bg ?_;refine bM Gx (λs8=>AS.cw 37 [(1,.sv (slc 1 (List.map bB x1))),(2,.sv (slc 1 (List.map bB x2))),(3,.sv (slc 4 (List.map eQ x3))),(4,.sv (slc 4 (List.map eQ x4))),(11,.row 17),(19,.sv (.v (.int .i64 lU))),(20,.sv (.v (.int .i64 s8.1)))] [] [(17,TR 27 4 (fQ N) s8.2)]) (wR []) (λs8 y8 G8 h Gz GA=>?_);obtain⟨AE,C5⟩:=s8
 try dsimp only
 refine sr<|lE h λgY mY h=>ls _ Y Y mY<|dn<|qq ?_;cases gY;refine cF<|bT<|aV.x<|aV.x<|bD.x<|aV.n ?_;obtain rfl:=O (F h);exact⟨C5,GA _ Y,wR []⟩;refine cT<|bu<|aV.n<|qq<|bg<|sr<|mv Y<|ag Y<|dn<|aW<|mo (s:=.row _) Y<|mv Y<|mv Y<|mv Y<|mv Y ?_;obtain⟨⟨⟨IW,IX⟩,⟨IY,IZ⟩⟩,vz,h⟩:=bS (V h);refine RT.bH .none (rZ N vz) hN Y ⟨Y,Y,Y,aq⟩ T<|mv Y<|mv Y<|mv Y ?_;obtain⟨⟨⟨jD,jg⟩,⟨kK,kL⟩⟩,lZ,h⟩:=bS h;refine RT.bH .none (rZ N lZ) hN Y ⟨Y,Y,Y,aq⟩ T ?_;obtain⟨⟨⟨ou,oy⟩,⟨rV,rW⟩⟩,pV,h⟩:=bS h;refine RT.bH .none ((wD N pV).w (args':=[_,_]) ⟨(SV.cM (show cH [.v (.bool IW),nw N (slc 1 (List.map aX IX)),.v (.bool IY),nw N (slc 1 (List.map aX IZ))] _ from⟨au,cq,au,cq,aq⟩)),(SV.cM (show cH [.v (.bool jD),nw N (slc 1 (List.map aX jg)),.v (.bool kK),nw N (slc 1 (List.map aX kL))] _ from⟨au,cq,au,cq,aq⟩)),aq⟩) hN Y ⟨Y,Y,aq⟩ T<|bE h λmK rG h=>iR Y Y Y rG<|bE h λD0 yx h=>sA ⟨⟨ou,oy⟩,⟨rV,rW⟩⟩ Y Y Y yx ?_;refine RT.done<|bD.n<|aV.n<|aW<|lE h λqY zQ h=>ad _ Y Y zQ<|mv Y<|RT.done ?_;obtain rfl:=O h;exact aV.n ⟨(qY,D0),Gz _ Y,wR []⟩;subst Gy
 try dsimp only
 refine aV.n<|sr<|mo (s:=.row _) Y<|an (s:=.row _) Y<|dn<|kZ (i:=17) (E1:=27) (n:=4) (e:=(fQ N)) (l:=yR) hN (λ_ h=>h) Y<|bf ?_;obtain rfl:=O wZ;exact R1 Y;refine cT<|sr<|aI Y (bn (N:=N) (n:=4) (e:=(fQ N)))<|dn<|bf<|aV.r ?_;obtain rfl:=O (V h);exact R1 Y
theorem Et{x0:Int}{x1:List Int}{x2:List Int}{x3:List Qr}{x4:List Qr}{r:List Qr}(h:kV x0 x1 x2 x3 x4=some r):Pure ah 21 [.v (.int .i64 x0),slc 1 (List.map bB x1),slc 1 (List.map bB x2),slc 4 (List.map eQ x3),slc 4 (List.map eQ x4)] (slc 4 (List.map eQ r)):=ff (λN=>Es N h) (λN=>UH)
end
section
open Go.Fw
noncomputable def cA(x0:List Int):Option (List Int):=(some (x0.length:Int)).bind λx5=>(b9 (λ(Eu:Int)=>(show Option ((Int)⊕(Int))from cj (λ(Ev:Bool)=>(bif Ev then(some (IntKind.i64.wrap (Eu-1))).bind λez=>some (.inl ez)else some (.inr Eu))) λOO=>(some (decide ((0:Int)<Eu))).bind λx7=>(bif x7 then(some (IntKind.i64.wrap (Eu-1))).bind λeG=>(cm x0 eG).bind λeA=>(some (decide ((eA:Int)=0))).bind λgw=>some gw else some false).bind λI0=>OO I0)) x5).bind λEw=>(wS x0 0 Ew).bind λje=>some je
noncomputable def bQ(x0:List Nat):Option (List Int):=(b9 (λ(s6:Int×(List Int))=>match s6 with|⟨zX,oX⟩=>(show Option ((Int×(List Int))⊕((List Int)))from(some (x0.length:Int)).bind λx7=>(some (decide ((zX:Int)<x7))).bind λx8=>(bif x8 then(cm x0 zX).bind λgw=>(some (gw%65536)).bind λfX=>(some (IntKind.i64.wrap (fX:Int))).bind λez=>(cm x0 zX).bind λje=>(some (je/65536%4294967296)).bind λiM=>(some (IntKind.i64.wrap (iM:Int))).bind λig=>(wU 8 oX [ez,ig]).bind λjC=>(some (IntKind.i64.wrap (zX+1))).bind λew=>some (.inl (ew,jC))else some (.inr oX)))) (0,[])).bind λgM=>(cA gM).bind λjV=>some jV
noncomputable def dg(x0:List Int)(x1:Int):Option (Int):=(some (x0.length:Int)).bind λx7=>(some (decide ((x1:Int)<x7))).bind λx8=>(bif x8 then(cm x0 x1).bind λeG=>some eG else some 0)
noncomputable def cC(x0:Bool)(x1:List Int):Option (Zr):=(cA x1).bind λx8=>(b9 (λ(s6:Int×(List Nat))=>match s6 with|⟨mF,oX⟩=>(show Option ((Int×(List Nat))⊕((List Nat)))from(some (x8.length:Int)).bind λeG=>(some (decide ((mF:Int)<eG))).bind λeA=>(bif eA then(dg x8 mF).bind λeF=>(some ((eF%4294967296).toNat)).bind λlU=>(some (IntKind.i64.wrap (mF+1))).bind λiM=>(dg x8 iM).bind λig=>(some ((ig%4294967296).toNat)).bind λg9=>(some ((g9*65536)%4294967296)).bind λjC=>(some ((lU+jC)%4294967296)).bind λgR=>(wU 4 oX [gR]).bind λn9=>(some (IntKind.i64.wrap (mF+2))).bind λgw=>some (.inl (gw,n9))else some (.inr oX)))) (0,[])).bind λgM=>cj (λ(I1:Bool)=>some ⟨I1,gM⟩) λK9=>(bif x0 then(some (gM.length:Int)).bind λiN=>(some (decide ((0:Int)<iN))).bind λmL=>some mL else some false).bind λI2=>K9 I2
noncomputable def fT(x0:Zr):Option (Zr):=match x0 with|⟨bC,bA⟩=>(bQ bA).bind λx7=>(cC bC x7).bind λ⟨kS,kT⟩=>some ⟨kS,kT⟩
noncomputable def iT(x0:Zr)(x1:Zr):Option (Bool):=match x0 with|⟨bC,bA⟩=>match x1 with|⟨bP,bN⟩=>cj (λ(I3:Bool)=>(bif I3 then some false else(b9 (λ(wX:Int)=>(show Option ((Int)⊕((Unit)⊕(Bool)))from(some (bA.length:Int)).bind λig=>(some (decide ((wX:Int)<ig))).bind λg9=>(bif g9 then(cm bA wX).bind λyj=>(cm bN wX).bind λqY=>(some (decide ((yj:Nat)≠qY))).bind λrF=>(bif rF then some (.inr (.inr false))else(some (IntKind.i64.wrap (wX+1))).bind λgR=>some (.inl gR))else some (.inr (.inl ()))))) 0).bind λe9=>match e9 with|.inr v9=>some v9|.inl _=>some true)) λK3=>(some (!(bC==bP))).bind λew=>(bif ew then some true else(some (bA.length:Int)).bind λgw=>(some (bN.length:Int)).bind λez=>(some (decide ((gw:Int)≠ez))).bind λeF=>some eF).bind λI4=>K3 I4
noncomputable def kn(x0:Int):Option (Zr):=(some ((x0%18446744073709551616).toNat)).bind λx5=>(some (decide ((x0:Int)<0))).bind λx7=>cj (λ(CD:Nat)=>(some (decide ((x0:Int)<0))).bind λeG=>(some (CD%4294967296)).bind λjv=>(some (jv%4294967296)).bind λgw=>(some (CD/4294967296%18446744073709551616)).bind λfX=>(some (fX%4294967296)).bind λez=>(fT ⟨eG,[gw,ez]⟩).bind λ⟨CO,CP⟩=>some ⟨CO,CP⟩) λK2=>(bif x7 then(some (mW 18446744073709551616 0 x5)).bind λx9=>K2 x9 else K2 x5)
noncomputable def gD(x0:List Int)(x1:List Int):Option (Int):=(some (x0.length:Int)).bind λx7=>(some (x1.length:Int)).bind λx9=>(some (max (x7:Int) x9)).bind λew=>(some (IntKind.i64.wrap (ew-1))).bind λeG=>(b9 (λ(jw:Int)=>(show Option ((Int)⊕((Unit)⊕(Int)))from(some (decide ((0:Int)<=jw))).bind λjv=>(bif jv then(dg x0 jw).bind λeF=>(dg x1 jw).bind λgY=>(some (decide ((eF:Int)<gY))).bind λiM=>(bif iM then some (.inr (.inr (-1)))else(dg x0 jw).bind λjC=>(dg x1 jw).bind λn9=>(some (decide ((n9:Int)<jC))).bind λiq=>(bif iq then some (.inr (.inr 1))else(some (IntKind.i64.wrap (jw-1))).bind λgQ=>some (.inl gQ)))else some (.inr (.inl ()))))) eG).bind λe6=>match e6 with|.inr v6=>some v6|.inl _=>some 0
noncomputable def fH(x0:List Int)(x1:List Int):Option (List Int):=(b9 (λ(zY:Int×Int×(List Int))=>match zY with|⟨xg,Ex,yU⟩=>(show Option ((Int×Int×(List Int))⊕((List Int)))from cj (λ(Ey:Bool)=>(bif Ey then(dg x0 Ex).bind λjV=>(dg x1 Ex).bind λyj=>(some (IntKind.i64.wrap (jV+yj))).bind λnR=>(some (IntKind.i64.wrap (nR+xg))).bind λmL=>(some (Int.tmod mL 65536)).bind λvp=>(wU 8 yU [vp]).bind λsu=>(some (IntKind.i64.wrap (Int.tdiv mL 65536))).bind λnS=>(some (IntKind.i64.wrap (Ex+1))).bind λg9=>some (.inl (nS,g9,su))else some (.inr yU))) λK22=>(some (x0.length:Int)).bind λeG=>(some (decide ((Ex:Int)<eG))).bind λeA=>(bif eA then some true else(some (x1.length:Int)).bind λfX=>(some (decide ((Ex:Int)<fX))).bind λez=>some ez).bind λI5=>(bif I5 then some true else(some (decide ((0:Int)<xg))).bind λgY=>some gY).bind λP1=>K22 P1)) (0,0,[])).bind λoY=>(cA oY).bind λuV=>some uV
noncomputable def eP(x0:List Int)(x1:List Int):Option (List Int):=(b9 (λ(s8:Int×Int×(List Int))=>match s8 with|⟨CA,GL,nT⟩=>(show Option ((Int×Int×(List Int))⊕((List Int)))from(some (x0.length:Int)).bind λeG=>(some (decide ((GL:Int)<eG))).bind λeA=>(bif eA then(dg x0 GL).bind λez=>(dg x1 GL).bind λje=>(some (IntKind.i64.wrap (ez-je))).bind λgY=>(some (IntKind.i64.wrap (gY-CA))).bind λig=>(some (decide ((ig:Int)<0))).bind λjC=>cj (λ(Kf:Int×Int)=>match Kf with|⟨P2,Le⟩=>(wU 8 nT [Le]).bind λnR=>(some (IntKind.i64.wrap (GL+1))).bind λgw=>some (.inl (P2,gw,nR))) λRq=>(bif jC then(some (IntKind.i64.wrap (ig+65536))).bind λjV=>Rq (1,jV)else Rq (0,ig))else some (.inr nT)))) (0,0,[])).bind λnU=>(cA nU).bind λmL=>some mL
noncomputable def dr(x0:List Int):Option (Int):=(some (x0.length:Int)).bind λx6=>(some (IntKind.i64.wrap (x6-1))).bind λx7=>(b9 (λ(s6:Int×Int)=>match s6 with|⟨Lf,zX⟩=>(show Option ((Int×Int)⊕(Int))from(some (decide ((0:Int)<=zX))).bind λx9=>(bif x9 then(some (IntKind.i64.wrap (Lf*65536))).bind λjv=>(cm x0 zX).bind λfX=>(some (IntKind.i64.wrap (jv+fX))).bind λeF=>(some (IntKind.i64.wrap (zX-1))).bind λeG=>some (.inl (eF,eG))else some (.inr Lf)))) (0,x7)).bind λGM=>some GM
noncomputable def gN(x0:Int):Option (List Int):=(some (Int.tmod x0 65536)).bind λx4=>(some (IntKind.i64.wrap (Int.tdiv x0 65536))).bind λx6=>(some (Int.tmod x6 65536)).bind λx7=>(some (IntKind.i64.wrap (Int.tdiv x0 65536))).bind λx9=>(some (IntKind.i64.wrap (Int.tdiv x9 65536))).bind λew=>(cA [x4,x7,ew]).bind λeA=>some eA
noncomputable def dw(x0:List Int)(x1:Int):Option (List Int):=(b9 (λ(uW:Int×Int×(List Int))=>match uW with|⟨Lg,I6,yV⟩=>(show Option ((Int×Int×(List Int))⊕((List Int)))from cj (λ(Ez:Bool)=>(bif Ez then(dg x0 I6).bind λgY=>(some (IntKind.i64.wrap (gY*x1))).bind λig=>(some (IntKind.i64.wrap (ig+Lg))).bind λjC=>(some (Int.tmod jC 65536)).bind λn9=>(wU 8 yV [n9]).bind λyj=>(some (IntKind.i64.wrap (Int.tdiv jC 65536))).bind λiN=>(some (IntKind.i64.wrap (I6+1))).bind λeF=>some (.inl (iN,eF,yj))else some (.inr yV))) λOO=>(some (x0.length:Int)).bind λeG=>(some (decide ((I6:Int)<eG))).bind λeA=>(bif eA then some true else(some (decide ((0:Int)<Lg))).bind λgQ=>some gQ).bind λI7=>OO I7)) (0,0,[])).bind λsH=>(cA sH).bind λmK=>some mK
noncomputable def lI(x0:List Int)(x1:List Int):Option (List Int):=(some (x0.length:Int)).bind λx9=>(some (x1.length:Int)).bind λeG=>(some (IntKind.i64.wrap (x9+eG))).bind λeA=>(some (decide ((eA:Int)<=3))).bind λjv=>(bif jv then(dr x0).bind λgQ=>(dr x1).bind λez=>(some (IntKind.i64.wrap (gQ*ez))).bind λeF=>(gN eF).bind λlU=>some lU else(some (x0.length:Int)).bind λgY=>(some (IntKind.i64.wrap (gY-1))).bind λiM=>(b9 (λ(zY:(List Int)×Int)=>match zY with|⟨I8,xg⟩=>(show Option (((List Int)×Int)⊕((List Int)))from(some (decide ((0:Int)<=xg))).bind λg9=>(bif g9 then(wU 8 [0] I8).bind λiq=>(b9 (λ(EA:(List Int)×Int)=>match EA with|⟨oz,wG⟩=>(show Option (((List Int)×Int)⊕((List Int)))from(cm x0 xg).bind λmL=>(some (decide ((wG:Int)<mL))).bind λqY=>(bif qY then(cm x0 xg).bind λuV=>(some (IntKind.i64.wrap (uV-wG))).bind λxu=>(some (min (1024:Int) xu)).bind λsW=>(dw x1 sW).bind λB7=>(fH oz B7).bind λvn=>(some (IntKind.i64.wrap (wG+1024))).bind λrF=>some (.inl (vn,rF))else some (.inr oz)))) (iq,0)).bind λum=>(some (IntKind.i64.wrap (xg-1))).bind λgR=>some (.inl (um,gR))else some (.inr I8)))) ([],iM)).bind λAF=>(cA AF).bind λvo=>some vo)
noncomputable def jJ(x0:List Int)(x1:List Int):Option ((List Int)×(List Int)):=cj (λ(I9:Bool)=>(bif I9 then(dr x0).bind λig=>(dr x1).bind λjC=>(pP ig jC).bind λgR=>(gN gR).bind λjV=>(dr x0).bind λiq=>(dr x1).bind λnR=>(zF iq nR).bind λiN=>(gN iN).bind λmL=>some (jV,mL)else(some (x0.length:Int)).bind λqY=>(DT 8 qY (0:Int)).bind λvp=>(some (x1.length:Int)).bind λsu=>(some (decide ((su:Int)=1))).bind λuX=>(bif uX then(some (x0.length:Int)).bind λwW=>(some (IntKind.i64.wrap (wW-1))).bind λuV=>(b9 (λ(P3:Int×Int×(List Int))=>match P3 with|⟨Fz,C6,yW⟩=>(show Option ((Int×Int×(List Int))⊕(Int×(List Int)))from(some (decide ((0:Int)<=C6))).bind λAo=>(bif Ao then(some (IntKind.i64.wrap (Fz*65536))).bind λvn=>(cm x0 C6).bind λGj=>(some (IntKind.i64.wrap (vn+Gj))).bind λYa=>(cm x1 0).bind λFq=>(pP Ya Fq).bind λGk=>(cm x1 0).bind λDF=>(zF Ya DF).bind λOW=>(vh yW C6).bind λMz=>(stM yW Mz Gk).bind λYb=>(some (IntKind.i64.wrap (C6-1))).bind λsW=>some (.inl (OW,sW,Yb))else some (.inr (Fz,yW))))) (0,uV,vp)).bind λYc=>match Yc with|⟨Ja,EB⟩=>(cA EB).bind λGl=>(cA [Ja]).bind λx71=>some (Gl,x71)else(some (x0.length:Int)).bind λx73=>(some (IntKind.i64.wrap (x73-1))).bind λSA=>(b9 (λ(P4:(List Int)×Int×(List Int))=>match P4 with|⟨C7,oZ,o3⟩=>(show Option (((List Int)×Int×(List Int))⊕((List Int)×(List Int)))from(some (decide ((0:Int)<=oZ))).bind λYd=>(bif Yd then(cm x0 oZ).bind λP5=>(wU 8 [P5] C7).bind λKW=>(cA KW).bind λD5=>(some (D5.length:Int)).bind λx88=>(some (x1.length:Int)).bind λSB=>(some (decide ((x88:Int)<SB))).bind λO0=>cj (λ(Jb:Int)=>(b9 (λ(Ni:Int×Int)=>match Ni with|⟨ko,ni⟩=>(show Option ((Int×Int)⊕(Int))from(some (IntKind.i64.wrap (ni-ko))).bind λx94=>(some (decide ((1:Int)<x94))).bind λYe=>(bif Ye then(some (IntKind.i64.wrap (ko+ni))).bind λx98=>(some (IntKind.i64.wrap (Int.tdiv x98 2))).bind λRr=>(dw x1 Rr).bind λD6=>(gD D6 D5).bind λD7=>(some (decide ((D7:Int)<=0))).bind λBe=>cj (λ(Rs:Int×Int)=>match Rs with|⟨EC,ED⟩=>some (.inl (EC,ED))) λK56=>(bif Be then K56 (Rr,ni)else K56 (ko,Rr))else some (.inr ko)))) (0,Jb)).bind λqM=>(dw x1 qM).bind λD8=>(eP D5 D8).bind λJc=>(vh o3 oZ).bind λLh=>(stM o3 Lh qM).bind λTi=>(some (IntKind.i64.wrap (oZ-1))).bind λYf=>some (.inl (Jc,Yf,Ti))) λK46=>(bif O0 then K46 1 else K46 65536)else some (.inr (C7,o3))))) ([],SA,vp)).bind λYg=>match Yg with|⟨Nj,EE⟩=>(cA EE).bind λTj=>some (Tj,Nj)))) λK3=>(some (x0.length:Int)).bind λgQ=>(some (decide ((gQ:Int)<=3))).bind λfX=>(bif fX then(some (x1.length:Int)).bind λlU=>(some (decide ((lU:Int)<=3))).bind λje=>some je else some false).bind λJd=>K3 Jd
noncomputable def c9(x0:Zr):Option (Int):=match x0 with|⟨bC,bA⟩=>(bQ bA).bind λx5=>(some (x5.length:Int)).bind λx6=>(some (decide ((x6:Int)=0))).bind λx7=>(bif x7 then some 0 else(bif bC then some (-1)else some 1))
noncomputable def lJ(x0:Zr)(x1:Zr):Option (Int):=match x0 with|⟨bC,bA⟩=>match x1 with|⟨bP,bN⟩=>(c9 ⟨bC,bA⟩).bind λx7=>(c9 ⟨bP,bN⟩).bind λx9=>(some (decide ((x7:Int)≠x9))).bind λew=>(bif ew then(c9 ⟨bC,bA⟩).bind λeA=>(c9 ⟨bP,bN⟩).bind λgw=>(some (decide ((eA:Int)<gw))).bind λgQ=>(bif gQ then some (-1)else some 1)else(bQ bA).bind λeF=>(bQ bN).bind λgY=>(gD eF gY).bind λiM=>(c9 ⟨bC,bA⟩).bind λg9=>(some (decide ((g9:Int)<0))).bind λjC=>(bif jC then(some (IntKind.i64.wrap (0-iM))).bind λjV=>some jV else some iM))
noncomputable def jK(x0:Zr):Option (Zr):=match x0 with|⟨bC,bA⟩=>(some (!bC)).bind λx5=>(bQ bA).bind λx8=>(cC x5 x8).bind λ⟨C8,C9⟩=>some ⟨C8,C9⟩
noncomputable def lK(x0:Zr):Option (Zr):=match x0 with|⟨bC,bA⟩=>(bQ bA).bind λx5=>(cC false x5).bind λ⟨Je,Jf⟩=>some ⟨Je,Jf⟩
noncomputable def lM(x0:Zr)(x1:Zr):Option (Zr):=match x0 with|⟨bC,bA⟩=>match x1 with|⟨bP,bN⟩=>(bQ bA).bind λx9=>(bQ bN).bind λeA=>(some (bC==bP)).bind λez=>(bif ez then(fH x9 eA).bind λiM=>(cC bC iM).bind λ⟨uo,ur⟩=>some ⟨uo,ur⟩else(gD x9 eA).bind λgR=>(some (decide ((0:Int)<=gR))).bind λjV=>(bif jV then(eP x9 eA).bind λiN=>(cC bC iN).bind λ⟨ou,oy⟩=>some ⟨ou,oy⟩else(eP eA x9).bind λsu=>(cC bP su).bind λ⟨pK,pL⟩=>some ⟨pK,pL⟩))
noncomputable def fJ(x0:Zr)(x1:Zr):Option (Zr):=match x0 with|⟨bC,bA⟩=>match x1 with|⟨bP,bN⟩=>(some (!(bC==bP))).bind λx9=>(bQ bA).bind λeA=>(bQ bN).bind λgQ=>(lI eA gQ).bind λfX=>(cC x9 fX).bind λ⟨m6,m7⟩=>some ⟨m6,m7⟩
noncomputable def jL(x0:Zr)(x1:Zr):Option (Zr×Zr×Int):=match x0 with|⟨bC,bA⟩=>match x1 with|⟨bP,bN⟩=>(bQ bA).bind λjv=>(bQ bN).bind λfX=>(some (fX.length:Int)).bind λeF=>(some (decide ((eF:Int)=0))).bind λlU=>(bif lU then some (⟨false,[]⟩,⟨false,[]⟩,7)else(jJ jv fX).bind λ⟨yp,Bg⟩=>cj (λ(j3:Bool×Bool)=>match j3 with|⟨Jg,sD⟩=>cj (λ(j5:(List Int)×(List Int))=>match j5 with|⟨Iq,CH⟩=>(some (!(sD==bP))).bind λxu=>(cC xu Iq).bind λ⟨CE,CF⟩=>(cC false CH).bind λ⟨CI,CJ⟩=>some (⟨CE,CF⟩,⟨CI,CJ⟩,0)) λK5=>(bif Jg then(fH yp [1]).bind λrF=>(eP fX Bg).bind λnS=>K5 (rF,nS)else K5 (yp,Bg))) λK3=>(bif bC then(some (Bg.length:Int)).bind λiN=>(some (decide ((0:Int)<iN))).bind λmL=>some mL else some false).bind λNk=>K3 (Nk,bC))
noncomputable def lN(x0:Zr)(x1:Zr):Option (Zr):=match x0 with|⟨bC,bA⟩=>match x1 with|⟨bP,bN⟩=>(bQ bA).bind λeG=>(bQ bN).bind λgw=>(b9 (λ(s6:(List Int)×(List Int))=>match s6 with|⟨jw,mF⟩=>(show Option (((List Int)×(List Int))⊕((List Int)))from(some (mF.length:Int)).bind λfX=>(some (decide ((0:Int)<fX))).bind λez=>(bif ez then(jJ jw mF).bind λ⟨Yh,P6⟩=>some (.inl (mF,P6))else some (.inr jw)))) (eG,gw)).bind λrI=>(cC false rI).bind λ⟨Fs,CC⟩=>some ⟨Fs,CC⟩
end
section
open Go.Fw Go.Fw.Z Go.RowKit
theorem c7{x0:List Int}{r:List Int}(h:cA x0=some r):Pure ah 96 [slc 1 (List.map bB x0)] (slc 1 (List.map bB r)):=by
 refine bk Tryz.func96 Y (af Y) (λdI M vs hvs=>?_);unfold cA at h;refine sr<|aI Y (aB (n:=1) (e:=bB))<|dn<|sr<|mv Y<|lE h λx5 h5 h=>ln Y h5<|ag Y<|dn<|qq<|bE h λGq yq qp=>?_;refine bL (λ(Ew:Int)=>AS.cw 21 [(0,.sv (slc 1 (List.map bB x0))),(3,ai Ew)] [] []) (λEw=>Ew=Gq) ?_ (λEw yt=>?_);refine bg ?_;refine bM yq (λuW=>AS.cw 21 [(0,.sv (slc 1 (List.map bB x0))),(3,ai uW)] [] []) (wR []) (λEu SN SO h yu wY=>?_)
 try dsimp only
 refine qq<|qq ?_;refine bG h (λKX=>AS.cw 21 [(0,.sv (slc 1 (List.map bB x0))),(3,ai Eu),(15,aj KX)] [] []) (λh=>?_) (λEv h=>?_);refine aW<|mv Y<|lE h λx7 h7 h=>gt _ Y Y h7<|mv Y<|bE h λI0 dG h=>?_;cases x7;obtain rfl:=O (F dG);exact ww<|ww<|ww<|ww<|ww<|ww<|pF Y<|dn<|⟨false,h,wR []⟩;refine gm Y<|gm Y<|lE (V dG) λeG jh dG=>RT.sub (.some Y Y) _ Y Y T jh<|bE dG λeA jk dG=>RT.Wf (.some Y Y) Y Y T jk<|gr Y Y<|lE dG λgw lW dG=>Ic _ Y Y (uU (p:=eA) (q:=0) lW) ?_;obtain rfl:=O dG;exact pT Y<|dn<|⟨gw,h,wR []⟩
 try dsimp only
 refine aV.n ?_;cases Ev;refine cF<|bT<|aV.x<|aV.x<|bD.x<|aV.n ?_;obtain rfl:=O (F h);exact⟨Eu,wY _ Y,wR []⟩;refine cT<|bu<|aV.n<|bg<|aW<|mv Y<|lE (V h) λez j6 h=>sb _ Y Y j6<|ag Y<|RT.done<|bD.n ?_;obtain rfl:=O h;exact aV.n ⟨ez,yu _ Y,wR []⟩;subst yt
 try dsimp only
 refine aV.n<|sr<|mv Y<|mv Y<|bE qp λje oU qp=>RT.ye .none 0 Ew Y Y ⟨_,Y⟩ T oU<|ag Y<|dn<|bf ?_;obtain rfl:=O qp;exact R1 Y
theorem bZ{x0:List Nat}{r:List Int}(h:bQ x0=some r):Pure ah 72 [slc 1 (List.map aX x0)] (slc 1 (List.map bB r)):=by
 refine bk Tryz.func72 Y (af Y) (λdI M vs hvs=>?_);unfold bQ at h;refine sr<|aI Y (aB (n:=1) (e:=bB))<|dn<|sr<|ag Y<|dn<|cg (gu 3 304 3 1 Y Y T)<|qq<|sr<|ag Y<|dn<|bE h λe6 zM jW=>?_;refine bL (λ(gM:(List Int))=>AS.cw 28 [(3,.row 306)] [] [(306,TR 3 1 bB gM)]) (λgM=>gM=e6) ?_ (λgM zN=>?_);refine bg ?_;refine bM zM (λs6=>AS.cw 28 [(0,.sv (slc 1 (List.map aX x0))),(3,.row 306),(4,ai s6.1)] [] [(306,TR 3 1 bB s6.2)]) (eL (λi=>bif Nat.beq i 306 then 304 else i) Y Y Y Y Y ⟨.sv au,.row Y,.sv au,aq⟩ trivial ⟨⟨_,Y,cH.refl _⟩,aq⟩ (λi hi=>by rw[cX (show i≠306 by omega)];rfl)) (λs6 y6 G6 h zO wm=>?_);obtain⟨zX,oX⟩:=s6
 try dsimp only
 refine qq<|sr<|mv Y<|mv Y<|lE h λx7 h7 h=>ln Y h7<|lE h λx8 h8 h=>ls _ Y Y h8<|dn ?_;cases x8;refine cF<|bT<|aV.x<|aV.x<|bD.x<|aV.n ?_;obtain rfl:=O (F h);exact⟨oX,wm _ Y,wR []⟩;refine cT<|bu<|aV.n<|qq<|bg<|aY mixed<|mo (s:=.row _) Y<|mv Y<|mv Y<|bE (V h) λgw lW h=>ix Y Y lW<|lr Y Y<|lE h λfX iw h=>RT.rem .none _ Y Y T (by decide) (Mx (a:=gw) (b:=65536) iw)<|lE h λez j6 h=>cv _ Y j6<|mv Y<|mv Y<|bE h λje oU h=>ix Y Y oU<|lr Y Y<|lE h λiM oV h=>RT.quo .none _ Y Y T (by decide) (UK.Sc (a:=je) (b:=65536) oV) ?_;refine lE h λig nV h=>cv _ Y nV<|bl (l:=[ez,ig]) (e:=bB) (.one Y (.one Y (.nil))) Y Y Y Y Y Y<|bE h λjC mZ h=>aR (k:=[ez,ig]) (e:=bB) Y Y Y mZ<|an (s:=.row _) Y ?_;refine RT.done ⟨by kernel_rfl,?_⟩;refine bD.n<|aV.n<|aW<|mv Y<|lE h λew ic h=>ad _ Y Y ic<|ag Y<|RT.done ?_;obtain rfl:=O h;exact aV.n ⟨(ew,jC),zO _ Y,eL (λi=>bif Nat.beq i 306 then 25 else i) Y Y Y Y Y ⟨.sv au,.row Y,.sv au,aq⟩ trivial ⟨⟨_,Y,cH.refl _⟩,aq⟩ (λi hi=>by rw[cX (show i≠306 by omega)];rfl)⟩;subst zN
 try dsimp only
 refine aV.n<|qq<|cg (jB (i:=306) (E1:=3) (n:=1) (e:=bB) (l:=gM) Y)<|aW<|mv Y<|bE jW λjV oJ jW=>cl (c7 oJ) ⟨Y,aq⟩<|ag Y<|dn<|bf ?_;obtain rfl:=O jW;exact R1 Y
theorem dX{x0:List Int}{x1:Int}{r:Int}(h:dg x0 x1=some r):Pure ah 97 [slc 1 (List.map bB x0),ay x1] (ay r):=by
 refine bk Tryz.func97 Y (af Y) (λdI M vs hvs=>?_);unfold dg at h;refine sr<|ag Y<|dn<|qq<|sr<|mv Y<|mv Y<|lE h λx7 h7 h=>ln Y h7<|lE h λx8 h8 h=>ls _ Y Y h8<|dn ?_;cases x8;refine fs<|sr<|ag Y<|dn<|bf ?_;obtain rfl:=O (F h);exact R1 Y;refine cT<|sr<|mv Y<|mv Y<|bE (V h) λeG jh h=>ix Y Y jh<|lr Y Y<|ag Y<|dn<|bf<|aV.r ?_;obtain rfl:=O h;exact R1 Y
theorem eR{x0:Bool}{x1:List Int}{r:Zr}(h:cC x0 x1=some r):Pure ah 70 [az x0,slc 1 (List.map bB x1)] (.agg (eZ r)):=by
 refine bk Tryz.func70 Y (af Y) (λdI M vs hvs=>?_);unfold cC at h;refine sr<|al (cs:=[az false,ax]) (by exact⟨au,aB,aq⟩) Y<|dn<|sr<|mv Y<|bE h λx8 h8 h=>cl (c7 h8) ⟨Y,aq⟩<|ag Y<|dn<|sr<|ag Y<|dn<|cg (gu 5 304 71 1 Y Y T)<|qq<|sr<|ag Y<|dn<|bE h λe6 zM jW=>?_;refine bL (λ(gM:(List Nat))=>AS.cw 37 [(0,aj x0),(4,.ptr 4 0),(5,.row 306)] [(4,⟨25,[aj false,.sv ax]⟩)] [(306,TR 71 1 aX gM)]) (λgM=>gM=e6) ?_ (λgM zN=>?_);refine bg ?_;refine bM zM (λs6=>AS.cw 37 [(0,aj x0),(1,.sv (slc 1 (List.map bB x8))),(4,.ptr 4 0),(5,.row 306),(6,ai s6.1)] [(4,⟨25,[aj false,.sv ax]⟩)] [(306,TR 71 1 aX s6.2)]) (eL (λi=>bif Nat.beq i 306 then 304 else i) Y Y Y Y Y ⟨.sv au,.sv au,.ptr,.row Y,.sv au,aq⟩ ⟨⟨_,Y,⟨.sv au,.sv au,aq⟩⟩,aq⟩ ⟨⟨_,Y,cH.refl _⟩,aq⟩ (λi hi=>by rw[cX (show i≠306 by omega)];rfl)) (λs6 y6 G6 h zO wm=>?_);obtain⟨mF,oX⟩:=s6
 try dsimp only
 refine qq<|sr<|mv Y<|mv Y<|lE h λeG jh h=>ln Y jh<|lE h λeA jk h=>ls _ Y Y jk<|dn ?_;cases eA;refine cF<|bT<|aV.x<|aV.x<|bD.x<|aV.n ?_;obtain rfl:=O (F h);exact⟨oX,wm _ Y,wR []⟩;refine cT<|bu<|aV.n<|qq<|bg<|aW<|mo (s:=.row _) Y<|mv Y<|mv Y<|bE (V h) λeF ji h=>cl (dX ji) ⟨Y,Y,aq⟩<|lE h λlU mB h=>cv _ Y (UK.conv mB)<|mv Y<|mv Y<|lE h λiM oV h=>ad _ Y Y oV<|bE h λig nV h=>cl (dX nV) ⟨Y,Y,aq⟩<|lE h λg9 pU h=>cv _ Y (UK.conv pU)<|lE h λjC mZ h=>RT.mul .none _ Y Y T (UK.mul (a:=g9) (b:=65536) mZ) ?_;refine lE h λgR nW h=>ad _ Y Y (UK.add (a:=lU) (b:=jC) nW)<|bl (l:=[gR]) (e:=aX) (.one Y (.nil)) Y Y Y Y Y Y<|bE h λn9 vz h=>aR (k:=[gR]) (e:=aX) Y Y Y vz<|an (s:=.row _) Y<|RT.done<|bD.n<|aV.n<|aW<|mv Y<|lE h λgw lW h=>ad _ Y Y lW<|ag Y<|RT.done ?_;obtain rfl:=O h;exact aV.n ⟨(gw,n9),zO _ Y,eL (λi=>bif Nat.beq i 306 then 28 else i) Y Y Y Y Y ⟨.sv au,.sv au,.ptr,.row Y,.sv au,aq⟩ ⟨⟨_,Y,⟨.sv au,.sv au,aq⟩⟩,aq⟩ ⟨⟨_,Y,cH.refl _⟩,aq⟩ (λi hi=>by rw[cX (show i≠306 by omega)];rfl)⟩;subst zN
 try dsimp only
 refine aV.n<|qq ?_;refine bG jW (λj9=>AS.cw 37 [(4,.ptr 4 0)] [(4,⟨25,[aj j9,.sv (slc 1 (List.map aX gM))]⟩)] []) (λjW=>?_) (λI1 jW=>?_);refine cg (jB (i:=306) (E1:=71) (n:=1) (e:=aX) (l:=gM) Y)<|aW<|mv Y<|mv Y<|bE jW λI2 sI jW=>?_;cases x0;obtain rfl:=O (F sI);exact ww<|ww<|ww<|pF Y<|mv Y<|bI (cs:=[_,_]) (cs':=[az false,slc 1 (List.map aX gM)]) (.one Y (.one Y (.nil))) ⟨au,au,aq⟩<|so Y Y Y<|dn<|⟨false,jW,wR []⟩;refine gm Y<|lE (V sI) λiN lZ sI=>gn Y lZ<|lE sI λmL pV sI=>gg _ Y Y pV ?_;obtain rfl:=O sI;exact pT Y<|mv Y<|bI (cs:=[_,_]) (cs':=[az mL,slc 1 (List.map aX gM)]) (.one Y (.one Y (.nil))) ⟨au,au,aq⟩<|so Y Y Y<|dn<|⟨mL,jW,wR []⟩
 try dsimp only
 refine aV.n<|bf ?_;obtain rfl:=O jW;exact RZ (.agg Y Y (.k2 Y Y) Y (.nil))
theorem qN{x0:Zr}{r:Zr}(h:fT x0=some r):Pure ah 74 [.agg (eZ x0)] (.agg (eZ r)):=by
 obtain⟨bC,bA⟩:=x0;refine bk Tryz.func74 Y (af Y) (λdI M vs hvs=>?_);unfold fT at h;refine sr<|bx Y<|al (cs:=[az false,ax]) (by exact⟨au,aB,aq⟩) Y<|dn<|qq<|aY mixed<|fa Y Y<|lV Y Y Y<|fa Y Y<|lV Y Y Y<|bE h λx7 h7 h=>cl (bZ h7) ⟨Y,aq⟩ ?_;obtain⟨⟨kS,kT⟩,h8,h⟩:=bS h;refine cl (eR h8) ⟨Y,Y,aq⟩<|so Y Y Y ?_;refine RT.done ⟨by kernel_rfl,?_⟩;refine aV.n<|bf ?_;obtain rfl:=O h;exact RZ (.agg Y Y (.k2 Y Y) Y (.nil))
theorem r6{x0:Zr}{x1:Zr}{r:Bool}(h:iT x0 x1=some r):Pure ah 28 [.agg (eZ x0),.agg (eZ x1)] (az r):=by
 obtain⟨bC,bA⟩:=x0;obtain⟨bP,bN⟩:=x1;refine bk Tryz.func28 Y (af Y) (λdI M vs hvs=>?_);unfold iT at h;refine sr<|bx Y<|bx Y<|ag Y<|dn<|qq<|qq ?_;refine bG h (λj3=>AS.cw 38 [(2,.ptr 2 0),(3,.ptr 3 0),(19,aj j3)] [(3,⟨25,[aj bP,.sv (slc 1 (List.map aX bN))]⟩),(2,⟨25,[aj bC,.sv (slc 1 (List.map aX bA))]⟩)] []) (λh=>?_) (λI3 h=>?_);refine aW<|fa Y Y<|lV Y Y Y<|fa Y Y<|lV Y Y Y<|lE h λew ic h=>RT.F6 .none _ Y Y T ic<|mv Y<|bE h λI4 sI h=>?_;cases ew;refine RT.fieldAddr (.some Y Y) Y T Y<|RT.VJ (.some Y Y) Y Y Y T<|lE (F sI) λgw lW sI=>gn Y lW<|RT.fieldAddr (.some Y Y) Y T Y<|RT.VJ (.some Y Y) Y Y Y T<|lE sI λez j6 sI=>gn Y j6<|lE sI λeF ji sI=>gq _ Y Y (Kb (p:=gw) (q:=ez) ji) ?_;obtain rfl:=O sI;exact pF Y<|dn<|⟨eF,h,wR []⟩;obtain rfl:=O (V sI);exact ww<|ww<|ww<|ww<|ww<|ww<|ww<|pT Y<|dn<|⟨true,h,wR []⟩
 try dsimp only
 refine aV.n ?_;cases I3;refine fs<|qq<|sr<|ag Y<|dn<|bE (F h) λe9 hl9 ho9=>?_;refine bL (λ(Yi:Unit)=>AS.cw 38 [] [] []) (λYi=>.inl Yi=e9) ?_ (λYi hx9=>?_);refine bg ?_;refine bM hl9 (λs9=>AS.cw 38 [(2,.ptr 2 0),(3,.ptr 3 0),(5,ai s9)] [(3,⟨25,[aj bP,.sv (slc 1 (List.map aX bN))]⟩),(2,⟨25,[aj bC,.sv (slc 1 (List.map aX bA))]⟩)] []) (wR []) (λwX y9 G9 h hG9 hE9=>?_)
 try dsimp only
 refine qq<|sr<|mv Y<|fa Y Y<|lV Y Y Y<|lE h λig nV h=>ln Y nV<|lE h λg9 pU h=>ls _ Y Y pU<|dn ?_;cases g9;refine cF<|bT<|aV.x<|aV.x<|bD.x<|aV.n ?_;obtain rfl:=O (F h);exact⟨(),hE9 _ Y,wR []⟩;refine cT<|bu<|aV.n<|qq<|bg<|qq<|aY mixed<|fa Y Y<|lV Y Y Y<|mv Y<|bE (V h) λyj zP h=>ix Y Y zP<|lr Y Y<|fa Y Y<|lV Y Y Y<|mv Y<|bE h λqY zQ h=>ix Y Y zQ<|lr Y Y<|lE h λrF yy h=>ne _ Y Y (Sa (p:=yj) (q:=qY) yy) ?_;refine RT.done ⟨by kernel_rfl,?_⟩;refine aV.n ?_;cases rF;refine cF<|bu<|bD.n<|aV.n<|aW<|mv Y<|lE (F h) λgR nW h=>ad _ Y Y nW<|ag Y<|RT.done ?_;obtain rfl:=O h;exact aV.n ⟨gR,hG9 _ Y,wR []⟩;refine cT<|sr<|ag Y<|dn<|bf<|bD.r<|aV.r ?_;obtain rfl:=O (V h);have he9:=hE9 _ Y;subst he9;refine aV.r<|bD.r<|aV.r<|aV.r ?_;obtain rfl:=O ho9;exact R1 Y;subst hx9
 try dsimp only
 refine aV.n<|sr<|ag Y<|dn<|bf ?_;obtain rfl:=O ho9;exact R1 Y;refine cT<|sr<|ag Y<|dn<|bf<|aV.r ?_;obtain rfl:=O (V h);exact R1 Y
theorem zZ{x0:Int}{r:Zr}(h:kn x0=some r):Pure ah 95 [ay x0] (.agg (eZ r)):=by
 refine bk Tryz.func95 Y (af Y) (λdI M vs hvs=>?_);unfold kn at h;refine sr<|al (cs:=[az false,ax]) (by exact⟨au,aB,aq⟩) Y<|dn<|sr<|mv Y<|lE h λx5 h5 h=>cv _ Y (UK.conv h5)<|ag Y<|dn<|qq<|sr<|mv Y<|lE h λx7 h7 h=>ls _ Y Y h7<|dn ?_;refine bG h (λj2=>AS.cw 21 [(0,ai x0),(2,.ptr 2 0),(3,.sv (.v (.int .u64 ((j2:Nat):Int))))] [(2,⟨25,[aj false,.sv ax]⟩)] []) (λh=>?_) (λCD h=>?_);cases x7;exact fs<|⟨x5,(F h),wR []⟩;exact cT<|aW<|mv Y<|lE (V h) λx9 h9 h=>RT.neg .none _ Y T (UK.neg h9)<|ag Y<|dn<|⟨x9,h,wR []⟩
 try dsimp only
 refine aV.n<|sr<|mv Y<|lE h λeG jh h=>ls _ Y Y jh<|mv Y<|lE h λjv kF h=>RT.rem .none _ Y Y T (by decide) (Mx (a:=CD) (b:=4294967296) kF)<|lE h λgw lW h=>cv _ Y (UK.nat lW)<|mv Y<|lE h λfX iw h=>RT.quo .none _ Y Y T (by decide) (UK.Sc (a:=CD) (b:=4294967296) iw)<|lE h λez j6 h=>cv _ Y (UK.nat j6)<|bl (l:=[gw,ez]) (e:=aX) (.one Y (.one Y (.nil))) Y Y Y Y Y Y<|bI (cs:=[_,_]) (cs':=[az eG,slc 1 (List.map aX [gw,ez])]) (.one Y (.one Y (.nil))) ⟨au,au,aq⟩ ?_;obtain⟨⟨CO,CP⟩,oU,h⟩:=bS h;refine cl (qN oU) ⟨Y,aq⟩<|so Y Y Y<|dn<|bf ?_;obtain rfl:=O h;exact RZ (.agg Y Y (.k2 Y Y) Y (.nil))
end
section
open Go.Fw Go.Fw.Z Go.RowKit
theorem o4{x0:List Int}{x1:List Int}{r:Int}(h:gD x0 x1=some r):Pure ah 84 [slc 1 (List.map bB x0),slc 1 (List.map bB x1)] (ay r):=by
 refine bk Tryz.func84 Y (af Y) (λdI M vs hvs=>?_);unfold gD at h;refine sr<|ag Y<|dn<|qq<|sr<|mv Y<|lE h λx7 h7 h=>ln Y h7<|mv Y<|lE h λx9 h9 h=>ln Y h9<|lE h λew ic h=>RT.max .none _ Y Y T (Sb (p:=x7) (q:=x9) ic)<|lE h λeG jh h=>sb _ Y Y jh<|ag Y<|dn<|bE h λe6 zM jW=>?_;refine bL (λ(pB:Unit)=>AS.cw 30 [] [] []) (λpB=>.inl pB=e6) ?_ (λpB zN=>?_);refine bg ?_;refine bM zM (λs6=>AS.cw 30 [(0,.sv (slc 1 (List.map bB x0))),(1,.sv (slc 1 (List.map bB x1))),(5,ai s6)] [] []) (wR []) (λjw y6 G6 h zO wm=>?_)
 try dsimp only
 refine qq<|sr<|mv Y<|lE h λjv kF h=>ge _ Y Y kF<|dn ?_;cases jv;refine cF<|bT<|aV.x<|aV.x<|bD.x<|aV.n ?_;obtain rfl:=O (F h);exact⟨(),wm _ Y,wR []⟩;refine cT<|bu<|aV.n<|qq<|bg<|qq<|sr<|mv Y<|mv Y<|bE (V h) λeF ji h=>cl (dX ji) ⟨Y,Y,aq⟩<|mv Y<|mv Y<|bE h λgY mY h=>cl (dX mY) ⟨Y,Y,aq⟩<|lE h λiM oV h=>ls _ Y Y oV<|dn ?_;cases iM;refine fs<|sr<|mv Y<|mv Y<|bE (F h) λjC mZ h=>cl (dX mZ) ⟨Y,Y,aq⟩<|mv Y<|mv Y<|bE h λn9 vz h=>cl (dX vz) ⟨Y,Y,aq⟩<|lE h λiq ny h=>gt _ Y Y ny<|dn ?_;cases iq;refine cF<|bu<|bD.n<|aV.n<|aW<|mv Y<|lE (F h) λgQ jl h=>sb _ Y Y jl<|ag Y<|RT.done ?_;obtain rfl:=O h;exact aV.n ⟨gQ,zO _ Y,wR []⟩;refine cT<|sr<|ag Y<|dn<|bf<|bD.r<|aV.r ?_;obtain rfl:=O (V h);have KY:=wm _ Y;subst KY;refine aV.r<|bD.r<|aV.r<|aV.r ?_;obtain rfl:=O jW;exact R1 Y;refine cT<|sr<|ag Y<|dn<|bf<|aV.r<|bD.r<|aV.r ?_;obtain rfl:=O (V h);have KY:=wm _ Y;subst KY;refine aV.r<|bD.r<|aV.r<|aV.r ?_;obtain rfl:=O jW;exact R1 Y;subst zN
 try dsimp only
 refine aV.n<|sr<|ag Y<|dn<|bf ?_;obtain rfl:=O jW;exact R1 Y
theorem o5{x0:List Int}{x1:List Int}{r:List Int}(h:fH x0 x1=some r):Pure ah 83 [slc 1 (List.map bB x0),slc 1 (List.map bB x1)] (slc 1 (List.map bB r)):=by
 refine bk Tryz.func83 Y (af Y) (λdI M vs hvs=>?_);unfold fH at h;refine sr<|aI Y (aB (n:=1) (e:=bB))<|dn<|sr<|ag Y<|dn<|cg (gu 5 304 3 1 Y Y T)<|sr<|ag Y<|dn<|qq<|sr<|ag Y<|dn<|bE h λP7 EF yX=>?_;refine bL (λ(oY:(List Int))=>AS.cw 43 [(5,.row 306)] [] [(306,TR 3 1 bB oY)]) (λoY=>oY=P7) ?_ (λoY Bz=>?_);refine bg ?_;refine bM EF (λzY=>AS.cw 43 [(0,.sv (slc 1 (List.map bB x0))),(1,.sv (slc 1 (List.map bB x1))),(5,.row 306),(6,ai zY.1),(7,ai zY.2.1)] [] [(306,TR 3 1 bB zY.2.2)]) (eL (λi=>bif Nat.beq i 306 then 304 else i) Y Y Y Y Y ⟨.sv au,.sv au,.row Y,.sv au,.sv au,aq⟩ trivial ⟨⟨_,Y,cH.refl _⟩,aq⟩ (λi hi=>by rw[cX (show i≠306 by omega)];rfl)) (λzY y16 G16 h Jh EG=>?_);obtain⟨xg,Ex,yU⟩:=zY
 try dsimp only
 refine qq<|qq ?_;refine bG h (λj22=>AS.cw 43 [(0,.sv (slc 1 (List.map bB x0))),(1,.sv (slc 1 (List.map bB x1))),(5,.row 306),(6,ai xg),(7,ai Ex),(22,aj j22)] [] [(306,TR 3 1 bB yU)]) (λh=>?_) (λEy h=>?_);refine aW<|mv Y<|mv Y<|lE h λeG jh h=>ln Y jh<|lE h λeA jk h=>ls _ Y Y jk<|mv Y<|bE h λI5 GN h=>?_;cases eA;refine gm Y<|gm Y<|lE (F GN) λfX iw GN=>gn Y iw<|lE GN λez j6 GN=>RT.lss (.some Y Y) _ Y Y T j6 ?_;obtain rfl:=O GN;refine pF Y<|mv Y<|bE h λYj Li h=>?_;cases ez;refine gm Y<|lE (F Li) λgY mY Li=>gg _ Y Y mY ?_;obtain rfl:=O Li;exact pF Y<|dn<|⟨gY,h,wR []⟩;obtain rfl:=O (V Li);exact ww<|ww<|pT Y<|dn<|⟨true,h,wR []⟩;obtain rfl:=O (V GN);refine ww<|ww<|ww<|ww<|pT Y<|mv Y<|bE h λYk Yl h=>?_;obtain rfl:=O (V Yl);exact ww<|ww<|pT Y<|dn<|⟨true,h,wR []⟩
 try dsimp only
 refine aV.n ?_;cases Ey;refine cF<|bT<|aV.x<|aV.x<|bD.x<|aV.n ?_;obtain rfl:=O (F h);exact⟨yU,EG _ Y,wR []⟩;refine cT<|bu<|aV.n<|qq<|bg<|sr<|mv Y<|mv Y<|bE (V h) λjV oJ h=>cl (dX oJ) ⟨Y,Y,aq⟩<|mv Y<|mv Y<|bE h λyj zP h=>cl (dX zP) ⟨Y,Y,aq⟩<|lE h λnR wo h=>ad _ Y Y wo<|mv Y<|lE h λmL pV h=>ad _ Y Y pV<|ag Y<|dn<|sr<|mo (s:=.row _) Y<|mv Y<|lE h λvp vB h=>?_;refine RT.rem .none _ Y Y T (by decide) vB<|bl (l:=[vp]) (e:=bB) (.one Y (.nil)) Y Y Y Y Y Y<|bE h λsu yw h=>aR (k:=[vp]) (e:=bB) Y Y Y yw<|an (s:=.row _) Y<|dn<|aW<|mv Y<|lE h λnS uY h=>RT.quo .none _ Y Y T (by decide) uY<|ag Y<|RT.done<|bD.n<|aV.n<|aW<|mv Y<|lE h λg9 pU h=>ad _ Y Y pU<|ag Y<|RT.done ?_;obtain rfl:=O h;exact aV.n ⟨(nS,g9,su),Jh _ Y,eL (λi=>bif Nat.beq i 306 then 38 else i) Y Y Y Y Y ⟨.sv au,.sv au,.row Y,.sv au,.sv au,aq⟩ trivial ⟨⟨_,Y,cH.refl _⟩,aq⟩ (λi hi=>by rw[cX (show i≠306 by omega)];rfl)⟩;subst Bz
 try dsimp only
 refine aV.n<|qq<|cg (jB (i:=306) (E1:=3) (n:=1) (e:=bB) (l:=oY) Y)<|aW<|mv Y<|bE yX λuV CK yX=>cl (c7 CK) ⟨Y,aq⟩<|ag Y<|dn<|bf ?_;obtain rfl:=O yX;exact R1 Y
theorem mG{x0:List Int}{x1:List Int}{r:List Int}(h:eP x0 x1=some r):Pure ah 85 [slc 1 (List.map bB x0),slc 1 (List.map bB x1)] (slc 1 (List.map bB r)):=by
 refine bk Tryz.func85 Y (af Y) (λdI M vs hvs=>?_);unfold eP at h;refine sr<|aI Y (aB (n:=1) (e:=bB))<|dn<|sr<|ag Y<|dn<|cg (gu 5 304 3 1 Y Y T)<|sr<|ag Y<|dn<|qq<|sr<|ag Y<|dn<|bE h λe8 Gx wZ=>?_;refine bL (λ(nU:(List Int))=>AS.cw 34 [(5,.row 306)] [] [(306,TR 3 1 bB nU)]) (λnU=>nU=e8) ?_ (λnU Gy=>?_);refine bg ?_;refine bM Gx (λs8=>AS.cw 34 [(0,.sv (slc 1 (List.map bB x0))),(1,.sv (slc 1 (List.map bB x1))),(5,.row 306),(6,ai s8.1),(7,ai s8.2.1)] [] [(306,TR 3 1 bB s8.2.2)]) (eL (λi=>bif Nat.beq i 306 then 304 else i) Y Y Y Y Y ⟨.sv au,.sv au,.row Y,.sv au,.sv au,aq⟩ trivial ⟨⟨_,Y,cH.refl _⟩,aq⟩ (λi hi=>by rw[cX (show i≠306 by omega)];rfl)) (λs8 y8 G8 h Gz GA=>?_);obtain⟨CA,GL,nT⟩:=s8
 try dsimp only
 refine qq<|sr<|mv Y<|mv Y<|lE h λeG jh h=>ln Y jh<|lE h λeA jk h=>ls _ Y Y jk<|dn ?_;cases eA;refine cF<|bT<|aV.x<|aV.x<|bD.x<|aV.n ?_;obtain rfl:=O (F h);exact⟨nT,GA _ Y,wR []⟩;refine cT<|bu<|aV.n<|qq<|bg<|sr<|mv Y<|mv Y<|bE (V h) λez j6 h=>cl (dX j6) ⟨Y,Y,aq⟩<|mv Y<|mv Y<|bE h λje oU h=>cl (dX oU) ⟨Y,Y,aq⟩<|lE h λgY mY h=>sb _ Y Y mY<|mv Y<|lE h λig nV h=>sb _ Y Y nV<|ag Y<|dn<|sr<|ag Y<|dn<|qq<|sr<|mv Y<|lE h λjC mZ h=>?_;refine ls _ Y Y mZ<|dn ?_;refine bG h (λKf=>AS.cw 34 [(0,.sv (slc 1 (List.map bB x0))),(1,.sv (slc 1 (List.map bB x1))),(5,.row 306),(6,ai Kf.1),(7,ai GL),(8,ai Kf.2)] [] [(306,TR 3 1 bB nT)]) (λh=>?_) (λKf h=>?_);cases jC;exact fs<|⟨(0,ig),(F h),wR []⟩;exact cT<|sr<|mv Y<|lE (V h) λjV oJ h=>ad _ Y Y oJ<|ag Y<|dn<|aW<|ag Y<|dn<|⟨(1,jV),h,wR []⟩;obtain⟨P2,Le⟩:=Kf
 try dsimp only
 refine aV.n<|aW<|mo (s:=.row _) Y<|mv Y<|bl (l:=[Le]) (e:=bB) (.one Y (.nil)) Y Y Y Y Y Y<|bE h λnR wo h=>aR (k:=[Le]) (e:=bB) Y Y Y wo<|an (s:=.row _) Y<|RT.done<|bD.n<|aV.n<|aW<|mv Y<|lE h λgw lW h=>ad _ Y Y lW<|ag Y<|RT.done ?_;obtain rfl:=O h;exact aV.n ⟨(P2,gw,nR),Gz _ Y,eL (λi=>bif Nat.beq i 306 then 31 else i) Y Y Y Y Y ⟨.sv au,.sv au,.row Y,.sv au,.sv au,aq⟩ trivial ⟨⟨_,Y,cH.refl _⟩,aq⟩ (λi hi=>by rw[cX (show i≠306 by omega)];rfl)⟩;subst Gy
 try dsimp only
 refine aV.n<|qq<|cg (jB (i:=306) (E1:=3) (n:=1) (e:=bB) (l:=nU) Y)<|aW<|mv Y<|bE wZ λmL pV wZ=>cl (c7 pV) ⟨Y,aq⟩<|ag Y<|dn<|bf ?_;obtain rfl:=O wZ;exact R1 Y
theorem gA{x0:List Int}{r:Int}(h:dr x0=some r):Pure ah 99 [slc 1 (List.map bB x0)] (ay r):=by
 refine bk Tryz.func99 Y (af Y) (λdI M vs hvs=>?_);unfold dr at h;refine sr<|ag Y<|dn<|sr<|ag Y<|dn<|qq<|sr<|mv Y<|lE h λx6 h6 h=>ln Y h6<|lE h λx7 h7 h=>sb _ Y Y h7<|ag Y<|dn<|bE h λe6 zM jW=>?_;refine bL (λ(GM:Int)=>AS.cw 20 [(3,ai GM)] [] []) (λGM=>GM=e6) ?_ (λGM zN=>?_);refine bg ?_;refine bM zM (λs6=>AS.cw 20 [(0,.sv (slc 1 (List.map bB x0))),(3,ai s6.1),(4,ai s6.2)] [] []) (wR []) (λs6 y6 G6 h zO wm=>?_);obtain⟨Lf,zX⟩:=s6
 try dsimp only
 refine qq<|sr<|mv Y<|lE h λx9 h9 h=>ge _ Y Y h9<|dn ?_;cases x9;refine cF<|bT<|aV.x<|aV.x<|bD.x<|aV.n ?_;obtain rfl:=O (F h);exact⟨Lf,wm _ Y,wR []⟩;refine cT<|bu<|aV.n<|qq<|bg<|aW<|mv Y<|lE (V h) λjv kF h=>RT.mul .none _ Y Y T kF<|mv Y<|mv Y<|bE h λfX iw h=>ix Y Y iw<|lr Y Y<|lE h λeF ji h=>ad _ Y Y ji<|ag Y<|RT.done<|bD.n<|aV.n<|aW<|mv Y<|lE h λeG jh h=>sb _ Y Y jh<|ag Y<|RT.done ?_;obtain rfl:=O h;exact aV.n ⟨(eF,eG),zO _ Y,wR []⟩;subst zN
 try dsimp only
 refine aV.n<|sr<|mv Y<|ag Y<|dn<|bf ?_;obtain rfl:=O jW;exact R1 Y
theorem nZ{x0:Int}{r:List Int}(h:gN x0=some r):Pure ah 98 [ay x0] (slc 1 (List.map bB r)):=by
 refine bk Tryz.func98 Y (af Y) (λdI M vs hvs=>?_);unfold gN at h;refine sr<|aI Y (aB (n:=1) (e:=bB))<|dn<|sr<|mv Y<|lE h λx4 h4 h=>RT.rem .none _ Y Y T (by decide) h4<|mv Y<|lE h λx6 h6 h=>RT.quo .none _ Y Y T (by decide) h6<|lE h λx7 h7 h=>RT.rem .none _ Y Y T (by decide) h7<|mv Y<|lE h λx9 h9 h=>RT.quo .none _ Y Y T (by decide) h9<|lE h λew ic h=>RT.quo .none _ Y Y T (by decide) ic<|bl (l:=[x4,x7,ew]) (e:=bB) (.one Y (.one Y (.one Y (.nil)))) Y Y Y Y Y Y ?_;refine bE h λeA jk h=>cl (c7 jk) ⟨Y,aq⟩<|ag Y<|dn<|bf ?_;obtain rfl:=O h;exact R1 Y
theorem nj{x0:List Int}{x1:Int}{r:List Int}(h:dw x0 x1=some r):Pure ah 100 [slc 1 (List.map bB x0),ay x1] (slc 1 (List.map bB r)):=by
 refine bk Tryz.func100 Y (af Y) (λdI M vs hvs=>?_);unfold dw at h;refine sr<|aI Y (aB (n:=1) (e:=bB))<|dn<|sr<|ag Y<|dn<|cg (gu 5 304 3 1 Y Y T)<|sr<|ag Y<|dn<|qq<|sr<|ag Y<|dn<|bE h λGq yq qp=>?_;refine bL (λ(sH:(List Int))=>AS.cw 35 [(5,.row 306)] [] [(306,TR 3 1 bB sH)]) (λsH=>sH=Gq) ?_ (λsH yt=>?_);refine bg ?_;refine bM yq (λuW=>AS.cw 35 [(0,.sv (slc 1 (List.map bB x0))),(1,ai x1),(5,.row 306),(6,ai uW.1),(7,ai uW.2.1)] [] [(306,TR 3 1 bB uW.2.2)]) (eL (λi=>bif Nat.beq i 306 then 304 else i) Y Y Y Y Y ⟨.sv au,.sv au,.row Y,.sv au,.sv au,aq⟩ trivial ⟨⟨_,Y,cH.refl _⟩,aq⟩ (λi hi=>by rw[cX (show i≠306 by omega)];rfl)) (λuW SN SO h yu wY=>?_);obtain⟨Lg,I6,yV⟩:=uW
 try dsimp only
 refine qq<|qq ?_;refine bG h (λKX=>AS.cw 35 [(0,.sv (slc 1 (List.map bB x0))),(1,ai x1),(5,.row 306),(6,ai Lg),(7,ai I6),(16,aj KX)] [] [(306,TR 3 1 bB yV)]) (λh=>?_) (λEz h=>?_);refine aW<|mv Y<|mv Y<|lE h λeG jh h=>ln Y jh<|lE h λeA jk h=>ls _ Y Y jk<|mv Y<|bE h λI7 dG h=>?_;cases eA;refine gm Y<|lE (F dG) λgQ jl dG=>gg _ Y Y jl ?_;obtain rfl:=O dG;exact pF Y<|dn<|⟨gQ,h,wR []⟩;obtain rfl:=O (V dG);exact ww<|ww<|pT Y<|dn<|⟨true,h,wR []⟩
 try dsimp only
 refine aV.n ?_;cases Ez;refine cF<|bT<|aV.x<|aV.x<|bD.x<|aV.n ?_;obtain rfl:=O (F h);exact⟨yV,wY _ Y,wR []⟩;refine cT<|bu<|aV.n<|qq<|bg<|sr<|mv Y<|mv Y<|bE (V h) λgY mY h=>cl (dX mY) ⟨Y,Y,aq⟩<|mv Y<|lE h λig nV h=>RT.mul .none _ Y Y T nV<|mv Y<|lE h λjC mZ h=>ad _ Y Y mZ<|ag Y<|dn<|sr<|mo (s:=.row _) Y<|mv Y<|lE h λn9 vz h=>RT.rem .none _ Y Y T (by decide) vz<|bl (l:=[n9]) (e:=bB) (.one Y (.nil)) Y Y Y Y Y Y ?_;refine bE h λyj zP h=>aR (k:=[n9]) (e:=bB) Y Y Y zP<|an (s:=.row _) Y<|dn<|aW<|mv Y<|lE h λiN lZ h=>RT.quo .none _ Y Y T (by decide) lZ<|ag Y<|RT.done<|bD.n<|aV.n<|aW<|mv Y<|lE h λeF ji h=>ad _ Y Y ji<|ag Y<|RT.done ?_;obtain rfl:=O h;exact aV.n ⟨(iN,eF,yj),yu _ Y,eL (λi=>bif Nat.beq i 306 then 30 else i) Y Y Y Y Y ⟨.sv au,.sv au,.row Y,.sv au,.sv au,aq⟩ trivial ⟨⟨_,Y,cH.refl _⟩,aq⟩ (λi hi=>by rw[cX (show i≠306 by omega)];rfl)⟩;subst yt
 try dsimp only
 refine aV.n<|qq<|cg (jB (i:=306) (E1:=3) (n:=1) (e:=bB) (l:=sH) Y)<|aW<|mv Y<|bE qp λmK rG qp=>cl (c7 rG) ⟨Y,aq⟩<|ag Y<|dn<|bf ?_;obtain rfl:=O qp;exact R1 Y
theorem BA{x0:List Int}{x1:List Int}{r:List Int}(h:lI x0 x1=some r):Pure ah 71 [slc 1 (List.map bB x0),slc 1 (List.map bB x1)] (slc 1 (List.map bB r)):=by
 refine bk Tryz.func71 Y (af Y) (λdI M vs hvs=>?_);unfold lI at h;refine sr<|aI Y (aB (n:=1) (e:=bB))<|dn<|qq<|sr<|mv Y<|lE h λx9 h9 h=>ln Y h9<|mv Y<|lE h λeG jh h=>ln Y jh<|lE h λeA jk h=>ad _ Y Y jk<|lE h λjv kF h=>RT.leq .none _ Y Y T kF<|dn ?_;cases jv;refine fs<|sr<|aI Y (aB (n:=1) (e:=bB))<|dn<|qq<|sr<|mv Y<|lE (F h) λgY mY h=>ln Y mY<|lE h λiM oV h=>sb _ Y Y oV<|ag Y<|dn<|bE h λP7 EF yX=>?_;refine bL (λ(AF:(List Int))=>AS.cw 51 [(5,.sv (slc 1 (List.map bB AF)))] [] []) (λAF=>AF=P7) ?_ (λAF Bz=>?_);refine bg ?_;refine bM EF (λzY=>AS.cw 51 [(0,.sv (slc 1 (List.map bB x0))),(1,.sv (slc 1 (List.map bB x1))),(5,.sv (slc 1 (List.map bB zY.1))),(6,ai zY.2)] [] []) (wR []) (λzY y16 G16 h Jh EG=>?_);obtain⟨I8,xg⟩:=zY
 try dsimp only
 refine qq<|sr<|mv Y<|lE h λg9 pU h=>ge _ Y Y pU<|dn ?_;cases g9;refine cF<|bT<|aV.x<|aV.x<|bD.x<|aV.n ?_;obtain rfl:=O (F h);exact⟨I8,EG _ Y,wR []⟩;refine cT<|bu<|aV.n<|qq<|bg<|sr<|RT.Ba (l:=[0]) (e:=bB) .none (.one Y (.nil)) T Y T Y Y Y Y Y Y<|mv Y<|bE (V h) λiq ny h=>RT.OG (k:=I8) (e:=bB) .none Y Y Y T Y T ny<|ag Y<|dn<|sr<|ag Y<|dn<|bE h λYm P8 z4=>?_;refine bL (λ(um:(List Int))=>AS.cw 51 [(0,.sv (slc 1 (List.map bB x0))),(1,.sv (slc 1 (List.map bB x1))),(5,.sv (slc 1 (List.map bB um))),(6,ai xg)] [] []) (λum=>um=Ym) ?_ (λum P9=>?_);refine bg ?_;refine bM P8 (λEA=>AS.cw 51 [(0,.sv (slc 1 (List.map bB x0))),(1,.sv (slc 1 (List.map bB x1))),(5,.sv (slc 1 (List.map bB EA.1))),(6,ai xg),(7,ai EA.2)] [] []) (wR []) (λEA y22 G22 h Qa Qb=>?_);obtain⟨oz,wG⟩:=EA
 try dsimp only
 refine qq<|sr<|mv Y<|mv Y<|mv Y<|bE h λmL pV h=>ix Y Y pV<|lr Y Y<|lE h λqY zQ h=>ls _ Y Y zQ<|dn ?_;cases qY;refine cF<|bT<|aV.x<|aV.x<|bD.x<|aV.n ?_;obtain rfl:=O (F h);exact⟨oz,Qb _ Y,wR []⟩;refine cT<|bu<|aV.n<|qq<|bg<|aW<|mv Y<|mv Y<|mv Y<|mv Y<|bE (V h) λuV CK h=>ix Y Y CK<|lr Y Y<|mv Y<|lE h λxu Gu h=>sb _ Y Y Gu<|lE h λsW h46 h=>RT.min .none _ Y Y T (DU (p:=1024) (q:=xu) h46)<|bE h λB7 Gv h=>cl (nj Gv) ⟨Y,Y,aq⟩<|bE h λvn h48 h=>cl (o5 h48) ⟨Y,Y,aq⟩<|ag Y ?_;refine RT.done<|bD.n<|aV.n<|aW<|mv Y<|lE h λrF yy h=>ad _ Y Y yy<|ag Y<|RT.done ?_;obtain rfl:=O h;exact aV.n ⟨(vn,rF),Qa _ Y,wR []⟩;subst P9
 try dsimp only
 refine bD.n<|aV.n<|aW<|mv Y<|lE z4 λgR nW z4=>sb _ Y Y nW<|ag Y<|RT.done ?_;obtain rfl:=O z4;exact aV.n ⟨(um,gR),Jh _ Y,wR []⟩;subst Bz
 try dsimp only
 refine aV.n<|sr<|mv Y<|bE yX λvo Gw yX=>cl (c7 Gw) ⟨Y,aq⟩<|ag Y<|dn<|bf ?_;obtain rfl:=O yX;exact R1 Y;refine cT<|sr<|mv Y<|bE (V h) λgQ jl h=>cl (gA jl) ⟨Y,aq⟩<|mv Y<|bE h λez j6 h=>cl (gA j6) ⟨Y,aq⟩<|lE h λeF ji h=>RT.mul .none _ Y Y T ji<|bE h λlU mB h=>cl (nZ mB) ⟨Y,aq⟩<|ag Y<|dn<|bf<|aV.r ?_;obtain rfl:=O h;exact R1 Y
set_option maxHeartbeats 4000000 in
theorem uu{x0:List Int}{x1:List Int}{r:(List Int)×(List Int)}(h:jJ x0 x1=some r):Pure ah 94 [slc 1 (List.map bB x0),slc 1 (List.map bB x1)] (.uT [slc 1 (List.map bB r.1),slc 1 (List.map bB r.2)]):=by
 refine bk Tryz.func94 Y (af Y) (λdI M vs hvs=>?_);unfold jJ at h;refine sr<|aI Y (aB (n:=1) (e:=bB))<|aI Y (aB (n:=1) (e:=bB))<|dn<|qq<|qq ?_;refine bG h (λj3=>AS.cw 120 [(0,.sv (slc 1 (List.map bB x0))),(1,.sv (slc 1 (List.map bB x1))),(21,aj j3)] [] []) (λh=>?_) (λI9 h=>?_);refine aW<|mv Y<|lE h λgQ jl h=>ln Y jl<|lE h λfX iw h=>RT.leq .none _ Y Y T iw<|mv Y<|bE h λJd GO h=>?_;cases fX;obtain rfl:=O (F GO);exact ww<|ww<|ww<|pF Y<|dn<|⟨false,h,wR []⟩;refine gm Y<|lE (V GO) λlU mB GO=>gn Y mB<|lE GO λje oU GO=>RT.leq (.some Y Y) _ Y Y T oU ?_;obtain rfl:=O GO;exact pT Y<|dn<|⟨je,h,wR []⟩
 try dsimp only
 refine aV.n ?_;cases I9;refine fs<|sr<|mv Y<|lE (F h) λqY zQ h=>ln Y zQ<|bE h λvp vB h=>RT.tw (n:=1) (e:=bB) .none Y Y T Y T (by rfl) (by decide) (by exact⟨au,aq⟩) vB<|an (s:=.row _) Y<|dn<|qq<|sr<|mv Y<|lE h λsu yw h=>ln Y yw<|lE h λuX zR h=>eq _ Y Y (uU (p:=su) (q:=1) zR)<|dn ?_;cases uX;refine fs<|sr<|aI Y (aB (n:=1) (e:=bB))<|dn<|qq<|sr<|mv Y<|lE (F h) λx73 Yn h=>ln Y Yn<|lE h λSA Xk h=>sb _ Y Y Xk<|ag Y<|dn<|bE h λYg Yo Qc=>?_;refine bL (λ(GP:(List Int)×(List Int))=>AS.cw 120 [(6,.row 36),(9,.sv (slc 1 (List.map bB GP.1)))] [] [(36,TR 3 1 bB GP.2)]) (λGP=>GP=Yg) ?_ (λGP Yp=>?_);refine bg ?_;refine bM Yo (λP4=>AS.cw 120 [(0,.sv (slc 1 (List.map bB x0))),(1,.sv (slc 1 (List.map bB x1))),(6,.row 36),(9,.sv (slc 1 (List.map bB P4.1))),(10,ai P4.2.1)] [] [(36,TR 3 1 bB P4.2.2)]) (wR []) (λP4 y44 G44 h Yq Yr=>?_);obtain⟨C7,oZ,o3⟩:=P4
 try dsimp only
 refine qq<|sr<|mv Y<|lE h λYd Tk h=>ge _ Y Y Tk<|dn ?_;cases Yd;refine cF<|bT<|aV.x<|aV.x<|bD.x<|aV.n ?_;obtain rfl:=O (F h);exact⟨(C7,o3),Yr _ Y,wR []⟩;refine cT<|bu<|aV.n<|qq<|bg<|sr<|mv Y<|mv Y<|bE (V h) λP5 Ys h=>ix Y Y Ys<|lr Y Y<|RT.Ba (l:=[P5]) (e:=bB) .none (.one Y (.nil)) T Y T Y Y Y Y Y Y<|mv Y<|bE h λKW Ph h=>RT.OG (k:=C7) (e:=bB) .none Y Y Y T Y T Ph<|bE h λD5 S0 h=>cl (c7 S0) ⟨Y,aq⟩<|ag Y<|dn<|sr<|ag Y<|ag Y ?_;refine dn<|qq<|sr<|mv Y<|lE h λx88 h88 h=>ln Y h88<|mv Y<|lE h λSB Xl h=>ln Y Xl<|lE h λO0 Xm h=>ls _ Y Y Xm<|dn ?_;refine bG h (λj46=>AS.cw 120 [(0,.sv (slc 1 (List.map bB x0))),(1,.sv (slc 1 (List.map bB x1))),(6,.row 36),(9,.sv (slc 1 (List.map bB D5))),(10,ai oZ),(11,ai 0),(12,ai j46)] [] [(36,TR 3 1 bB o3)]) (λh=>?_) (λJb h=>?_);cases O0;exact fs<|⟨65536,(F h),wR []⟩;exact cT<|aW<|ag Y<|dn<|⟨1,(V h),wR []⟩
 try dsimp only
 refine aV.n<|qq<|bE h λe54 Yt yY=>?_;refine bL (λ(qM:Int)=>AS.cw 120 [(0,.sv (slc 1 (List.map bB x0))),(1,.sv (slc 1 (List.map bB x1))),(6,.row 36),(9,.sv (slc 1 (List.map bB D5))),(10,ai oZ),(11,ai qM)] [] [(36,TR 3 1 bB o3)]) (λqM=>qM=e54) ?_ (λqM Yu=>?_);refine bg ?_;refine bM Yt (λNi=>AS.cw 120 [(0,.sv (slc 1 (List.map bB x0))),(1,.sv (slc 1 (List.map bB x1))),(6,.row 36),(9,.sv (slc 1 (List.map bB D5))),(10,ai oZ),(11,ai Ni.1),(12,ai Ni.2)] [] [(36,TR 3 1 bB o3)]) (wR []) (λNi y54 G54 h Yv Yw=>?_);obtain⟨ko,ni⟩:=Ni
 try dsimp only
 refine qq<|sr<|mv Y<|mv Y<|lE h λx94 h94 h=>sb _ Y Y h94<|lE h λYe h95 h=>gt _ Y Y h95<|dn ?_;cases Ye;refine cF<|bT<|aV.x<|aV.x<|bD.x<|aV.n ?_;obtain rfl:=O (F h);exact⟨ko,Yw _ Y,wR []⟩;refine cT<|bu<|aV.n<|bg<|sr<|mv Y<|mv Y<|lE (V h) λx98 h98 h=>ad _ Y Y h98<|lE h λRr h99 h=>RT.quo .none _ Y Y T (by decide) h99<|ag Y<|dn<|sr<|mv Y<|mv Y<|bE h λD6 Pj h=>cl (nj Pj) ⟨Y,Y,aq⟩<|mv Y<|bE h λD7 Pm h=>cl (o4 Pm) ⟨Y,Y,aq⟩<|lE h λBe Iv h=>RT.leq .none _ Y Y T Iv<|dn ?_;refine bG h (λRs=>AS.cw 120 [(0,.sv (slc 1 (List.map bB x0))),(1,.sv (slc 1 (List.map bB x1))),(6,.row 36),(9,.sv (slc 1 (List.map bB D5))),(10,ai oZ),(11,ai Rs.1),(12,ai Rs.2)] [] [(36,TR 3 1 bB o3)]) (λh=>?_) (λRs h=>?_);cases Be;exact cF<|aW<|mv Y<|ag Y<|dn<|⟨(ko,Rr),(F h),wR []⟩;exact cT<|aW<|mv Y<|ag Y<|dn<|⟨(Rr,ni),(V h),wR []⟩;obtain⟨EC,ED⟩:=Rs
 try dsimp only
 refine bD.n ?_;obtain rfl:=O h;exact aV.n ⟨(EC,ED),Yv _ Y,wR []⟩;subst Yu
 try dsimp only
 refine aV.n<|aW<|mo (s:=.row _) Y<|mv Y<|mv Y<|mv Y<|mv Y<|mv Y<|bE yY λD8 Po yY=>cl (nj Po) ⟨Y,Y,aq⟩<|bE yY λJc Yx yY=>cl (mG Yx) ⟨Y,Y,aq⟩<|bE yY λLh Yy yY=>iR Y Y Y Yy<|bE yY λTi Tl yY=>sR qM Y Y Y Y Tl<|ag Y<|RT.done<|bD.n<|aV.n<|aW<|mv Y<|lE yY λYf h78 yY=>?_;refine sb _ Y Y h78<|ag Y<|RT.done ?_;obtain rfl:=O yY;exact aV.n ⟨(Jc,Yf,Ti),Yq _ Y,wR []⟩;subst Yp;obtain⟨Nj,EE⟩:=GP
 try dsimp only
 refine aV.n<|qq<|cg (jB (i:=36) (E1:=3) (n:=1) (e:=bB) (l:=EE) Y)<|aW<|mv Y<|bE Qc λTj Yz Qc=>cl (c7 Yz) ⟨Y,aq⟩<|mv Y<|ag Y<|ag Y<|dn<|bf ?_;obtain rfl:=O Qc;exact R2 Y Y;refine cT<|sr<|ag Y<|dn<|qq<|sr<|mv Y<|lE (V h) λwW Gt h=>ln Y Gt<|lE h λuV CK h=>sb _ Y Y CK<|ag Y<|dn<|bE h λYc YA Ji=>?_;refine bL (λ(GQ:Int×(List Int))=>AS.cw 120 [(6,.row 36),(7,ai GQ.1)] [] [(36,TR 3 1 bB GQ.2)]) (λGQ=>GQ=Yc) ?_ (λGQ YB=>?_);refine bg ?_;refine bM YA (λP3=>AS.cw 120 [(0,.sv (slc 1 (List.map bB x0))),(1,.sv (slc 1 (List.map bB x1))),(6,.row 36),(7,ai P3.1),(8,ai P3.2.1)] [] [(36,TR 3 1 bB P3.2.2)]) (wR []) (λP3 y18 G18 h YC YD=>?_);obtain⟨Fz,C6,yW⟩:=P3
 try dsimp only
 refine qq<|sr<|mv Y<|lE h λAo CL h=>ge _ Y Y CL<|dn ?_;cases Ao;refine cF<|bT<|aV.x<|aV.x<|bD.x<|aV.n ?_;obtain rfl:=O (F h);exact⟨(Fz,yW),YD _ Y,wR []⟩;refine cT<|bu<|aV.n<|qq<|bg<|sr<|mv Y<|lE (V h) λvn h48 h=>RT.mul .none _ Y Y T h48<|mv Y<|mv Y<|bE h λGj K1 h=>ix Y Y K1<|lr Y Y<|lE h λYa Xc h=>ad _ Y Y Xc<|ag Y<|dn<|aY mixed<|mo (s:=.row _) Y<|mv Y<|mv Y<|mv Y<|bE h λFq Pa h=>ix Y Y Pa<|lr Y Y<|bE h λGk MM h=>?_;refine RT.quo .none _ Y Y T (Sd MM) (HZ MM)<|mv Y<|mv Y<|bE h λDF h63 h=>ix Y Y h63<|lr Y Y<|bE h λOW UI h=>RT.rem .none _ Y Y T (OD UI) (OE UI)<|bE h λMz W6 h=>iR Y Y Y W6<|bE h λYb Tm h=>sR Gk Y Y Y Y Tm<|ag Y ?_;refine RT.done ⟨by kernel_rfl,?_⟩;refine bD.n<|aV.n<|aW<|mv Y<|lE h λsW h46 h=>sb _ Y Y h46<|ag Y<|RT.done ?_;obtain rfl:=O h;exact aV.n ⟨(OW,sW,Yb),YC _ Y,wR []⟩;subst YB;obtain⟨Ja,EB⟩:=GQ
 try dsimp only
 refine aV.n<|qq<|cg (jB (i:=36) (E1:=3) (n:=1) (e:=bB) (l:=EB) Y)<|aW<|mv Y<|bE Ji λGl Pb Ji=>cl (c7 Pb) ⟨Y,aq⟩<|mv Y<|bl (l:=[Ja]) (e:=bB) (.one Y (.nil)) Y Y Y Y Y Y<|bE Ji λx71 h71 Ji=>cl (c7 h71) ⟨Y,aq⟩<|ag Y<|ag Y<|dn<|bf<|aV.r ?_;obtain rfl:=O Ji;exact R2 Y Y;refine cT<|sr<|mv Y<|bE (V h) λig nV h=>cl (gA nV) ⟨Y,aq⟩<|mv Y<|bE h λjC mZ h=>cl (gA mZ) ⟨Y,aq⟩<|bE h λgR nW h=>RT.quo .none _ Y Y T (Sd nW) (HZ nW)<|bE h λjV oJ h=>cl (nZ oJ) ⟨Y,aq⟩<|mv Y<|bE h λiq ny h=>cl (gA ny) ⟨Y,aq⟩<|mv Y<|bE h λnR wo h=>cl (gA wo) ⟨Y,aq⟩ ?_;refine bE h λiN lZ h=>RT.rem .none _ Y Y T (OD lZ) (OE lZ)<|bE h λmL pV h=>cl (nZ pV) ⟨Y,aq⟩<|ag Y<|ag Y<|dn<|bf<|aV.r ?_;obtain rfl:=O h;exact R2 Y Y
end
section
open Go.Fw Go.Fw.Z Go.RowKit
theorem eT{x0:Zr}{r:Int}(h:c9 x0=some r):Pure ah 73 [.agg (eZ x0)] (ay r):=by
 obtain⟨bC,bA⟩:=x0;refine bk Tryz.func73 Y (af Y) (λdI M vs hvs=>?_);unfold c9 at h;refine sr<|bx Y<|ag Y<|dn<|qq<|sr<|fa Y Y<|lV Y Y Y<|bE h λx5 h5 h=>cl (bZ h5) ⟨Y,aq⟩<|lE h λx6 h6 h=>ln Y h6<|lE h λx7 h7 h=>eq _ Y Y (uU (p:=x6) (q:=0) h7)<|dn ?_;cases x7;refine fs<|qq<|sr<|fa Y Y<|lV Y Y Y<|dn ?_;replace h:=F h;cases bC;refine fs<|sr<|ag Y<|dn<|bf ?_;obtain rfl:=O (F h);exact R1 Y;refine cT<|sr<|ag Y<|dn<|bf<|aV.r ?_;obtain rfl:=O (V h);exact R1 Y;refine cT<|sr<|ag Y<|dn<|bf<|aV.r ?_;obtain rfl:=O (V h);exact R1 Y
theorem BB{x0:Zr}{x1:Zr}{r:Int}(h:lJ x0 x1=some r):Pure ah 68 [.agg (eZ x0),.agg (eZ x1)] (ay r):=by
 obtain⟨bC,bA⟩:=x0;obtain⟨bP,bN⟩:=x1;refine bk Tryz.func68 Y (af Y) (λdI M vs hvs=>?_);unfold lJ at h;refine sr<|bx Y<|bx Y<|ag Y<|dn<|qq<|qq<|aY mixed<|ld Y Y (.k2 Y Y)<|bE h λx7 h7 h=>cl (eT h7) ⟨Y,aq⟩<|ld Y Y (.k2 Y Y)<|bE h λx9 h9 h=>cl (eT h9) ⟨Y,aq⟩<|lE h λew ic h=>ne _ Y Y (Kb (p:=x7) (q:=x9) ic) ?_;refine RT.done ⟨by kernel_rfl,?_⟩;refine aV.n ?_;cases ew;refine fs<|qq<|aY mixed<|fa Y Y<|lV Y Y Y<|bE (F h) λeF ji h=>cl (bZ ji) ⟨Y,aq⟩<|fa Y Y<|lV Y Y Y<|bE h λgY mY h=>cl (bZ mY) ⟨Y,aq⟩<|bE h λiM oV h=>cl (o4 oV) ⟨Y,Y,aq⟩<|ag Y ?_;refine RT.done ⟨by kernel_rfl,?_⟩;refine aV.n<|qq<|sr<|ld Y Y (.k2 Y Y)<|bE h λg9 pU h=>cl (eT pU) ⟨Y,aq⟩<|lE h λjC mZ h=>ls _ Y Y mZ<|dn ?_;cases jC;refine fs<|sr<|mv Y<|ag Y<|dn<|bf ?_;obtain rfl:=O (F h);exact R1 Y;refine cT<|sr<|mv Y<|lE (V h) λjV oJ h=>RT.neg .none _ Y T oJ<|ag Y<|dn<|bf<|aV.r ?_;obtain rfl:=O h;exact R1 Y;refine cT<|qq<|qq<|aY mixed<|ld Y Y (.k2 Y Y)<|bE (V h) λeA jk h=>cl (eT jk) ⟨Y,aq⟩<|ld Y Y (.k2 Y Y)<|bE h λgw lW h=>cl (eT lW) ⟨Y,aq⟩<|lE h λgQ jl h=>ls _ Y Y jl ?_;refine RT.done ⟨by kernel_rfl,?_⟩;refine aV.n ?_;cases gQ;refine fs<|sr<|ag Y<|dn<|bf<|aV.r ?_;obtain rfl:=O (F h);exact R1 Y
 refine cT<|sr<|ag Y<|dn<|bf<|aV.r<|aV.r ?_;obtain rfl:=O (V h);exact R1 Y
theorem uw{x0:Zr}{r:Zr}(h:jK x0=some r):Pure ah 59 [.agg (eZ x0)] (.agg (eZ r)):=by
 obtain⟨bC,bA⟩:=x0;refine bk Tryz.func59 Y (af Y) (λdI M vs hvs=>?_);unfold jK at h;refine sr<|bx Y<|al (cs:=[az false,ax]) (by exact⟨au,aB,aq⟩) Y<|dn<|qq<|aY mixed<|fa Y Y<|lV Y Y Y<|lE h λx5 h5 h=>nt Y _ h5<|fa Y Y<|lV Y Y Y<|bE h λx8 h8 h=>cl (bZ h8) ⟨Y,aq⟩ ?_;obtain⟨⟨C8,C9⟩,h9,h⟩:=bS h;refine cl (eR h9) ⟨Y,Y,aq⟩<|so Y Y Y ?_;refine RT.done ⟨by kernel_rfl,?_⟩;refine aV.n<|bf ?_;obtain rfl:=O h;exact RZ (.agg Y Y (.k2 Y Y) Y (.nil))
theorem BC{x0:Zr}{r:Zr}(h:lK x0=some r):Pure ah 75 [.agg (eZ x0)] (.agg (eZ r)):=by
 obtain⟨bC,bA⟩:=x0;refine bk Tryz.func75 Y (af Y) (λdI M vs hvs=>?_);unfold lK at h;refine sr<|bx Y<|al (cs:=[az false,ax]) (by exact⟨au,aB,aq⟩) Y<|dn<|sr<|fa Y Y<|lV Y Y Y<|bE h λx5 h5 h=>cl (bZ h5) ⟨Y,aq⟩ ?_;obtain⟨⟨Je,Jf⟩,h6,h⟩:=bS h;refine cl (eR h6) ⟨Y,Y,aq⟩<|so Y Y Y<|dn<|bf ?_;obtain rfl:=O h;exact RZ (.agg Y Y (.k2 Y Y) Y (.nil))
theorem BD{x0:Zr}{x1:Zr}{r:Zr}(h:lM x0 x1=some r):Pure ah 60 [.agg (eZ x0),.agg (eZ x1)] (.agg (eZ r)):=by
 obtain⟨bC,bA⟩:=x0;obtain⟨bP,bN⟩:=x1;refine bk Tryz.func60 Y (af Y) (λdI M vs hvs=>?_);unfold lM at h;refine sr<|bx Y<|bx Y<|al (cs:=[az false,ax]) (by exact⟨au,aB,aq⟩) Y<|dn<|qq<|aY mixed<|fa Y Y<|lV Y Y Y<|bE h λx9 h9 h=>cl (bZ h9) ⟨Y,aq⟩<|fa Y Y<|lV Y Y Y<|bE h λeA jk h=>cl (bZ jk) ⟨Y,aq⟩<|ag Y<|ag Y ?_;refine RT.done ⟨by kernel_rfl,?_⟩;refine aV.n<|qq<|sr<|fa Y Y<|lV Y Y Y<|fa Y Y<|lV Y Y Y<|lE h λez j6 h=>RT.RA .none _ Y Y T j6<|dn ?_;cases ez;refine fs<|qq<|sr<|mv Y<|mv Y<|bE (F h) λgR nW h=>cl (o4 nW) ⟨Y,Y,aq⟩<|lE h λjV oJ h=>ge _ Y Y oJ<|dn ?_;cases jV;refine fs<|qq<|aY mixed<|fa Y Y<|lV Y Y Y<|mv Y<|mv Y<|bE (F h) λsu yw h=>cl (mG yw) ⟨Y,Y,aq⟩ ?_;obtain⟨⟨pK,pL⟩,zR,h⟩:=bS h;refine cl (eR zR) ⟨Y,Y,aq⟩<|so Y Y Y ?_;refine RT.done ⟨by kernel_rfl,?_⟩;refine aV.n<|bf ?_;obtain rfl:=O h;exact RZ (.agg Y Y (.k2 Y Y) Y (.nil));refine cT<|qq<|aY mixed<|fa Y Y<|lV Y Y Y<|mv Y<|mv Y<|bE (V h) λiN lZ h=>cl (mG lZ) ⟨Y,Y,aq⟩ ?_;obtain⟨⟨ou,oy⟩,pV,h⟩:=bS h;refine cl (eR pV) ⟨Y,Y,aq⟩<|so Y Y Y ?_;refine RT.done ⟨by kernel_rfl,?_⟩;refine aV.n<|bf<|aV.r ?_;obtain rfl:=O h;exact RZ (.agg Y Y (.k2 Y Y) Y (.nil))
 refine cT<|qq<|aY mixed<|fa Y Y<|lV Y Y Y<|mv Y<|mv Y<|bE (V h) λiM oV h=>cl (o5 oV) ⟨Y,Y,aq⟩ ?_;obtain⟨⟨uo,ur⟩,nV,h⟩:=bS h;refine cl (eR nV) ⟨Y,Y,aq⟩<|so Y Y Y ?_;refine RT.done ⟨by kernel_rfl,?_⟩;refine aV.n<|bf<|aV.r ?_;obtain rfl:=O h;exact RZ (.agg Y Y (.k2 Y Y) Y (.nil))
theorem kp{x0:Zr}{x1:Zr}{r:Zr}(h:fJ x0 x1=some r):Pure ah 46 [.agg (eZ x0),.agg (eZ x1)] (.agg (eZ r)):=by
 obtain⟨bC,bA⟩:=x0;obtain⟨bP,bN⟩:=x1;refine bk Tryz.func46 Y (af Y) (λdI M vs hvs=>?_);unfold fJ at h;refine sr<|bx Y<|bx Y<|al (cs:=[az false,ax]) (by exact⟨au,aB,aq⟩) Y<|dn<|qq<|aY mixed<|fa Y Y<|lV Y Y Y<|fa Y Y<|lV Y Y Y<|lE h λx9 h9 h=>RT.F6 .none _ Y Y T h9<|fa Y Y<|lV Y Y Y<|bE h λeA jk h=>cl (bZ jk) ⟨Y,aq⟩<|fa Y Y ?_;refine lV Y Y Y<|bE h λgQ jl h=>cl (bZ jl) ⟨Y,aq⟩<|bE h λfX iw h=>cl (BA iw) ⟨Y,Y,aq⟩ ?_;obtain⟨⟨m6,m7⟩,j6,h⟩:=bS h;refine cl (eR j6) ⟨Y,Y,aq⟩<|so Y Y Y ?_;refine RT.done ⟨by kernel_rfl,?_⟩;refine aV.n<|bf ?_;obtain rfl:=O h;exact RZ (.agg Y Y (.k2 Y Y) Y (.nil))
theorem ux{x0:Zr}{x1:Zr}{r:Zr×Zr×Int}(h:jL x0 x1=some r):Pure ah 67 [.agg (eZ x0),.agg (eZ x1)] (.uT [.agg (eZ r.1),.agg (eZ r.2.1),ay r.2.2]):=by
 obtain⟨bC,bA⟩:=x0;obtain⟨bP,bN⟩:=x1;refine bk Tryz.func67 Y (af Y) (λdI M vs hvs=>?_);unfold jL at h;refine sr<|bx Y<|bx Y<|al (cs:=[az false,ax]) (by exact⟨au,aB,aq⟩) Y<|al (cs:=[az false,ax]) (by exact⟨au,aB,aq⟩) Y<|ag Y<|dn<|qq<|aY mixed<|fa Y Y<|lV Y Y Y<|bE h λjv kF h=>cl (bZ kF) ⟨Y,aq⟩<|fa Y Y ?_;refine lV Y Y Y<|bE h λfX iw h=>cl (bZ iw) ⟨Y,aq⟩<|ag Y<|ag Y ?_;refine RT.done ⟨by kernel_rfl,?_⟩;refine aV.n<|qq<|sr<|mv Y<|lE h λeF ji h=>ln Y ji<|lE h λlU mB h=>eq _ Y Y (uU (p:=eF) (q:=0) mB)<|dn ?_;cases lU;refine fs<|sr<|mv Y<|mv Y ?_;obtain⟨⟨yp,Bg⟩,mZ,h⟩:=bS (F h);refine cl (uu mZ) ⟨Y,Y,aq⟩<|mv Y<|ex Y Y<|ex Y Y<|ag Y<|ag Y<|dn<|qq<|qq ?_;refine bG h (λj3=>AS.cw 50 [(2,.ptr 2 0),(3,.ptr 3 0),(4,.ptr 4 0),(5,.ptr 5 0),(8,.sv (slc 1 (List.map bB fX))),(9,.sv (slc 1 (List.map bB yp))),(10,.sv (slc 1 (List.map bB Bg))),(34,aj j3.1)] [(5,⟨25,[aj false,.sv ax]⟩),(4,⟨25,[aj false,.sv ax]⟩),(3,⟨25,[aj bP,.sv (slc 1 (List.map aX bN))]⟩),(2,⟨25,[aj j3.2,.sv (slc 1 (List.map aX bA))]⟩)] []) (λh=>?_) (λj3 h=>?_);refine aW<|fa Y Y<|lV Y Y Y<|mv Y<|bE h λNk wv h=>?_;cases bC;obtain rfl:=O (F wv);exact ww<|ww<|ww<|pF Y<|dn<|⟨(false,false),h,wR []⟩
 refine gm Y<|lE (V wv) λiN lZ wv=>gn Y lZ<|lE wv λmL pV wv=>gg _ Y Y pV ?_;obtain rfl:=O wv;exact pT Y<|dn<|⟨(mL,true),h,wR []⟩;obtain⟨Jg,sD⟩:=j3
 try dsimp only
 refine aV.n ?_;refine bG h (λj5=>AS.cw 50 [(2,.ptr 2 0),(3,.ptr 3 0),(4,.ptr 4 0),(5,.ptr 5 0),(9,.sv (slc 1 (List.map bB j5.1))),(10,.sv (slc 1 (List.map bB j5.2)))] [(5,⟨25,[aj false,.sv ax]⟩),(4,⟨25,[aj false,.sv ax]⟩),(3,⟨25,[aj bP,.sv (slc 1 (List.map aX bN))]⟩),(2,⟨25,[aj sD,.sv (slc 1 (List.map aX bA))]⟩)] []) (λh=>?_) (λj5 h=>?_);cases Jg;exact fs<|⟨(yp,Bg),(F h),wR []⟩;exact cT<|sr<|mv Y<|bl (l:=[1]) (e:=bB) (.one Y (.nil)) Y Y Y Y Y Y<|bE (V h) λrF yy h=>cl (o5 yy) ⟨Y,Y,aq⟩<|ag Y<|dn<|aW<|mv Y<|mv Y<|bE h λnS uY h=>cl (mG uY) ⟨Y,Y,aq⟩<|ag Y<|dn<|⟨(rF,nS),h,wR []⟩;obtain⟨Iq,CH⟩:=j5
 try dsimp only
 refine aV.n<|sr<|fa Y Y<|lV Y Y Y<|fa Y Y<|lV Y Y Y<|lE h λxu Gu h=>RT.F6 .none _ Y Y T Gu<|mv Y ?_;obtain⟨⟨CE,CF⟩,Gv,h⟩:=bS h;refine cl (eR Gv) ⟨Y,Y,aq⟩<|mv Y ?_;obtain⟨⟨CI,CJ⟩,K0,h⟩:=bS h;refine cl (eR K0) ⟨Y,Y,aq⟩<|so Y Y Y<|so Y Y Y<|ag Y<|dn<|bf ?_;obtain rfl:=O h;exact RZ (.agg Y Y (.k2 Y Y) Y (.agg Y Y (.k2 Y Y) Y (.tmp Y (.nil))));refine cT<|sr<|bI (cs:=[_,_]) (cs':=[az false,ax]) (.nil) ⟨au,aB,aq⟩<|bI (cs:=[_,_]) (cs':=[az false,ax]) (.nil) ⟨au,aB,aq⟩<|so Y Y Y<|so Y Y Y<|ag Y<|dn<|bf<|aV.r ?_;obtain rfl:=O (V h);exact RZ (.agg Y Y (.k2 Y Y) Y (.agg Y Y (.k2 Y Y) Y (.tmp Y (.nil))))
theorem BE{x0:Zr}{x1:Zr}{r:Zr}(h:lN x0 x1=some r):Pure ah 66 [.agg (eZ x0),.agg (eZ x1)] (.agg (eZ r)):=by
 obtain⟨bC,bA⟩:=x0;obtain⟨bP,bN⟩:=x1;refine bk Tryz.func66 Y (af Y) (λdI M vs hvs=>?_);unfold lN at h;refine sr<|bx Y<|bx Y<|al (cs:=[az false,ax]) (by exact⟨au,aB,aq⟩) Y<|dn<|qq<|aY mixed<|fa Y Y<|lV Y Y Y<|bE h λeG jh h=>cl (bZ jh) ⟨Y,aq⟩<|fa Y Y<|lV Y Y Y<|bE h λgw lW h=>cl (bZ lW) ⟨Y,aq⟩<|ag Y<|ag Y ?_;refine RT.done ⟨by kernel_rfl,?_⟩;refine aV.n<|qq<|bE h λe6 zM jW=>?_;refine bL (λ(rI:(List Int))=>AS.cw 28 [(4,.ptr 4 0),(5,.sv (slc 1 (List.map bB rI)))] [(4,⟨25,[aj false,.sv ax]⟩)] []) (λrI=>rI=e6) ?_ (λrI zN=>?_);refine bg ?_;refine bM zM (λs6=>AS.cw 28 [(4,.ptr 4 0),(5,.sv (slc 1 (List.map bB s6.1))),(6,.sv (slc 1 (List.map bB s6.2)))] [(4,⟨25,[aj false,.sv ax]⟩)] []) (wR []) (λs6 y6 G6 h zO wm=>?_);obtain⟨jw,mF⟩:=s6
 try dsimp only
 refine qq<|sr<|mv Y<|lE h λfX iw h=>ln Y iw<|lE h λez j6 h=>gt _ Y Y j6<|dn ?_;cases ez;refine cF<|bT<|aV.x<|aV.x<|bD.x<|aV.n ?_;obtain rfl:=O (F h);exact⟨jw,wm _ Y,wR []⟩;refine cT<|bu<|aV.n<|bg<|sr<|mv Y<|mv Y ?_;obtain⟨⟨Yh,P6⟩,mY,h⟩:=bS (V h);refine cl (uu mY) ⟨Y,Y,aq⟩<|mv Y<|ex Y Y<|ex Y Y<|ag Y<|ag Y<|dn<|aW<|mv Y<|mv Y<|ag Y<|ag Y<|RT.done<|bD.n ?_;obtain rfl:=O h;exact aV.n ⟨(mF,P6),zO _ Y,wR []⟩;subst zN
 try dsimp only
 refine aV.n<|sr<|mv Y ?_;obtain⟨⟨Fs,CC⟩,oJ,jW⟩:=bS jW;refine cl (eR oJ) ⟨Y,Y,aq⟩<|so Y Y Y<|dn<|bf ?_;obtain rfl:=O jW;exact RZ (.agg Y Y (.k2 Y Y) Y (.nil))
end
section
open Go.Fw
noncomputable def jM:Option (Zr):=(kn 1).bind λ⟨bP,bN⟩=>some ⟨bP,bN⟩
noncomputable def dY(x0:Qr):Option (Zr):=match x0 with|⟨⟨bC,bA⟩,⟨cD,cE⟩⟩=>(c9 ⟨cD,cE⟩).bind λx5=>(some (decide ((x5:Int)=0))).bind λx6=>(bif x6 then(jM).bind λ⟨ng,nh⟩=>some ⟨ng,nh⟩else(lK ⟨cD,cE⟩).bind λ⟨wh,wj⟩=>some ⟨wh,wj⟩)
noncomputable def eU(x0:Qr):Option (Zr):=match x0 with|⟨⟨bC,bA⟩,⟨cD,cE⟩⟩=>(c9 ⟨cD,cE⟩).bind λx5=>(some (decide ((x5:Int)<0))).bind λx6=>(bif x6 then(jK ⟨bC,bA⟩).bind λ⟨C8,C9⟩=>some ⟨C8,C9⟩else(fT ⟨bC,bA⟩).bind λ⟨lC,lD⟩=>some ⟨lC,lD⟩)
noncomputable def gO(x0:Zr)(x1:Zr):Option (Qr):=match x0 with|⟨bC,bA⟩=>match x1 with|⟨bP,bN⟩=>(lN ⟨bC,bA⟩ ⟨bP,bN⟩).bind λ⟨rT,rU⟩=>(jL ⟨bC,bA⟩ ⟨rT,rU⟩).bind λ⟨⟨gJ,gK⟩,⟨kf,kg⟩,YE⟩=>(jL ⟨bP,bN⟩ ⟨rT,rU⟩).bind λ⟨⟨BF,BG⟩,⟨Qd,Qe⟩,YF⟩=>(jM).bind λ⟨pz,pA⟩=>(lJ ⟨BF,BG⟩ ⟨pz,pA⟩).bind λnR=>(some (decide ((nR:Int)=0))).bind λiN=>(bif iN then some ⟨⟨gJ,gK⟩,⟨false,[]⟩⟩else some ⟨⟨gJ,gK⟩,⟨BF,BG⟩⟩)
noncomputable def iG(x0:Qr)(x1:Qr):Option (Bool):=match x0 with|⟨⟨bC,bA⟩,⟨cD,cE⟩⟩=>match x1 with|⟨⟨bP,bN⟩,⟨ee,ef⟩⟩=>cj (λ(Tn:Bool)=>some Tn) λK3=>(iT ⟨bC,bA⟩ ⟨bP,bN⟩).bind λx9=>(bif x9 then(iT ⟨cD,cE⟩ ⟨ee,ef⟩).bind λgQ=>some gQ else some false).bind λNl=>K3 Nl
noncomputable def jN(x0:Qr)(x1:Qr):Option (Qr):=match x0 with|⟨⟨bC,bA⟩,⟨cD,cE⟩⟩=>match x1 with|⟨⟨bP,bN⟩,⟨ee,ef⟩⟩=>(eU ⟨⟨bC,bA⟩,⟨cD,cE⟩⟩).bind λ⟨kS,kT⟩=>(dY ⟨⟨bP,bN⟩,⟨ee,ef⟩⟩).bind λ⟨wh,wj⟩=>(fJ ⟨kS,kT⟩ ⟨wh,wj⟩).bind λ⟨om,ot⟩=>(eU ⟨⟨bP,bN⟩,⟨ee,ef⟩⟩).bind λ⟨qk,ql⟩=>(dY ⟨⟨bC,bA⟩,⟨cD,cE⟩⟩).bind λ⟨ej,ek⟩=>(fJ ⟨qk,ql⟩ ⟨ej,ek⟩).bind λ⟨dK,dL⟩=>(lM ⟨om,ot⟩ ⟨dK,dL⟩).bind λ⟨jn,jo⟩=>(dY ⟨⟨bC,bA⟩,⟨cD,cE⟩⟩).bind λ⟨Da,Db⟩=>(dY ⟨⟨bP,bN⟩,⟨ee,ef⟩⟩).bind λ⟨uo,ur⟩=>(fJ ⟨Da,Db⟩ ⟨uo,ur⟩).bind λ⟨C3,C4⟩=>(gO ⟨jn,jo⟩ ⟨C3,C4⟩).bind λ⟨⟨tL,tN⟩,⟨Nm,Nn⟩⟩=>some ⟨⟨tL,tN⟩,⟨Nm,Nn⟩⟩
noncomputable def jO(x0:Qr):Option (Qr):=match x0 with|⟨⟨bC,bA⟩,⟨cD,cE⟩⟩=>(eU ⟨⟨bC,bA⟩,⟨cD,cE⟩⟩).bind λ⟨rJ,rK⟩=>(jK ⟨rJ,rK⟩).bind λ⟨GG,GH⟩=>(dY ⟨⟨bC,bA⟩,⟨cD,cE⟩⟩).bind λ⟨ng,nh⟩=>(gO ⟨GG,GH⟩ ⟨ng,nh⟩).bind λ⟨⟨kS,kT⟩,⟨ud,ue⟩⟩=>some ⟨⟨kS,kT⟩,⟨ud,ue⟩⟩
noncomputable def jP(x0:Qr)(x1:Qr):Option (Qr):=match x0 with|⟨⟨bC,bA⟩,⟨cD,cE⟩⟩=>match x1 with|⟨⟨bP,bN⟩,⟨ee,ef⟩⟩=>(jO ⟨⟨bP,bN⟩,⟨ee,ef⟩⟩).bind λ⟨⟨ng,nh⟩,⟨qK,qL⟩⟩=>(jN ⟨⟨bC,bA⟩,⟨cD,cE⟩⟩ ⟨⟨ng,nh⟩,⟨qK,qL⟩⟩).bind λ⟨⟨kS,kT⟩,⟨ud,ue⟩⟩=>some ⟨⟨kS,kT⟩,⟨ud,ue⟩⟩
noncomputable def jQ(x0:Qr)(x1:Qr):Option (Qr):=match x0 with|⟨⟨bC,bA⟩,⟨cD,cE⟩⟩=>match x1 with|⟨⟨bP,bN⟩,⟨ee,ef⟩⟩=>(eU ⟨⟨bC,bA⟩,⟨cD,cE⟩⟩).bind λ⟨Je,Jf⟩=>(eU ⟨⟨bP,bN⟩,⟨ee,ef⟩⟩).bind λ⟨kS,kT⟩=>(fJ ⟨Je,Jf⟩ ⟨kS,kT⟩).bind λ⟨C8,C9⟩=>(dY ⟨⟨bC,bA⟩,⟨cD,cE⟩⟩).bind λ⟨om,ot⟩=>(dY ⟨⟨bP,bN⟩,⟨ee,ef⟩⟩).bind λ⟨qk,ql⟩=>(fJ ⟨om,ot⟩ ⟨qk,ql⟩).bind λ⟨rT,rU⟩=>(gO ⟨C8,C9⟩ ⟨rT,rU⟩).bind λ⟨⟨ej,ek⟩,⟨jF,jG⟩⟩=>some ⟨⟨ej,ek⟩,⟨jF,jG⟩⟩
noncomputable def kq(x0:Qr):Option (Int):=match x0 with|⟨⟨bC,bA⟩,⟨cD,cE⟩⟩=>(eU ⟨⟨bC,bA⟩,⟨cD,cE⟩⟩).bind λ⟨rJ,rK⟩=>(c9 ⟨rJ,rK⟩).bind λx5=>some x5
noncomputable def jR(x0:Qr)(x1:Qr):Option (Int):=match x0 with|⟨⟨bC,bA⟩,⟨cD,cE⟩⟩=>match x1 with|⟨⟨bP,bN⟩,⟨ee,ef⟩⟩=>(jP ⟨⟨bC,bA⟩,⟨cD,cE⟩⟩ ⟨⟨bP,bN⟩,⟨ee,ef⟩⟩).bind λ⟨⟨ng,nh⟩,⟨qK,qL⟩⟩=>(kq ⟨⟨ng,nh⟩,⟨qK,qL⟩⟩).bind λx8=>some x8
end
section
open Go.Fw Go.Fw.Z Go.RowKit
theorem uy{r:Zr}(h:jM=some r):Pure ah 69 [] (.agg (eZ r)):=by
 refine bk Tryz.func69 Y (af Y) (λdI M vs hvs=>?_);unfold jM at h;refine sr<|al (cs:=[az false,ax]) (by exact⟨au,aB,aq⟩) Y<|dn<|sr ?_;obtain⟨⟨bP,bN⟩,h1,h⟩:=bS h;refine cl (zZ h1) ⟨Y,aq⟩<|so Y Y Y<|dn<|bf ?_;obtain rfl:=O h;exact RZ (.agg Y Y (.k2 Y Y) Y (.nil))
theorem gP{x0:Qr}{r:Zr}(h:dY x0=some r):Pure ah 48 [.agg (eQ x0)] (.agg (eZ r)):=by
 obtain⟨⟨bC,bA⟩,⟨cD,cE⟩⟩:=x0;refine bk Tryz.func48 Y (af Y) (λdI M vs hvs=>?_);unfold dY at h;refine sr<|bx Y<|al (cs:=[az false,ax]) (by exact⟨au,aB,aq⟩) Y<|dn<|qq<|sr<|fa Y Y<|ld Y Y (.k2 Y Y)<|bE h λx5 h5 h=>cl (eT h5) ⟨Y,aq⟩<|lE h λx6 h6 h=>eq _ Y Y (uU (p:=x5) (q:=0) h6)<|dn ?_;cases x6;refine fs<|sr<|fa Y Y<|ld Y Y (.k2 Y Y) ?_;obtain⟨⟨wh,wj⟩,ic,h⟩:=bS (F h);refine cl (BC ic) ⟨Y,aq⟩<|so Y Y Y<|dn<|bf ?_;obtain rfl:=O h;exact RZ (.agg Y Y (.k2 Y Y) Y (.nil));refine cT<|sr ?_;obtain⟨⟨ng,nh⟩,h7,h⟩:=bS (V h);refine cl (uy h7) trivial<|so Y Y Y<|dn<|bf<|aV.r ?_;obtain rfl:=O h;exact RZ (.agg Y Y (.k2 Y Y) Y (.nil))
theorem iU{x0:Qr}{r:Zr}(h:eU x0=some r):Pure ah 47 [.agg (eQ x0)] (.agg (eZ r)):=by
 obtain⟨⟨bC,bA⟩,⟨cD,cE⟩⟩:=x0;refine bk Tryz.func47 Y (af Y) (λdI M vs hvs=>?_);unfold eU at h;refine sr<|bx Y<|al (cs:=[az false,ax]) (by exact⟨au,aB,aq⟩) Y<|dn<|qq<|sr<|fa Y Y<|ld Y Y (.k2 Y Y)<|bE h λx5 h5 h=>cl (eT h5) ⟨Y,aq⟩<|lE h λx6 h6 h=>ls _ Y Y h6<|dn ?_;cases x6;refine fs<|sr<|fa Y Y<|ld Y Y (.k2 Y Y) ?_;obtain⟨⟨lC,lD⟩,jk,h⟩:=bS (F h);refine cl (qN jk) ⟨Y,aq⟩<|so Y Y Y<|dn<|bf ?_;obtain rfl:=O h;exact RZ (.agg Y Y (.k2 Y Y) Y (.nil));refine cT<|sr<|fa Y Y<|ld Y Y (.k2 Y Y) ?_;obtain⟨⟨C8,C9⟩,h9,h⟩:=bS (V h);refine cl (uw h9) ⟨Y,aq⟩<|so Y Y Y<|dn<|bf<|aV.r ?_;obtain rfl:=O h;exact RZ (.agg Y Y (.k2 Y Y) Y (.nil))
theorem n5{x0:Zr}{x1:Zr}{r:Qr}(h:gO x0 x1=some r):Pure ah 45 [.agg (eZ x0),.agg (eZ x1)] (.agg (eQ r)):=by
 obtain⟨bC,bA⟩:=x0;obtain⟨bP,bN⟩:=x1;refine bk Tryz.func45 Y (af Y) (λdI M vs hvs=>?_);unfold gO at h;refine sr<|bx Y<|bx Y<|al (cs:=[az false,ax,az false,ax]) (by exact⟨au,aB,au,aB,aq⟩) Y<|dn<|sr<|ld Y Y (.k2 Y Y)<|ld Y Y (.k2 Y Y) ?_;obtain⟨⟨rT,rU⟩,lW,h⟩:=bS h;refine cl (BE lW) ⟨Y,Y,aq⟩<|al (cs:=[az false,ax]) (by exact⟨au,aB,aq⟩) Y<|so Y Y Y<|dn<|sr<|ld Y Y (.k2 Y Y)<|ld Y Y (.k2 Y Y) ?_;obtain⟨⟨⟨gJ,gK⟩,⟨kf,kg⟩,YE⟩,ji,h⟩:=bS h;refine cl (ux ji) ⟨Y,Y,aq⟩<|mv Y<|ex Y Y<|ex Y Y<|ex Y Y<|al (cs:=[az false,ax]) (by exact⟨au,aB,aq⟩) Y<|al (cs:=[az false,ax]) (by exact⟨au,aB,aq⟩) Y<|so Y Y Y<|so Y Y Y<|ag Y<|dn<|sr<|ld Y Y (.k2 Y Y) ?_;refine ld Y Y (.k2 Y Y) ?_;obtain⟨⟨⟨BF,BG⟩,⟨Qd,Qe⟩,YF⟩,mZ,h⟩:=bS h;refine cl (ux mZ) ⟨Y,Y,aq⟩<|mv Y<|ex Y Y<|ex Y Y<|ex Y Y<|al (cs:=[az false,ax]) (by exact⟨au,aB,aq⟩) Y<|al (cs:=[az false,ax]) (by exact⟨au,aB,aq⟩) Y<|so Y Y Y<|so Y Y Y<|ag Y<|dn<|qq<|qq<|aY mixed<|ld Y Y (.k2 Y Y) ?_;obtain⟨⟨pz,pA⟩,zP,h⟩:=bS h;refine cl (uy zP) trivial<|bE h λnR wo h=>cl (BB wo) ⟨Y,Y,aq⟩<|lE h λiN lZ h=>eq _ Y Y (uU (p:=nR) (q:=0) lZ) ?_;refine RT.done ⟨by kernel_rfl,?_⟩;refine aV.n ?_;cases iN
 refine fs<|sr<|ld Y Y (.k2 Y Y)<|ld Y Y (.k2 Y Y)<|bI (cs:=[_,_,_,_]) (cs':=[az gJ,slc 1 (List.map aX gK),az BF,slc 1 (List.map aX BG)]) (.agg Y (.agg Y (.nil))) ⟨au,au,au,au,aq⟩<|so Y Y Y<|dn<|bf ?_;obtain rfl:=O (F h);exact RZ (.agg Y Y (.k4 Y Y Y Y) Y (.nil));refine cT<|sr<|ld Y Y (.k2 Y Y)<|bI (cs:=[_,_,_,_]) (cs':=[az gJ,slc 1 (List.map aX gK),az false,ax]) (.agg Y (.nil)) ⟨au,au,au,aB,aq⟩<|so Y Y Y<|dn<|bf<|aV.r ?_;obtain rfl:=O (V h);exact RZ (.agg Y Y (.k4 Y Y Y Y) Y (.nil))
theorem qO{x0:Qr}{x1:Qr}{r:Bool}(h:iG x0 x1=some r):Pure ah 10 [.agg (eQ x0),.agg (eQ x1)] (az r):=by
 obtain⟨⟨bC,bA⟩,⟨cD,cE⟩⟩:=x0;obtain⟨⟨bP,bN⟩,⟨ee,ef⟩⟩:=x1;refine bk Tryz.func10 Y (af Y) (λdI M vs hvs=>?_);unfold iG at h;refine sr<|bx Y<|bx Y<|ag Y<|dn<|qq ?_;refine bG h (λj3=>AS.cw 17 [(4,aj j3)] [] []) (λh=>?_) (λTn h=>?_);refine aW<|fa Y Y<|ld Y Y (.k2 Y Y)<|fa Y Y<|ld Y Y (.k2 Y Y)<|bE h λx9 h9 h=>cl (r6 h9) ⟨Y,Y,aq⟩<|mv Y<|bE h λNl oW h=>?_;cases x9;obtain rfl:=O (F oW);exact ww<|ww<|ww<|ww<|ww<|pF Y<|ag Y<|dn<|⟨false,h,wR []⟩;refine RT.fieldAddr (.some Y Y) Y T Y<|gl Y Y (.k2 Y Y)<|RT.fieldAddr (.some Y Y) Y T Y<|gl Y Y (.k2 Y Y)<|bE (V oW) λgQ jl oW=>gc (r6 jl) ⟨Y,Y,aq⟩ ?_;obtain rfl:=O oW;exact pT Y<|ag Y<|dn<|⟨gQ,h,wR []⟩
 try dsimp only
 refine aV.n<|bf ?_;obtain rfl:=O h;exact R1 Y
theorem uz{x0:Qr}{x1:Qr}{r:Qr}(h:jN x0 x1=some r):Pure ah 32 [.agg (eQ x0),.agg (eQ x1)] (.agg (eQ r)):=by
 obtain⟨⟨bC,bA⟩,⟨cD,cE⟩⟩:=x0;obtain⟨⟨bP,bN⟩,⟨ee,ef⟩⟩:=x1;refine bk Tryz.func32 Y (af Y) (λdI M vs hvs=>?_);unfold jN at h;refine sr<|bx Y<|bx Y<|al (cs:=[az false,ax,az false,ax]) (by exact⟨au,aB,au,aB,aq⟩) Y<|dn<|qq<|aY mixed<|ld Y Y (.k4 Y Y Y Y) ?_;obtain⟨⟨kS,kT⟩,h8,h⟩:=bS h;refine cl (iU h8) ⟨Y,aq⟩<|ld Y Y (.k4 Y Y Y Y) ?_;obtain⟨⟨wh,wj⟩,ic,h⟩:=bS h;refine cl (gP ic) ⟨Y,aq⟩ ?_;obtain⟨⟨om,ot⟩,jh,h⟩:=bS h;refine cl (kp jh) ⟨Y,Y,aq⟩<|ld Y Y (.k4 Y Y Y Y) ?_;obtain⟨⟨qk,ql⟩,kF,h⟩:=bS h;refine cl (iU kF) ⟨Y,aq⟩<|ld Y Y (.k4 Y Y Y Y) ?_;obtain⟨⟨ej,ek⟩,jl,h⟩:=bS h;refine cl (gP jl) ⟨Y,aq⟩ ?_;obtain⟨⟨dK,dL⟩,iw,h⟩:=bS h;refine cl (kp iw) ⟨Y,Y,aq⟩<|al (cs:=[az false,ax]) (by exact⟨au,aB,aq⟩) Y<|al (cs:=[az false,ax]) (by exact⟨au,aB,aq⟩) Y<|so Y Y Y<|so Y Y Y ?_;refine RT.done ⟨by kernel_rfl,?_⟩;refine aV.n<|qq<|aY mixed<|ld Y Y (.k2 Y Y)<|ld Y Y (.k2 Y Y) ?_;obtain⟨⟨jn,jo⟩,mB,h⟩:=bS h;refine cl (BD mB) ⟨Y,Y,aq⟩<|ld Y Y (.k4 Y Y Y Y) ?_;obtain⟨⟨Da,Db⟩,mY,h⟩:=bS h;refine cl (gP mY) ⟨Y,aq⟩<|ld Y Y (.k4 Y Y Y Y) ?_;obtain⟨⟨uo,ur⟩,nV,h⟩:=bS h;refine cl (gP nV) ⟨Y,aq⟩ ?_;obtain⟨⟨C3,C4⟩,pU,h⟩:=bS h;refine cl (kp pU) ⟨Y,Y,aq⟩ ?_;obtain⟨⟨⟨tL,tN⟩,⟨Nm,Nn⟩⟩,mZ,h⟩:=bS h
 refine cl (n5 mZ) ⟨Y,Y,aq⟩<|so Y Y Y ?_;refine RT.done ⟨by kernel_rfl,?_⟩;refine aV.n<|bf ?_;obtain rfl:=O h;exact RZ (.agg Y Y (.k4 Y Y Y Y) Y (.nil))
theorem uA{x0:Qr}{r:Qr}(h:jO x0=some r):Pure ah 31 [.agg (eQ x0)] (.agg (eQ r)):=by
 obtain⟨⟨bC,bA⟩,⟨cD,cE⟩⟩:=x0;refine bk Tryz.func31 Y (af Y) (λdI M vs hvs=>?_);unfold jO at h;refine sr<|bx Y<|al (cs:=[az false,ax,az false,ax]) (by exact⟨au,aB,au,aB,aq⟩) Y<|dn<|qq<|aY mixed<|ld Y Y (.k4 Y Y Y Y) ?_;obtain⟨⟨rJ,rK⟩,h4,h⟩:=bS h;refine cl (iU h4) ⟨Y,aq⟩ ?_;obtain⟨⟨GG,GH⟩,h5,h⟩:=bS h;refine cl (uw h5) ⟨Y,aq⟩<|ld Y Y (.k4 Y Y Y Y) ?_;obtain⟨⟨ng,nh⟩,h7,h⟩:=bS h;refine cl (gP h7) ⟨Y,aq⟩ ?_;obtain⟨⟨⟨kS,kT⟩,⟨ud,ue⟩⟩,h8,h⟩:=bS h;refine cl (n5 h8) ⟨Y,Y,aq⟩<|so Y Y Y ?_;refine RT.done ⟨by kernel_rfl,?_⟩;refine aV.n<|bf ?_;obtain rfl:=O h;exact RZ (.agg Y Y (.k4 Y Y Y Y) Y (.nil))
theorem uB{x0:Qr}{x1:Qr}{r:Qr}(h:jP x0 x1=some r):Pure ah 25 [.agg (eQ x0),.agg (eQ x1)] (.agg (eQ r)):=by
 obtain⟨⟨bC,bA⟩,⟨cD,cE⟩⟩:=x0;obtain⟨⟨bP,bN⟩,⟨ee,ef⟩⟩:=x1;refine bk Tryz.func25 Y (af Y) (λdI M vs hvs=>?_);unfold jP at h;refine sr<|bx Y<|bx Y<|al (cs:=[az false,ax,az false,ax]) (by exact⟨au,aB,au,aB,aq⟩) Y<|dn<|qq<|aY mixed<|ld Y Y (.k4 Y Y Y Y)<|ld Y Y (.k4 Y Y Y Y) ?_;obtain⟨⟨⟨ng,nh⟩,⟨qK,qL⟩⟩,h7,h⟩:=bS h;refine cl (uA h7) ⟨Y,aq⟩ ?_;obtain⟨⟨⟨kS,kT⟩,⟨ud,ue⟩⟩,h8,h⟩:=bS h;refine cl (uz h8) ⟨Y,Y,aq⟩<|so Y Y Y ?_;refine RT.done ⟨by kernel_rfl,?_⟩;refine aV.n<|bf ?_;obtain rfl:=O h;exact RZ (.agg Y Y (.k4 Y Y Y Y) Y (.nil))
theorem uC{x0:Qr}{x1:Qr}{r:Qr}(h:jQ x0 x1=some r):Pure ah 24 [.agg (eQ x0),.agg (eQ x1)] (.agg (eQ r)):=by
 obtain⟨⟨bC,bA⟩,⟨cD,cE⟩⟩:=x0;obtain⟨⟨bP,bN⟩,⟨ee,ef⟩⟩:=x1;refine bk Tryz.func24 Y (af Y) (λdI M vs hvs=>?_);unfold jQ at h;refine sr<|bx Y<|bx Y<|al (cs:=[az false,ax,az false,ax]) (by exact⟨au,aB,au,aB,aq⟩) Y<|dn<|qq<|aY mixed<|ld Y Y (.k4 Y Y Y Y) ?_;obtain⟨⟨Je,Jf⟩,h6,h⟩:=bS h;refine cl (iU h6) ⟨Y,aq⟩<|ld Y Y (.k4 Y Y Y Y) ?_;obtain⟨⟨kS,kT⟩,h8,h⟩:=bS h;refine cl (iU h8) ⟨Y,aq⟩ ?_;obtain⟨⟨C8,C9⟩,h9,h⟩:=bS h;refine cl (kp h9) ⟨Y,Y,aq⟩<|ld Y Y (.k4 Y Y Y Y) ?_;obtain⟨⟨om,ot⟩,jh,h⟩:=bS h;refine cl (gP jh) ⟨Y,aq⟩<|ld Y Y (.k4 Y Y Y Y) ?_;obtain⟨⟨qk,ql⟩,kF,h⟩:=bS h;refine cl (gP kF) ⟨Y,aq⟩ ?_;obtain⟨⟨rT,rU⟩,lW,h⟩:=bS h;refine cl (kp lW) ⟨Y,Y,aq⟩ ?_;obtain⟨⟨⟨ej,ek⟩,⟨jF,jG⟩⟩,jl,h⟩:=bS h;refine cl (n5 jl) ⟨Y,Y,aq⟩<|so Y Y Y ?_;refine RT.done ⟨by kernel_rfl,?_⟩;refine aV.n<|bf ?_;obtain rfl:=O h;exact RZ (.agg Y Y (.k4 Y Y Y Y) Y (.nil))
theorem z5{x0:Qr}{r:Int}(h:kq x0=some r):Pure ah 54 [.agg (eQ x0)] (ay r):=by
 obtain⟨⟨bC,bA⟩,⟨cD,cE⟩⟩:=x0;refine bk Tryz.func54 Y (af Y) (λdI M vs hvs=>?_);unfold kq at h;refine sr<|bx Y<|ag Y<|dn<|sr<|ld Y Y (.k4 Y Y Y Y) ?_;obtain⟨⟨rJ,rK⟩,h4,h⟩:=bS h;refine cl (iU h4) ⟨Y,aq⟩<|bE h λx5 h5 h=>cl (eT h5) ⟨Y,aq⟩<|ag Y<|dn<|bf ?_;obtain rfl:=O h;exact R1 Y
theorem uD{x0:Qr}{x1:Qr}{r:Int}(h:jR x0 x1=some r):Pure ah 27 [.agg (eQ x0),.agg (eQ x1)] (ay r):=by
 obtain⟨⟨bC,bA⟩,⟨cD,cE⟩⟩:=x0;obtain⟨⟨bP,bN⟩,⟨ee,ef⟩⟩:=x1;refine bk Tryz.func27 Y (af Y) (λdI M vs hvs=>?_);unfold jR at h;refine sr<|bx Y<|bx Y<|ag Y<|dn<|sr<|ld Y Y (.k4 Y Y Y Y)<|ld Y Y (.k4 Y Y Y Y) ?_;obtain⟨⟨⟨ng,nh⟩,⟨qK,qL⟩⟩,h7,h⟩:=bS h;refine cl (uB h7) ⟨Y,Y,aq⟩<|bE h λx8 h8 h=>cl (z5 h8) ⟨Y,aq⟩<|ag Y<|dn<|bf ?_;obtain rfl:=O h;exact R1 Y
end
section
open Go.Fw
noncomputable def nk(x0:List Qr)(x1:Int):Option (Qr):=cj (λ(qE:Bool)=>(bif qE then some ⟨⟨false,[]⟩,⟨false,[]⟩⟩else(cm x0 x1).bind λ⟨⟨dK,dL⟩,⟨iW,iX⟩⟩=>some ⟨⟨dK,dL⟩,⟨iW,iX⟩⟩)) λK3=>(some (decide ((x1:Int)<0))).bind λx6=>(bif x6 then some true else(some (x0.length:Int)).bind λew=>(some (decide ((ew:Int)<=x1))).bind λeG=>some eG).bind λCX=>K3 CX
noncomputable def jS(x0:List Qr)(x1:List Qr):Option (Qr):=(b9 (λ(s6:Int×Bool×(List Nat)×Bool×(List Nat))=>match s6 with|⟨mF,iZ,ja,jb,jc⟩=>(show Option ((Int×Bool×(List Nat)×Bool×(List Nat))⊕(Bool×(List Nat)×Bool×(List Nat)))from(some (x0.length:Int)).bind λew=>(some (decide ((mF:Int)<ew))).bind λeG=>(bif eG then(cm x0 mF).bind λ⟨⟨m6,m7⟩,⟨Aw,Ax⟩⟩=>(nk x1 mF).bind λ⟨⟨Da,Db⟩,⟨No,Np⟩⟩=>(jQ ⟨⟨m6,m7⟩,⟨Aw,Ax⟩⟩ ⟨⟨Da,Db⟩,⟨No,Np⟩⟩).bind λ⟨⟨Nq,Nr⟩,⟨Ns,Nt⟩⟩=>(jN ⟨⟨iZ,ja⟩,⟨jb,jc⟩⟩ ⟨⟨Nq,Nr⟩,⟨Ns,Nt⟩⟩).bind λ⟨⟨uo,ur⟩,⟨Jj,Jk⟩⟩=>(some (IntKind.i64.wrap (mF+1))).bind λjv=>some (.inl (jv,uo,ur,Jj,Jk))else some (.inr (iZ,ja,jb,jc))))) (0,false,[],false,[])).bind λe6=>match e6 with|⟨qF,qG,qH,qJ⟩=>some ⟨⟨qF,qG⟩,⟨qH,qJ⟩⟩
noncomputable def ku(x0:List Qr)(x1:List Qr):Option (Qr):=(jS x0 x1).bind λ⟨⟨ng,nh⟩,⟨qK,qL⟩⟩=>(jO ⟨⟨ng,nh⟩,⟨qK,qL⟩⟩).bind λ⟨⟨kS,kT⟩,⟨ud,ue⟩⟩=>some ⟨⟨kS,kT⟩,⟨ud,ue⟩⟩
noncomputable def eV(x0:List Qr)(x1:Int)(x2:Int)(x3:Qr):Option (Qr×Int):=match x3 with|⟨⟨pQ,pR⟩,⟨El,Em⟩⟩=>cj (λ(yO:Bool)=>(bif yO then some (⟨⟨false,[]⟩,⟨false,[]⟩⟩,1)else(cm x0 x2).bind λ⟨⟨jD,jg⟩,⟨kK,kL⟩⟩=>(cm x0 x1).bind λ⟨⟨kI,kJ⟩,⟨pI,pJ⟩⟩=>(jP ⟨⟨jD,jg⟩,⟨kK,kL⟩⟩ ⟨⟨kI,kJ⟩,⟨pI,pJ⟩⟩).bind λ⟨⟨wB,wC⟩,⟨C1,C2⟩⟩=>(jQ ⟨⟨pQ,pR⟩,⟨El,Em⟩⟩ ⟨⟨wB,wC⟩,⟨C1,C2⟩⟩).bind λ⟨⟨pK,pL⟩,⟨uf,ug⟩⟩=>some (⟨⟨pK,pL⟩,⟨uf,ug⟩⟩,0))) λRq=>(some (decide ((x1:Int)<0))).bind λeG=>(bif eG then some true else(some (x0.length:Int)).bind λgQ=>(some (decide ((gQ:Int)<=x1))).bind λfX=>some fX).bind λyP=>(bif yP then some true else(some (decide ((x2:Int)<0))).bind λje=>some je).bind λEn=>(bif En then some true else(some (x0.length:Int)).bind λjC=>(some (decide ((jC:Int)<=x2))).bind λgR=>some gR).bind λEo=>Rq Eo
noncomputable def kx(x0:List Qr):Option (Int×Int):=(b9 (λ(Ep:Int×Int×Int)=>match Ep with|⟨GR,EH,yZ⟩=>(show Option ((Int×Int×Int)⊕(Int×Int))from(some (x0.length:Int)).bind λx9=>(some (decide ((yZ:Int)<x9))).bind λew=>(bif ew then(cm x0 yZ).bind λ⟨⟨ej,ek⟩,⟨jF,jG⟩⟩=>(cm x0 GR).bind λ⟨⟨jn,jo⟩,⟨ua,uc⟩⟩=>(jR ⟨⟨ej,ek⟩,⟨jF,jG⟩⟩ ⟨⟨jn,jo⟩,⟨ua,uc⟩⟩).bind λgY=>(some (decide ((gY:Int)<0))).bind λiM=>cj (λ(FA:Int)=>(cm x0 yZ).bind λ⟨⟨Nu,Nv⟩,⟨Nw,Nx⟩⟩=>(cm x0 EH).bind λ⟨⟨pz,pA⟩,⟨Ny,Nz⟩⟩=>(jR ⟨⟨Nu,Nv⟩,⟨Nw,Nx⟩⟩ ⟨⟨pz,pA⟩,⟨Ny,Nz⟩⟩).bind λiN=>(some (decide ((0:Int)<iN))).bind λmL=>cj (λ(Jl:Int)=>(some (IntKind.i64.wrap (yZ+1))).bind λeA=>some (.inl (FA,Jl,eA))) λTf=>(bif mL then Tf yZ else Tf EH)) λO9=>(bif iM then O9 yZ else O9 GR)else some (.inr (GR,EH))))) (0,0,0)).bind λPM=>match PM with|⟨NA,NB⟩=>some (NA,NB)
end
section
open Go.Fw Go.Fw.Z Go.RowKit
theorem Dc{x0:List Qr}{x1:Int}{r:Qr}(h:nk x0 x1=some r):Pure ah 33 [slc 4 (List.map eQ x0),.v (.int .i64 x1)] (.agg (eQ r)):=by
 refine bk Tryz.func33 Y (af Y) (λdI M vs hvs=>?_);unfold nk at h;refine sr<|al (cs:=[.v (.bool false),slc 1 (List.map aX []),.v (.bool false),slc 1 (List.map aX [])]) (by exact⟨au,aB,au,aB,aq⟩) Y<|dn<|qq<|qq ?_;refine bG h (λj3=>AS.cw 18 [(0,.sv (slc 4 (List.map eQ x0))),(1,.sv (.v (.int .i64 x1))),(4,.ptr 4 0),(12,.sv (.v (.bool j3)))] [(4,⟨27,[.sv (.v (.bool false)),.sv (slc 1 (List.map aX [])),.sv (.v (.bool false)),.sv (slc 1 (List.map aX []))]⟩)] []) (λh=>?_) (λqE h=>?_);refine aW<|mv Y<|lE h λx6 h6 h=>ls _ Y Y h6<|mv Y<|bE h λCX oW h=>?_;cases x6;refine gm Y<|gm Y<|lE (F oW) λew ic oW=>gn Y ic<|lE oW λeG jh oW=>RT.geq (.some Y Y) _ Y Y T jh ?_;obtain rfl:=O oW;exact pF Y<|dn<|⟨eG,h,wR []⟩;obtain rfl:=O (V oW);exact ww<|ww<|ww<|ww<|pT Y<|dn<|⟨true,h,wR []⟩
 try dsimp only
 refine aV.n ?_;cases qE;refine fs<|sr<|mv Y<|mv Y ?_;obtain⟨⟨⟨dK,dL⟩,⟨iW,iX⟩⟩,iw,h⟩:=bS (F h);refine ix Y Y iw<|RT.ik (cs:=[_,_,_,_]) .none Y T Y Y<|so Y Y Y<|dn<|bf ?_;obtain rfl:=O h;exact RZ (.agg Y Y (.cons Y (.cons Y (.cons Y (.cons Y (.nil))))) Y (.nil));refine cT<|sr<|bI (cs:=[_,_,_,_]) (cs':=[.v (.bool false),slc 1 (List.map aX []),.v (.bool false),slc 1 (List.map aX [])]) (.nil) ⟨au,aB,au,aB,aq⟩<|so Y Y Y<|dn<|bf<|aV.r ?_;obtain rfl:=O (V h);exact RZ (.agg Y Y (.cons Y (.cons Y (.cons Y (.cons Y (.nil))))) Y (.nil))
theorem uE{x0:List Qr}{x1:List Qr}{r:Qr}(h:jS x0 x1=some r):Pure ah 14 [slc 4 (List.map eQ x0),slc 4 (List.map eQ x1)] (.agg (eQ r)):=by
 refine bk Tryz.func14 Y (af Y) (λdI M vs hvs=>?_);unfold jS at h;refine sr<|al (cs:=[.v (.bool false),slc 1 (List.map aX []),.v (.bool false),slc 1 (List.map aX [])]) (by exact⟨au,aB,au,aB,aq⟩) Y<|dn<|sr<|bI (cs:=[_,_,_,_]) (cs':=[.v (.bool false),slc 1 (List.map aX []),.v (.bool false),slc 1 (List.map aX [])]) (.nil) ⟨au,aB,au,aB,aq⟩<|al (cs:=[.v (.bool false),slc 1 (List.map aX []),.v (.bool false),slc 1 (List.map aX [])]) (by exact⟨au,aB,au,aB,aq⟩) Y ?_;refine so Y Y Y<|dn<|qq<|sr<|ag Y<|dn<|bE h λe6 zM jW=>?_;refine bL (λ(pB:Bool×(List Nat)×Bool×(List Nat))=>AS.cw 25 [(4,.ptr 4 0),(5,.ptr 5 0)] [(5,⟨27,[.sv (.v (.bool pB.1)),.sv (slc 1 (List.map aX pB.2.1)),.sv (.v (.bool pB.2.2.1)),.sv (slc 1 (List.map aX pB.2.2.2))]⟩),(4,⟨27,[.sv (.v (.bool false)),.sv (slc 1 (List.map aX [])),.sv (.v (.bool false)),.sv (slc 1 (List.map aX []))]⟩)] []) (λpB=>pB=e6) ?_ (λpB zN=>?_);refine bg ?_
 refine bM zM (λs6=>AS.cw 25 [(0,.sv (slc 4 (List.map eQ x0))),(1,.sv (slc 4 (List.map eQ x1))),(4,.ptr 4 0),(5,.ptr 5 0),(6,.sv (.v (.int .i64 s6.1)))] [(5,⟨27,[.sv (.v (.bool s6.2.1)),.sv (slc 1 (List.map aX s6.2.2.1)),.sv (.v (.bool s6.2.2.2.1)),.sv (slc 1 (List.map aX s6.2.2.2.2))]⟩),(4,⟨27,[.sv (.v (.bool false)),.sv (slc 1 (List.map aX [])),.sv (.v (.bool false)),.sv (slc 1 (List.map aX []))]⟩)] []) (wR []) (λs6 y6 G6 h zO wm=>?_);obtain⟨mF,iZ,ja,jb,jc⟩:=s6
 try dsimp only
 refine qq<|sr<|mv Y<|mv Y<|lE h λew ic h=>ln Y ic<|lE h λeG jh h=>ls _ Y Y jh<|dn ?_;cases eG;refine cF<|bT<|aV.x<|aV.x<|bD.x<|aV.n ?_;obtain rfl:=O (F h);exact⟨(iZ,ja,jb,jc),wm _ Y,wR []⟩;refine cT<|bu<|aV.n<|qq<|bg<|aY mixed<|ld Y Y (.cons Y (.cons Y (.cons Y (.cons Y (.nil)))))<|mv Y<|mv Y ?_;obtain⟨⟨⟨m6,m7⟩,⟨Aw,Ax⟩⟩,j6,h⟩:=bS (V h);refine ix Y Y j6<|RT.ik (cs:=[_,_,_,_]) .none Y T Y Y<|mv Y<|mv Y ?_;obtain⟨⟨⟨Da,Db⟩,⟨No,Np⟩⟩,mY,h⟩:=bS h;refine cl (Dc mY) ⟨Y,Y,aq⟩ ?_;obtain⟨⟨⟨Nq,Nr⟩,⟨Ns,Nt⟩⟩,oV,h⟩:=bS h;refine cl (uC oV) ⟨Y,Y,aq⟩ ?_;obtain⟨⟨⟨uo,ur⟩,⟨Jj,Jk⟩⟩,nV,h⟩:=bS h;refine cl (uz nV) ⟨Y,Y,aq⟩<|so Y Y Y ?_;refine RT.done ⟨by kernel_rfl,?_⟩;refine bD.n<|aV.n<|aW<|mv Y<|lE h λjv kF h=>ad _ Y Y kF<|ag Y<|RT.done ?_;obtain rfl:=O h;exact aV.n ⟨(jv,uo,ur,Jj,Jk),zO _ Y,wR []⟩;subst zN;obtain⟨qF,qG,qH,qJ⟩:=pB
 try dsimp only
 refine aV.n<|sr<|ld Y Y (.cons Y (.cons Y (.cons Y (.cons Y (.nil)))))<|so Y Y Y<|dn<|bf ?_;obtain rfl:=O jW;exact RZ (.agg Y Y (.cons Y (.cons Y (.cons Y (.cons Y (.nil))))) Y (.nil))
theorem z6{x0:List Qr}{x1:List Qr}{r:Qr}(h:ku x0 x1=some r):Pure ah 12 [slc 4 (List.map eQ x0),slc 4 (List.map eQ x1)] (.agg (eQ r)):=by
 refine bk Tryz.func12 Y (af Y) (λdI M vs hvs=>?_);unfold ku at h;refine sr<|al (cs:=[.v (.bool false),slc 1 (List.map aX []),.v (.bool false),slc 1 (List.map aX [])]) (by exact⟨au,aB,au,aB,aq⟩) Y<|dn<|sr<|mv Y<|mv Y ?_;obtain⟨⟨⟨ng,nh⟩,⟨qK,qL⟩⟩,h7,h⟩:=bS h;refine cl (uE h7) ⟨Y,Y,aq⟩ ?_;obtain⟨⟨⟨kS,kT⟩,⟨ud,ue⟩⟩,h8,h⟩:=bS h;refine cl (uA h8) ⟨Y,aq⟩<|so Y Y Y<|dn<|bf ?_;obtain rfl:=O h;exact RZ (.agg Y Y (.cons Y (.cons Y (.cons Y (.cons Y (.nil))))) Y (.nil))
theorem y4{x0:List Qr}{x1:Int}{x2:Int}{x3:Qr}{r:Qr×Int}(h:eV x0 x1 x2 x3=some r):Pure ah 7 [slc 4 (List.map eQ x0),.v (.int .i64 x1),.v (.int .i64 x2),.agg (eQ x3)] (.uT [.agg (eQ r.1),.v (.int .i64 r.2)]):=by
 obtain⟨⟨pQ,pR⟩,⟨El,Em⟩⟩:=x3;refine bk Tryz.func7 Y (af Y) (λdI M vs hvs=>?_);unfold eV at h;refine sr<|bx Y<|al (cs:=[.v (.bool false),slc 1 (List.map aX []),.v (.bool false),slc 1 (List.map aX [])]) (by exact⟨au,aB,au,aB,aq⟩) Y<|ag Y<|dn<|qq<|qq ?_;refine bG h (λKf=>AS.cw 40 [(0,.sv (slc 4 (List.map eQ x0))),(1,.sv (.v (.int .i64 x1))),(2,.sv (.v (.int .i64 x2))),(7,.ptr 7 0),(8,.ptr 8 0),(27,.sv (.v (.bool Kf)))] [(8,⟨27,[.sv (.v (.bool false)),.sv (slc 1 (List.map aX [])),.sv (.v (.bool false)),.sv (slc 1 (List.map aX []))]⟩),(7,⟨27,[.sv (.v (.bool pQ)),.sv (slc 1 (List.map aX pR)),.sv (.v (.bool El)),.sv (slc 1 (List.map aX Em))]⟩)] []) (λh=>?_) (λyO h=>?_);refine aW<|mv Y<|lE h λeG jh h=>ls _ Y Y jh<|mv Y<|bE h λyP vH h=>?_;cases eG;refine gm Y<|gm Y<|lE (F vH) λgQ jl vH=>gn Y jl<|lE vH λfX iw vH=>RT.geq (.some Y Y) _ Y Y T iw ?_;obtain rfl:=O vH;refine pF Y<|mv Y<|bE h λPN By h=>?_;cases fX;refine gm Y<|lE (F By) λje oU By=>RT.lss (.some Y Y) _ Y Y T oU ?_;obtain rfl:=O By;refine pF Y<|mv Y<|bE h λPO vI h=>?_;cases je;refine gm Y<|gm Y<|lE (F vI) λjC mZ vI=>gn Y mZ<|lE vI λgR nW vI=>RT.geq (.some Y Y) _ Y Y T nW ?_;obtain rfl:=O vI;exact pF Y<|dn<|⟨gR,h,wR []⟩
 obtain rfl:=O (V vI);exact ww<|ww<|ww<|ww<|pT Y<|dn<|⟨true,h,wR []⟩;obtain rfl:=O (V By);refine ww<|ww<|pT Y<|mv Y<|bE h λPR dG h=>?_;obtain rfl:=O (V dG);exact ww<|ww<|ww<|ww<|pT Y<|dn<|⟨true,h,wR []⟩;obtain rfl:=O (V vH);refine ww<|ww<|ww<|ww<|pT Y<|mv Y<|bE h λPS PT h=>?_;obtain rfl:=O (V PT);refine ww<|ww<|pT Y<|mv Y<|bE h λPU PV h=>?_;obtain rfl:=O (V PV);exact ww<|ww<|ww<|ww<|pT Y<|dn<|⟨true,h,wR []⟩
 try dsimp only
 refine aV.n ?_;cases yO;refine fs<|qq<|aY mixed<|ld Y Y (.cons Y (.cons Y (.cons Y (.cons Y (.nil)))))<|mv Y<|mv Y ?_;obtain⟨⟨⟨jD,jg⟩,⟨kK,kL⟩⟩,lZ,h⟩:=bS (F h);refine ix Y Y lZ<|RT.ik (cs:=[_,_,_,_]) .none Y T Y Y<|mv Y<|mv Y ?_;obtain⟨⟨⟨kI,kJ⟩,⟨pI,pJ⟩⟩,vB,h⟩:=bS h;refine ix Y Y vB<|RT.ik (cs:=[_,_,_,_]) .none Y T Y Y ?_;obtain⟨⟨⟨wB,wC⟩,⟨C1,C2⟩⟩,yw,h⟩:=bS h;refine cl (uB yw) ⟨Y,Y,aq⟩ ?_;obtain⟨⟨⟨pK,pL⟩,⟨uf,ug⟩⟩,zR,h⟩:=bS h;refine cl (uC zR) ⟨Y,Y,aq⟩<|so Y Y Y<|ag Y ?_;refine RT.done ⟨by kernel_rfl,?_⟩;refine aV.n<|bf ?_;obtain rfl:=O h;exact RZ (.agg Y Y (.cons Y (.cons Y (.cons Y (.cons Y (.nil))))) Y (.tmp Y (.nil)));refine cT<|sr<|bI (cs:=[_,_,_,_]) (cs':=[.v (.bool false),slc 1 (List.map aX []),.v (.bool false),slc 1 (List.map aX [])]) (.nil) ⟨au,aB,au,aB,aq⟩<|so Y Y Y<|ag Y<|dn<|bf<|aV.r ?_;obtain rfl:=O (V h);exact RZ (.agg Y Y (.cons Y (.cons Y (.cons Y (.cons Y (.nil))))) Y (.tmp Y (.nil)))
theorem z7{x0:List Qr}{r:Int×Int}(h:kx x0=some r):Pure ah 9 [slc 4 (List.map eQ x0)] (.uT [.v (.int .i64 r.1),.v (.int .i64 r.2)]):=by
 refine bk Tryz.func9 Y (af Y) (λdI M vs hvs=>?_);unfold kx at h;refine sr<|ag Y<|ag Y<|dn<|sr<|ag Y<|ag Y<|dn<|qq<|sr<|ag Y<|dn<|bE h λPM PW PX=>?_;refine bL (λ(vJ:Int×Int)=>AS.cw 37 [(4,.sv (.v (.int .i64 vJ.1))),(5,.sv (.v (.int .i64 vJ.2)))] [] []) (λvJ=>vJ=PM) ?_ (λvJ PY=>?_);refine bg ?_;refine bM PW (λEp=>AS.cw 37 [(0,.sv (slc 4 (List.map eQ x0))),(4,.sv (.v (.int .i64 Ep.1))),(5,.sv (.v (.int .i64 Ep.2.1))),(6,.sv (.v (.int .i64 Ep.2.2)))] [] []) (wR []) (λEp y14 G14 h PZ P0=>?_);obtain⟨GR,EH,yZ⟩:=Ep
 try dsimp only
 refine qq<|sr<|mv Y<|mv Y<|lE h λx9 h9 h=>ln Y h9<|lE h λew ic h=>ls _ Y Y ic<|dn ?_;cases ew;refine cF<|bT<|aV.x<|aV.x<|bD.x<|aV.n ?_;obtain rfl:=O (F h);exact⟨(GR,EH),P0 _ Y,wR []⟩;refine cT<|bu<|aV.n<|qq<|bg<|qq<|qq<|aY mixed<|mv Y<|mv Y ?_;obtain⟨⟨⟨ej,ek⟩,⟨jF,jG⟩⟩,jl,h⟩:=bS (V h);refine ix Y Y jl<|RT.ik (cs:=[_,_,_,_]) .none Y T Y Y<|mv Y<|mv Y ?_;obtain⟨⟨⟨jn,jo⟩,⟨ua,uc⟩⟩,mB,h⟩:=bS h;refine ix Y Y mB<|RT.ik (cs:=[_,_,_,_]) .none Y T Y Y<|bE h λgY mY h=>cl (uD mY) ⟨Y,Y,aq⟩<|lE h λiM oV h=>ls _ Y Y oV ?_;refine RT.done ⟨by kernel_rfl,?_⟩;refine aV.n ?_;refine bG h (λS8=>AS.cw 37 [(0,.sv (slc 4 (List.map eQ x0))),(4,.sv (.v (.int .i64 S8))),(5,.sv (.v (.int .i64 EH))),(6,.sv (.v (.int .i64 yZ)))] [] []) (λh=>?_) (λFA h=>?_);cases iM;exact fs<|⟨GR,(F h),wR []⟩;exact cT<|aW<|mv Y<|ag Y<|dn<|⟨yZ,(V h),wR []⟩
 try dsimp only
 refine aV.n<|qq<|aY mixed<|mv Y<|mv Y ?_;obtain⟨⟨⟨Nu,Nv⟩,⟨Nw,Nx⟩⟩,nW,h⟩:=bS h;refine ix Y Y nW<|RT.ik (cs:=[_,_,_,_]) .none Y T Y Y<|mv Y<|mv Y ?_;obtain⟨⟨⟨pz,pA⟩,⟨Ny,Nz⟩⟩,zP,h⟩:=bS h;refine ix Y Y zP<|RT.ik (cs:=[_,_,_,_]) .none Y T Y Y<|bE h λiN lZ h=>cl (uD lZ) ⟨Y,Y,aq⟩<|lE h λmL pV h=>gt _ Y Y pV ?_;refine RT.done ⟨by kernel_rfl,?_⟩;refine aV.n ?_;refine bG h (λX9=>AS.cw 37 [(0,.sv (slc 4 (List.map eQ x0))),(4,.sv (.v (.int .i64 FA))),(5,.sv (.v (.int .i64 X9))),(6,.sv (.v (.int .i64 yZ)))] [] []) (λh=>?_) (λJl h=>?_);cases mL;exact fs<|⟨EH,(F h),wR []⟩;exact cT<|aW<|mv Y<|ag Y<|dn<|⟨yZ,(V h),wR []⟩
 try dsimp only
 refine bD.n<|aV.n<|aW<|mv Y<|lE h λeA jk h=>ad _ Y Y jk<|ag Y<|RT.done ?_;obtain rfl:=O h;exact aV.n ⟨(FA,Jl,eA),PZ _ Y,wR []⟩;subst PY;obtain⟨NA,NB⟩:=vJ
 try dsimp only
 refine aV.n<|sr<|mv Y<|mv Y<|ag Y<|ag Y<|dn<|bf ?_;obtain rfl:=O PX;exact R2 Y Y
end
section
open Go.Fw
noncomputable def kz(x0:List (List Qr)):Option (Bool):=(b9 (λ(zY:Int×Int)=>match zY with|⟨To,BH⟩=>(show Option ((Int×Int)⊕((Unit)⊕(Bool)))from(some (x0.length:Int)).bind λx8=>(some (decide ((BH:Int)<x8))).bind λx9=>(bif x9 then(cm x0 BH).bind λgw=>(some (gw.length:Int)).bind λfX=>(some (decide ((40:Int)<fX))).bind λez=>(bif ez then some (.inr (.inr true))else(b9 (λ(EA:Int×Int)=>match EA with|⟨FB,oz⟩=>(show Option ((Int×Int)⊕(Int))from(cm x0 BH).bind λgY=>(some (gY.length:Int)).bind λig=>(some (decide ((oz:Int)<ig))).bind λg9=>(bif g9 then(some (IntKind.i64.wrap (FB+1))).bind λn9=>(cm x0 BH).bind λnR=>(cm nR oz).bind λ⟨⟨Ar,wz⟩,⟨NC,ND⟩⟩=>(some (wz.length:Int)).bind λsu=>(some (min (100:Int) su)).bind λuX=>(some (IntKind.i64.wrap (n9+uX))).bind λnS=>(cm x0 BH).bind λB6=>(cm B6 oz).bind λ⟨⟨NF,NG⟩,⟨NH,FC⟩⟩=>(some (FC.length:Int)).bind λvo=>(some (min (100:Int) vo)).bind λGj=>(some (IntKind.i64.wrap (nS+Gj))).bind λCy=>(some (IntKind.i64.wrap (oz+1))).bind λgR=>some (.inl (Cy,gR))else some (.inr FB)))) (To,0)).bind λwH=>(some (decide ((400:Int)<wH))).bind λEc=>(bif Ec then some (.inr (.inr true))else(some (IntKind.i64.wrap (BH+1))).bind λeG=>some (.inl (wH,eG))))else some (.inr (.inl ()))))) (0,0)).bind λP7=>match P7 with|.inr fy=>some fy|.inl _=>some false
end
section
open Go.Fw Go.Fw.Z Go.RowKit
theorem z8{x0:List (List Qr)}{r:Bool}(h:kz x0=some r):Pure ah 4 [slc 1 (List.map (eS 4 eQ) x0)] (az r):=by
 refine bk Tryz.func4 Y (af Y) (λdI M vs hvs=>?_);unfold kz at h;refine sr<|ag Y<|dn<|sr<|ag Y<|dn<|qq<|sr<|ag Y<|dn<|bE h λP7 EF yX=>?_;refine bL (λ(Qf:Unit)=>AS.cw 55 [] [] []) (λQf=>.inl Qf=P7) ?_ (λQf Bz=>?_);refine bg ?_;refine bM EF (λzY=>AS.cw 55 [(0,.sv (slc 1 (List.map (eS 4 eQ) x0))),(3,ai zY.1),(4,ai zY.2)] [] []) (wR []) (λzY y16 G16 h Jh EG=>?_);obtain⟨To,BH⟩:=zY
 try dsimp only
 refine qq<|sr<|mv Y<|mv Y<|lE h λx8 h8 h=>ln Y h8<|lE h λx9 h9 h=>ls _ Y Y h9<|dn ?_;cases x9;refine cF<|bT<|aV.x<|aV.x<|bD.x<|aV.n ?_;obtain rfl:=O (F h);exact⟨(),EG _ Y,wR []⟩;refine cT<|bu<|aV.n<|qq<|bg<|qq<|sr<|mv Y<|mv Y<|bE (V h) λgw lW h=>ix Y Y lW<|lr Y Y<|lE h λfX iw h=>ln Y iw<|lE h λez j6 h=>gt _ Y Y j6<|dn ?_;cases ez;refine fs<|qq<|sr<|ag Y<|dn<|bE (F h) λYm P8 z4=>?_;refine bL (λ(wH:Int)=>AS.cw 55 [(0,.sv (slc 1 (List.map (eS 4 eQ) x0))),(3,ai wH),(4,ai BH)] [] []) (λwH=>wH=Ym) ?_ (λwH P9=>?_);refine bg ?_;refine bM P8 (λEA=>AS.cw 55 [(0,.sv (slc 1 (List.map (eS 4 eQ) x0))),(3,ai EA.1),(4,ai BH),(5,ai EA.2)] [] []) (wR []) (λEA y22 G22 h Qa Qb=>?_);obtain⟨FB,oz⟩:=EA
 try dsimp only
 refine qq<|sr<|mv Y<|mv Y<|mv Y<|bE h λgY mY h=>ix Y Y mY<|lr Y Y<|lE h λig nV h=>ln Y nV<|lE h λg9 pU h=>ls _ Y Y pU<|dn ?_;cases g9;refine cF<|bT<|aV.x<|aV.x<|bD.x<|aV.n ?_;obtain rfl:=O (F h);exact⟨FB,Qb _ Y,wR []⟩;refine cT<|bu<|aV.n<|qq<|bg<|aY mixed<|mv Y<|lE (V h) λn9 vz h=>ad _ Y Y vz<|mv Y<|mv Y<|bE h λnR wo h=>ix Y Y wo<|lr Y Y<|mv Y ?_;obtain⟨⟨⟨Ar,wz⟩,⟨NC,ND⟩⟩,rG,h⟩:=bS h;refine ix Y Y rG<|RT.oN .none Y T Y<|RT.oN .none Y T Y<|lr Y Y<|lE h λsu yw h=>ln Y yw<|lE h λuX zR h=>RT.min .none _ Y Y T (DU (p:=100) (q:=su) zR)<|lE h λnS uY h=>ad _ Y Y uY<|mv Y<|mv Y<|bE h λB6 Fu h=>ix Y Y Fu<|lr Y Y<|mv Y ?_;obtain⟨⟨⟨NF,NG⟩,⟨NH,FC⟩⟩,h46,h⟩:=bS h;refine ix Y Y h46<|RT.oN .none Y T Y<|RT.oN .none Y T Y<|lr Y Y<|lE h λvo Gw h=>ln Y Gw<|lE h λGj K1 h=>RT.min .none _ Y Y T (DU (p:=100) (q:=vo) K1)<|lE h λCy K6 h=>ad _ Y Y K6<|ag Y ?_;refine RT.done ⟨by kernel_rfl,?_⟩;refine bD.n<|aV.n<|aW<|mv Y<|lE h λgR nW h=>ad _ Y Y nW<|ag Y<|RT.done ?_;obtain rfl:=O h;exact aV.n ⟨(Cy,gR),Qa _ Y,wR []⟩;subst P9
 try dsimp only
 refine aV.n<|sr<|mv Y<|lE z4 λEc MN z4=>gt _ Y Y MN<|dn ?_;cases Ec;refine cF<|bu<|bD.n<|aV.n<|aW<|mv Y<|lE (F z4) λeG jh z4=>ad _ Y Y jh<|ag Y<|RT.done ?_;obtain rfl:=O z4;exact aV.n ⟨(wH,eG),Jh _ Y,wR []⟩;refine cT<|sr<|ag Y<|dn<|bf<|bD.r<|aV.r ?_;obtain rfl:=O (V z4);have Qg:=EG _ Y;subst Qg;refine aV.r<|bD.r<|aV.r<|aV.r ?_;obtain rfl:=O yX;exact R1 Y;refine cT<|sr<|ag Y<|dn<|bf<|aV.r<|bD.r<|aV.r ?_;obtain rfl:=O (V h);have Qg:=EG _ Y;subst Qg;refine aV.r<|bD.r<|aV.r<|aV.r ?_;obtain rfl:=O yX;exact R1 Y;subst Bz
 try dsimp only
 refine aV.n<|sr<|ag Y<|dn<|bf ?_;obtain rfl:=O yX;exact R1 Y
end
section
open Go.Fw
noncomputable def iH(x0:Qr)(x1:Int):Option (Bool):=match x0 with|⟨⟨bC,bA⟩,⟨cD,cE⟩⟩=>(cK x1).bind λ⟨⟨ng,nh⟩,⟨qK,qL⟩⟩=>(iQ ⟨⟨bC,bA⟩,⟨cD,cE⟩⟩ ⟨⟨ng,nh⟩,⟨qK,qL⟩⟩).bind λx8=>some x8
noncomputable def gE(x0:List Qr)(x1:List Int):Option (Bool):=(some (x0.length:Int)).bind λx7=>(some (x1.length:Int)).bind λx9=>(some (decide ((x7:Int)≠x9))).bind λew=>(bif ew then some false else(b9 (λ(jw:Int)=>(show Option ((Int)⊕((Unit)⊕(Bool)))from(some (x1.length:Int)).bind λjv=>(some (decide ((jw:Int)<jv))).bind λgw=>(bif gw then(cm x0 jw).bind λ⟨⟨jn,jo⟩,⟨ua,uc⟩⟩=>(cm x1 jw).bind λig=>(iH ⟨⟨jn,jo⟩,⟨ua,uc⟩⟩ ig).bind λjC=>(some (!jC)).bind λgR=>(bif gR then some (.inr (.inr false))else(some (IntKind.i64.wrap (jw+1))).bind λfX=>some (.inl fX))else some (.inr (.inl ()))))) 0).bind λe6=>match e6 with|.inr v6=>some v6|.inl _=>some true)
noncomputable def fU:Option (Bool):=(cG [20]).bind λfX=>(cG [0,(-1)]).bind λeF=>(cG [5]).bind λgY=>(fG [0,0] fX [eF] gY).bind λ⟨Tp,Tq⟩=>(fS [0,0] fX [eF] gY).bind λmK=>(cK 8).bind λ⟨⟨pD,pE⟩,⟨pG,pH⟩⟩=>(c8 mK 0 1 ⟨⟨pD,pE⟩,⟨pG,pH⟩⟩).bind λ⟨⟨⟨Jm,Jn⟩,⟨Jo,Jp⟩⟩,Qh⟩=>(cK 8).bind λ⟨⟨Ay,Az⟩,⟨AA,AB⟩⟩=>(c8 mK 0 2 ⟨⟨Ay,Az⟩,⟨AA,AB⟩⟩).bind λ⟨⟨⟨Qi,Qj⟩,⟨Qk,Ql⟩⟩,EI⟩=>(jI mK).bind λ⟨EJ,EK⟩=>cj (λ(NI:Bool)=>some NI) λK66=>(gE Tp [20,20]).bind λEc=>(bif Ec then(gE Tq [0,5]).bind λFq=>some Fq else some false).bind λJq=>(bif Jq then(gE mK [20,25]).bind λDF=>some DF else some false).bind λLj=>(bif Lj then(cG [8,(-8)]).bind λGl=>(gC mK Gl).bind λ⟨⟨NJ,NK⟩,⟨NL,NM⟩⟩=>(iH ⟨⟨NJ,NK⟩,⟨NL,NM⟩⟩ 40).bind λOY=>some OY else some false).bind λLk=>(bif Lk then(cG [8]).bind λx75=>(iF gY x75).bind λ⟨⟨Dd,De⟩,⟨Df,Dg⟩⟩=>(iH ⟨⟨Dd,De⟩,⟨Df,Dg⟩⟩ 40).bind λQm=>some Qm else some false).bind λLl=>(bif Ll then(some (decide ((Qh:Int)=0))).bind λP5=>some P5 else some false).bind λLm=>(bif Lm then(iH ⟨⟨Jm,Jn⟩,⟨Jo,Jp⟩⟩ 40).bind λKW=>some KW else some false).bind λLn=>(bif Ln then(some (decide ((EI:Int)=1))).bind λIl=>some Il else some false).bind λLo=>(bif Lo then(some (decide ((EJ:Int)=0))).bind λO1=>some O1 else some false).bind λLp=>(bif Lp then(some (decide ((EK:Int)=1))).bind λRl=>some Rl else some false).bind λLq=>(bif Lq then(cG [8]).bind λIm=>(cG [8]).bind λBe=>(kV 2 [0] [1] Im Be).bind λGp=>(gE Gp [8,(-8)]).bind λQn=>some Qn else some false).bind λJr=>K66 Jr
noncomputable def eI(x0:List Qr)(x1:List Qr)(x2:Int)(x3:Int)(x4:Qr):Option (Bool):=match x4 with|⟨⟨rJ,rK⟩,⟨GS,GU⟩⟩=>(kz [x0,x1,[⟨⟨rJ,rK⟩,⟨GS,GU⟩⟩]]).bind λg9=>(bif g9 then(fU).bind λjC=>some jC else(c8 x0 x2 x3 ⟨⟨rJ,rK⟩,⟨GS,GU⟩⟩).bind λ⟨⟨⟨Js,Jt⟩,⟨Ju,Jv⟩⟩,Qo⟩=>(eV x0 x2 x3 ⟨⟨rJ,rK⟩,⟨GS,GU⟩⟩).bind λ⟨⟨⟨Jw,Jx⟩,⟨Jy,Jz⟩⟩,Qp⟩=>(jI x0).bind λ⟨Qq,EI⟩=>(kx x0).bind λ⟨EJ,EK⟩=>cj (λ(JA:Bool)=>some JA) λK28=>(some (decide ((Qo:Int)=Qp))).bind λEc=>(bif Ec then(iG ⟨⟨Js,Jt⟩,⟨Ju,Jv⟩⟩ ⟨⟨Jw,Jx⟩,⟨Jy,Jz⟩⟩).bind λFq=>some Fq else some false).bind λJB=>(bif JB then(some (decide ((Qq:Int)=EJ))).bind λDF=>some DF else some false).bind λQs=>(bif Qs then(some (decide ((EI:Int)=EK))).bind λGl=>some Gl else some false).bind λQt=>(bif Qt then(gC x0 x1).bind λ⟨⟨NN,NO⟩,⟨NP,NQ⟩⟩=>(ku x0 x1).bind λ⟨⟨Dd,De⟩,⟨Df,Dg⟩⟩=>(iG ⟨⟨NN,NO⟩,⟨NP,NQ⟩⟩ ⟨⟨Dd,De⟩,⟨Df,Dg⟩⟩).bind λQm=>some Qm else some false).bind λQu=>(bif Qu then(iF x0 x1).bind λ⟨⟨NR,NS⟩,⟨NT,NU⟩⟩=>(jS x0 x1).bind λ⟨⟨NV,NW⟩,⟨NX,NY⟩⟩=>(iG ⟨⟨NR,NS⟩,⟨NT,NU⟩⟩ ⟨⟨NV,NW⟩,⟨NX,NY⟩⟩).bind λD5=>some D5 else some false).bind λQv=>(bif Qv then(fU).bind λIl=>some Il else some false).bind λQw=>K28 Qw)
end
section
open Go.Fw Go.Fw.Z Go.RowKit
theorem nM{x0:Qr}{x1:Int}{r:Bool}(h:iH x0 x1=some r):Pure ah 20 [.agg (eQ x0),ay x1] (az r):=by
 obtain⟨⟨bC,bA⟩,⟨cD,cE⟩⟩:=x0;refine bk Tryz.func20 Y (af Y) (λdI M vs hvs=>?_);unfold iH at h;refine sr<|bx Y<|ag Y<|dn<|qq<|aY mixed<|ld Y Y (.k4 Y Y Y Y)<|mv Y ?_;obtain⟨⟨⟨ng,nh⟩,⟨qK,qL⟩⟩,h7,h⟩:=bS h;refine cl (ia h7) ⟨Y,aq⟩<|bE h λx8 h8 h=>cl (zV h8) ⟨Y,Y,aq⟩<|ag Y ?_;refine RT.done ⟨by kernel_rfl,?_⟩;refine aV.n<|bf ?_;obtain rfl:=O h;exact R1 Y
theorem mH{x0:List Qr}{x1:List Int}{r:Bool}(h:gE x0 x1=some r):Pure ah 19 [slc 4 (List.map eQ x0),slc 1 (List.map bB x1)] (az r):=by
 refine bk Tryz.func19 Y (af Y) (λdI M vs hvs=>?_);unfold gE at h;refine sr<|ag Y<|dn<|qq<|sr<|mv Y<|lE h λx7 h7 h=>ln Y h7<|mv Y<|lE h λx9 h9 h=>ln Y h9<|lE h λew ic h=>ne _ Y Y (Kb (p:=x7) (q:=x9) ic)<|dn ?_;cases ew;refine fs<|qq<|sr<|ag Y<|dn<|bE (F h) λe6 zM jW=>?_;refine bL (λ(pB:Unit)=>AS.cw 27 [] [] []) (λpB=>.inl pB=e6) ?_ (λpB zN=>?_);refine bg ?_;refine bM zM (λs6=>AS.cw 27 [(0,.sv (slc 4 (List.map eQ x0))),(1,.sv (slc 1 (List.map bB x1))),(5,ai s6)] [] []) (wR []) (λjw y6 G6 h zO wm=>?_)
 try dsimp only
 refine qq<|sr<|mv Y<|mv Y<|lE h λjv kF h=>ln Y kF<|lE h λgw lW h=>ls _ Y Y lW<|dn ?_;cases gw;refine cF<|bT<|aV.x<|aV.x<|bD.x<|aV.n ?_;obtain rfl:=O (F h);exact⟨(),wm _ Y,wR []⟩;refine cT<|bu<|aV.n<|qq<|bg<|qq<|aY mixed<|mv Y<|mv Y ?_;obtain⟨⟨⟨jn,jo⟩,⟨ua,uc⟩⟩,mB,h⟩:=bS (V h);refine ix Y Y mB<|RT.ik (cs:=[_,_,_,_]) .none Y T Y Y<|mv Y<|mv Y<|bE h λig nV h=>ix Y Y nV<|lr Y Y<|bE h λjC mZ h=>cl (nM mZ) ⟨Y,Y,aq⟩<|lE h λgR nW h=>nt Y _ nW ?_;refine RT.done ⟨by kernel_rfl,?_⟩;refine aV.n ?_;cases gR;refine cF<|bu<|bD.n<|aV.n<|aW<|mv Y<|lE (F h) λfX iw h=>ad _ Y Y iw<|ag Y<|RT.done ?_;obtain rfl:=O h;exact aV.n ⟨fX,zO _ Y,wR []⟩;refine cT<|sr<|ag Y<|dn<|bf<|bD.r<|aV.r ?_;obtain rfl:=O (V h);have KY:=wm _ Y;subst KY;refine aV.r<|bD.r<|aV.r<|aV.r ?_;obtain rfl:=O jW;exact R1 Y;subst zN
 try dsimp only
 refine aV.n<|sr<|ag Y<|dn<|bf ?_;obtain rfl:=O jW;exact R1 Y;refine cT<|sr<|ag Y<|dn<|bf<|aV.r ?_;obtain rfl:=O (V h);exact R1 Y
set_option maxHeartbeats 4000000 in
theorem qP{r:Bool}(h:fU=some r):Pure ah 5 [] (az r):=by
 refine bk Tryz.func5 Y (af Y) (λdI M vs hvs=>?_);unfold fU at h;refine sr<|ag Y<|dn<|sr<|bl (l:=[0,0]) (e:=bB) (.one Y (.one Y (.nil))) Y Y Y Y Y Y<|bl (l:=[20]) (e:=bB) (.one Y (.nil)) Y Y Y Y Y Y<|bE h λfX iw h=>cl (er iw) ⟨Y,aq⟩<|bl (l:=[0,(-1)]) (e:=bB) (.one Y (.one Y (.nil))) Y Y Y Y Y Y<|bE h λeF ji h=>cl (er ji) ⟨Y,aq⟩<|bl (l:=[eF]) (e:=(eS 4 eQ)) (.one Y (.nil)) Y Y Y Y Y Y ?_;refine bl (l:=[5]) (e:=bB) (.one Y (.nil)) Y Y Y Y Y Y<|bE h λgY mY h=>cl (er mY) ⟨Y,aq⟩<|ag Y<|ag Y<|ag Y<|ag Y<|dn<|sr<|mv Y<|mv Y<|mv Y<|mv Y ?_;obtain⟨⟨Tp,Tq⟩,oJ,h⟩:=bS h;refine cl (zW oJ) ⟨Y,Y,Y,Y,aq⟩<|mv Y<|ex Y Y<|ex Y Y<|ag Y<|ag Y<|dn<|sr<|mv Y<|mv Y<|mv Y<|mv Y<|bE h λmK rG h=>cl (yT rG) ⟨Y,Y,Y,Y,aq⟩<|ag Y<|dn<|sr<|mv Y ?_;obtain⟨⟨⟨pD,pE⟩,⟨pG,pH⟩⟩,yy,h⟩:=bS h;refine cl (ia yy) ⟨Y,aq⟩ ?_;obtain⟨⟨⟨⟨Jm,Jn⟩,⟨Jo,Jp⟩⟩,Qh⟩,yw,h⟩:=bS h;refine cl (nY yw) ⟨Y,Y,Y,Y,aq⟩<|mv Y<|ex Y Y<|ex Y Y<|al (cs:=[az false,ax,az false,ax]) (by exact⟨au,aB,au,aB,aq⟩) Y<|so Y Y Y<|ag Y<|dn<|sr<|mv Y ?_;obtain⟨⟨⟨Ay,Az⟩,⟨AA,AB⟩⟩,Fu,h⟩:=bS h;refine cl (ia Fu) ⟨Y,aq⟩ ?_;obtain⟨⟨⟨⟨Qi,Qj⟩,⟨Qk,Ql⟩⟩,EI⟩,CL,h⟩:=bS h
 refine cl (nY CL) ⟨Y,Y,Y,Y,aq⟩<|mv Y<|ex Y Y<|ex Y Y<|al (cs:=[az false,ax,az false,ax]) (by exact⟨au,aB,au,aB,aq⟩) Y<|so Y Y Y<|ag Y<|dn<|sr<|mv Y ?_;obtain⟨⟨EJ,EK⟩,K0,h⟩:=bS h;refine cl (uj K0) ⟨Y,aq⟩<|mv Y<|ex Y Y<|ex Y Y<|ag Y<|ag Y<|dn<|qq ?_;refine bG h (λj66=>AS.cw 110 [(0,aj j66)] [] []) (λh=>?_) (λNI h=>?_);refine aW<|mv Y<|bl (l:=[20,20]) (e:=bB) (.one Y (.one Y (.nil))) Y Y Y Y Y Y<|bE h λEc MN h=>cl (mH MN) ⟨Y,Y,aq⟩<|mv Y<|bE h λJq Lr h=>?_;cases Ec;obtain rfl:=O (F Lr);refine ww<|ww<|ww<|pF Y<|mv Y<|bE h λUL Tr h=>?_;obtain rfl:=O (F Tr);refine ww<|ww<|ww<|pF Y<|mv Y<|bE h λUM Ts h=>?_;obtain rfl:=O (F Ts);refine ww<|ww<|ww<|ww<|ww<|pF Y<|mv Y<|bE h λUN Tt h=>?_;obtain rfl:=O (F Tt);refine ww<|ww<|ww<|ww<|ww<|pF Y<|mv Y<|bE h λUO Tu h=>?_;obtain rfl:=O (F Tu);refine ww<|ww<|pF Y<|mv Y<|bE h λUP Tv h=>?_;obtain rfl:=O (F Tv);refine ww<|ww<|pF Y<|mv Y<|bE h λUQ Tw h=>?_;obtain rfl:=O (F Tw);refine ww<|ww<|pF Y<|mv Y<|bE h λUR Tx h=>?_;obtain rfl:=O (F Tx);refine ww<|ww<|pF Y<|mv Y<|bE h λUS Ty h=>?_;obtain rfl:=O (F Ty);refine ww<|ww<|pF Y<|mv Y<|bE h λTz TA h=>?_;obtain rfl:=O (F TA);exact ww<|ww<|ww<|ww<|ww<|ww<|ww<|ww<|ww<|pF Y<|ag Y<|dn<|⟨false,h,wR []⟩
 refine gm Y<|RT.kY (l:=[0,5]) (e:=bB) (.some Y Y) (.one Y (.one Y (.nil))) T Y Y Y Y Y Y<|bE (V Lr) λFq Pa Lr=>gc (mH Pa) ⟨Y,Y,aq⟩ ?_;obtain rfl:=O Lr;refine pT Y<|mv Y<|bE h λYG Ls h=>?_;cases Fq;obtain rfl:=O (F Ls);refine ww<|ww<|ww<|pF Y<|mv Y<|bE h λUT TB h=>?_;obtain rfl:=O (F TB);refine ww<|ww<|ww<|ww<|ww<|pF Y<|mv Y<|bE h λUU TC h=>?_;obtain rfl:=O (F TC);refine ww<|ww<|ww<|ww<|ww<|pF Y<|mv Y<|bE h λUW TD h=>?_;obtain rfl:=O (F TD);refine ww<|ww<|pF Y<|mv Y<|bE h λUX TE h=>?_;obtain rfl:=O (F TE);refine ww<|ww<|pF Y<|mv Y<|bE h λUY TF h=>?_;obtain rfl:=O (F TF);refine ww<|ww<|pF Y<|mv Y<|bE h λUZ TG h=>?_;obtain rfl:=O (F TG);refine ww<|ww<|pF Y<|mv Y<|bE h λU0 TH h=>?_;obtain rfl:=O (F TH);refine ww<|ww<|pF Y<|mv Y<|bE h λTI TJ h=>?_;obtain rfl:=O (F TJ);exact ww<|ww<|ww<|ww<|ww<|ww<|ww<|ww<|ww<|pF Y<|ag Y<|dn<|⟨false,h,wR []⟩;refine gm Y<|RT.kY (l:=[20,25]) (e:=bB) (.some Y Y) (.one Y (.one Y (.nil))) T Y Y Y Y Y Y<|bE (V Ls) λDF h63 Ls=>gc (mH h63) ⟨Y,Y,aq⟩ ?_;obtain rfl:=O Ls;refine pT Y<|mv Y<|bE h λYH Dh h=>?_;cases DF;obtain rfl:=O (F Dh);refine ww<|ww<|ww<|ww<|ww<|pF Y<|mv Y<|bE h λYI YJ h=>?_;obtain rfl:=O (F YJ)
 refine ww<|ww<|ww<|ww<|ww<|pF Y<|mv Y<|bE h λYK YL h=>?_;obtain rfl:=O (F YL);refine ww<|ww<|pF Y<|mv Y<|bE h λU1 TK h=>?_;obtain rfl:=O (F TK);refine ww<|ww<|pF Y<|mv Y<|bE h λU3 TL h=>?_;obtain rfl:=O (F TL);refine ww<|ww<|pF Y<|mv Y<|bE h λU4 TM h=>?_;obtain rfl:=O (F TM);refine ww<|ww<|pF Y<|mv Y<|bE h λU5 TN h=>?_;obtain rfl:=O (F TN);refine ww<|ww<|pF Y<|mv Y<|bE h λTO TP h=>?_;obtain rfl:=O (F TP);exact ww<|ww<|ww<|ww<|ww<|ww<|ww<|ww<|ww<|pF Y<|ag Y<|dn<|⟨false,h,wR []⟩;refine gm Y<|RT.kY (l:=[8,(-8)]) (e:=bB) (.some Y Y) (.one Y (.one Y (.nil))) T Y Y Y Y Y Y<|bE (V Dh) λGl Pb Dh=>gc (er Pb) ⟨Y,aq⟩ ?_;obtain⟨⟨⟨NJ,NK⟩,⟨NL,NM⟩⟩,W7,Dh⟩:=bS Dh;refine gc (uh W7) ⟨Y,Y,aq⟩<|bE Dh λOY Xf Dh=>gc (nM Xf) ⟨Y,Y,aq⟩ ?_;obtain rfl:=O Dh;refine pT Y<|mv Y<|bE h λYM Di h=>?_;cases OY;obtain rfl:=O (F Di);refine ww<|ww<|ww<|ww<|ww<|pF Y<|mv Y<|bE h λYN YO h=>?_;obtain rfl:=O (F YO);refine ww<|ww<|pF Y<|mv Y<|bE h λYP YQ h=>?_;obtain rfl:=O (F YQ);refine ww<|ww<|pF Y<|mv Y<|bE h λYR YS h=>?_;obtain rfl:=O (F YS);refine ww<|ww<|pF Y<|mv Y<|bE h λYT YU h=>?_;obtain rfl:=O (F YU);refine ww<|ww<|pF Y<|mv Y<|bE h λYV YW h=>?_;obtain rfl:=O (F YW);refine ww<|ww<|pF Y<|mv Y<|bE h λU6 YX h=>?_
 obtain rfl:=O (F YX);exact ww<|ww<|ww<|ww<|ww<|ww<|ww<|ww<|ww<|pF Y<|ag Y<|dn<|⟨false,h,wR []⟩;refine gm Y<|RT.kY (l:=[8]) (e:=bB) (.some Y Y) (.one Y (.nil)) T Y Y Y Y Y Y<|bE (V Di) λx75 h75 Di=>gc (er h75) ⟨Y,aq⟩ ?_;obtain⟨⟨⟨Dd,De⟩,⟨Df,Dg⟩⟩,Tk,Di⟩:=bS Di;refine gc (wF Tk) ⟨Y,Y,aq⟩<|bE Di λQm YY Di=>gc (nM YY) ⟨Y,Y,aq⟩ ?_;obtain rfl:=O Di;refine pT Y<|mv Y<|bE h λYZ Lt h=>?_;cases Qm;obtain rfl:=O (F Lt);refine ww<|ww<|pF Y<|mv Y<|bE h λY0 Y1 h=>?_;obtain rfl:=O (F Y1);refine ww<|ww<|pF Y<|mv Y<|bE h λY2 Y3 h=>?_;obtain rfl:=O (F Y3);refine ww<|ww<|pF Y<|mv Y<|bE h λY4 Y5 h=>?_;obtain rfl:=O (F Y5);refine ww<|ww<|pF Y<|mv Y<|bE h λY6 Y7 h=>?_;obtain rfl:=O (F Y7);refine ww<|ww<|pF Y<|mv Y<|bE h λU7 Y8 h=>?_;obtain rfl:=O (F Y8);exact ww<|ww<|ww<|ww<|ww<|ww<|ww<|ww<|ww<|pF Y<|ag Y<|dn<|⟨false,h,wR []⟩;refine gm Y<|lE (V Lt) λP5 Ys Lt=>Ic _ Y Y (uU (p:=Qh) (q:=0) Ys) ?_;obtain rfl:=O Lt;refine pT Y<|mv Y<|bE h λY9 Lu h=>?_;cases P5;obtain rfl:=O (F Lu);refine ww<|ww<|pF Y<|mv Y<|bE h λZa Zb h=>?_;obtain rfl:=O (F Zb);refine ww<|ww<|pF Y<|mv Y<|bE h λZc Zd h=>?_;obtain rfl:=O (F Zd);refine ww<|ww<|pF Y<|mv Y<|bE h λZe Zf h=>?_;obtain rfl:=O (F Zf)
 refine ww<|ww<|pF Y<|mv Y<|bE h λU8 Zg h=>?_;obtain rfl:=O (F Zg);exact ww<|ww<|ww<|ww<|ww<|ww<|ww<|ww<|ww<|pF Y<|ag Y<|dn<|⟨false,h,wR []⟩;refine gl Y Y (.k4 Y Y Y Y)<|bE (V Lu) λKW Ph Lu=>gc (nM Ph) ⟨Y,Y,aq⟩ ?_;obtain rfl:=O Lu;refine pT Y<|mv Y<|bE h λZh Lv h=>?_;cases KW;obtain rfl:=O (F Lv);refine ww<|ww<|pF Y<|mv Y<|bE h λZi Zj h=>?_;obtain rfl:=O (F Zj);refine ww<|ww<|pF Y<|mv Y<|bE h λZk Zl h=>?_;obtain rfl:=O (F Zl);refine ww<|ww<|pF Y<|mv Y<|bE h λU9 Zm h=>?_;obtain rfl:=O (F Zm);exact ww<|ww<|ww<|ww<|ww<|ww<|ww<|ww<|ww<|pF Y<|ag Y<|dn<|⟨false,h,wR []⟩;refine gm Y<|lE (V Lv) λIl S3 Lv=>Ic _ Y Y (uU (p:=EI) (q:=1) S3) ?_;obtain rfl:=O Lv;refine pT Y<|mv Y<|bE h λZn Lw h=>?_;cases Il;obtain rfl:=O (F Lw);refine ww<|ww<|pF Y<|mv Y<|bE h λZo Zp h=>?_;obtain rfl:=O (F Zp);refine ww<|ww<|pF Y<|mv Y<|bE h λVc Zq h=>?_;obtain rfl:=O (F Zq);exact ww<|ww<|ww<|ww<|ww<|ww<|ww<|ww<|ww<|pF Y<|ag Y<|dn<|⟨false,h,wR []⟩;refine gm Y<|lE (V Lw) λO1 Xn Lw=>Ic _ Y Y (uU (p:=EJ) (q:=0) Xn) ?_;obtain rfl:=O Lw;refine pT Y<|mv Y<|bE h λZs Lx h=>?_;cases O1;obtain rfl:=O (F Lx);refine ww<|ww<|pF Y<|mv Y<|bE h λVd Zt h=>?_;obtain rfl:=O (F Zt)
 exact ww<|ww<|ww<|ww<|ww<|ww<|ww<|ww<|ww<|pF Y<|ag Y<|dn<|⟨false,h,wR []⟩;refine gm Y<|lE (V Lx) λRl Xo Lx=>Ic _ Y Y (uU (p:=EK) (q:=1) Xo) ?_;obtain rfl:=O Lx;refine pT Y<|mv Y<|bE h λVe z9 h=>?_;cases Rl;obtain rfl:=O (F z9);exact ww<|ww<|ww<|ww<|ww<|ww<|ww<|ww<|ww<|pF Y<|ag Y<|dn<|⟨false,h,wR []⟩;refine RT.kY (l:=[0]) (e:=bB) (.some Y Y) (.one Y (.nil)) T Y Y Y Y Y Y<|RT.kY (l:=[1]) (e:=bB) (.some Y Y) (.one Y (.nil)) T Y Y Y Y Y Y<|RT.kY (l:=[8]) (e:=bB) (.some Y Y) (.one Y (.nil)) T Y Y Y Y Y Y<|bE (V z9) λIm Pk z9=>gc (er Pk) ⟨Y,aq⟩<|RT.kY (l:=[8]) (e:=bB) (.some Y Y) (.one Y (.nil)) T Y Y Y Y Y Y<|bE z9 λBe Iv z9=>gc (er Iv) ⟨Y,aq⟩ ?_;refine bE z9 λGp Pn z9=>gc (Et Pn) ⟨Y,Y,Y,Y,Y,aq⟩<|RT.kY (l:=[8,(-8)]) (e:=bB) (.some Y Y) (.one Y (.one Y (.nil))) T Y Y Y Y Y Y<|bE z9 λQn Zu z9=>gc (mH Zu) ⟨Y,Y,aq⟩ ?_;obtain rfl:=O z9;exact pT Y<|ag Y<|dn<|⟨Qn,h,wR []⟩
 try dsimp only
 refine aV.n<|bf ?_;obtain rfl:=O h;exact R1 Y
end
section
open Go.Fw Go.Fw.Z Go.RowKit
theorem oA{x0:List Qr}{x1:List Qr}{x2:Int}{x3:Int}{x4:Qr}{r:Bool}(h:eI x0 x1 x2 x3 x4=some r):Pure ah 3 [slc 4 (List.map eQ x0),slc 4 (List.map eQ x1),.v (.int .i64 x2),.v (.int .i64 x3),.agg (eQ x4)] (.v (.bool r)):=by
 obtain⟨⟨rJ,rK⟩,⟨GS,GU⟩⟩:=x4;refine bk Tryz.func3 Y (af Y) (λdI M vs hvs=>?_);unfold eI at h;refine sr<|bx Y<|ag Y<|dn<|qq<|sr<|mv Y<|mv Y<|ld Y Y (.cons Y (.cons Y (.cons Y (.cons Y (.nil)))))<|bl (l:=[⟨⟨rJ,rK⟩,⟨GS,GU⟩⟩]) (e:=eQ) (.agg Y (.nil)) Y Y Y Y Y Y<|bl (l:=[x0,x1,[⟨⟨rJ,rK⟩,⟨GS,GU⟩⟩]]) (e:=(eS 4 eQ)) (.one Y (.one Y (.one Y (.nil)))) Y Y Y Y Y Y<|bE h λg9 pU h=>cl (z8 pU) ⟨Y,aq⟩<|RT.done ?_;refine aV.n ?_;cases g9;refine fs<|sr<|mv Y<|mv Y<|mv Y<|ld Y Y (.cons Y (.cons Y (.cons Y (.cons Y (.nil))))) ?_;obtain⟨⟨⟨⟨Js,Jt⟩,⟨Ju,Jv⟩⟩,Qo⟩,wo,h⟩:=bS (F h);refine cl (nY wo) ⟨Y,Y,Y,Y,aq⟩<|mv Y<|ex Y Y<|ex Y Y<|al (cs:=[.v (.bool false),slc 1 (List.map aX []),.v (.bool false),slc 1 (List.map aX [])]) (by exact⟨au,aB,au,aB,aq⟩) Y<|so Y Y Y<|ag Y<|dn<|sr<|mv Y<|mv Y<|mv Y<|ld Y Y (.cons Y (.cons Y (.cons Y (.cons Y (.nil))))) ?_;obtain⟨⟨⟨⟨Jw,Jx⟩,⟨Jy,Jz⟩⟩,Qp⟩,zR,h⟩:=bS h;refine cl (y4 zR) ⟨Y,Y,Y,Y,aq⟩<|mv Y<|ex Y Y<|ex Y Y<|al (cs:=[.v (.bool false),slc 1 (List.map aX []),.v (.bool false),slc 1 (List.map aX [])]) (by exact⟨au,aB,au,aB,aq⟩) Y<|so Y Y Y<|ag Y<|dn<|sr<|mv Y ?_;obtain⟨⟨Qq,EI⟩,CL,h⟩:=bS h;refine cl (uj CL) ⟨Y,aq⟩<|mv Y<|ex Y Y<|ex Y Y<|ag Y<|ag Y<|dn<|sr<|mv Y ?_
 obtain⟨⟨EJ,EK⟩,K0,h⟩:=bS h;refine cl (z7 K0) ⟨Y,aq⟩<|mv Y<|ex Y Y<|ex Y Y<|ag Y<|ag Y<|dn<|qq ?_;refine bG h (λj28=>AS.cw 91 [(10,.sv (.v (.bool j28)))] [] []) (λh=>?_) (λJA h=>?_);refine aW<|mv Y<|mv Y<|lE h λEc MN h=>eq _ Y Y (uU (p:=Qo) (q:=Qp) MN)<|mv Y<|bE h λJB Bo h=>?_;cases Ec;obtain rfl:=O (F Bo);refine ww<|ww<|ww<|pF Y<|mv Y<|bE h λZv Zw h=>?_;obtain rfl:=O (F Zw);refine ww<|ww<|ww<|pF Y<|mv Y<|bE h λZx Zy h=>?_;obtain rfl:=O (F Zy);refine ww<|ww<|ww<|pF Y<|mv Y<|bE h λZz ZA h=>?_;obtain rfl:=O (F ZA);refine ww<|ww<|ww<|ww<|ww<|ww<|ww<|pF Y<|mv Y<|bE h λZB ZC h=>?_;obtain rfl:=O (F ZC);refine ww<|ww<|ww<|ww<|ww<|ww<|ww<|pF Y<|mv Y<|bE h λZD ZE h=>?_;obtain rfl:=O (F ZE);exact ww<|pF Y<|ag Y<|dn<|⟨false,h,wR []⟩;refine gl Y Y (.cons Y (.cons Y (.cons Y (.cons Y (.nil)))))<|gl Y Y (.cons Y (.cons Y (.cons Y (.cons Y (.nil)))))<|bE (V Bo) λFq Pa Bo=>gc (qO Pa) ⟨Y,Y,aq⟩ ?_;obtain rfl:=O Bo;refine pT Y<|mv Y<|bE h λZF Bp h=>?_;cases Fq;obtain rfl:=O (F Bp);refine ww<|ww<|ww<|pF Y<|mv Y<|bE h λZG PJ h=>?_;obtain rfl:=O (F PJ);refine ww<|ww<|ww<|pF Y<|mv Y<|bE h λZH ZI h=>?_;obtain rfl:=O (F ZI);refine ww<|ww<|ww<|ww<|ww<|ww<|ww<|pF Y<|mv Y<|bE h λZJ ZK h=>?_
 obtain rfl:=O (F ZK);refine ww<|ww<|ww<|ww<|ww<|ww<|ww<|pF Y<|mv Y<|bE h λZL ZM h=>?_;obtain rfl:=O (F ZM);exact ww<|pF Y<|ag Y<|dn<|⟨false,h,wR []⟩;refine gm Y<|gm Y<|lE (V Bp) λDF h63 Bp=>Ic _ Y Y (uU (p:=Qq) (q:=EJ) h63) ?_;obtain rfl:=O Bp;refine pT Y<|mv Y<|bE h λZN Bq h=>?_;cases DF;obtain rfl:=O (F Bq);refine ww<|ww<|ww<|pF Y<|mv Y<|bE h λZO PF h=>?_;obtain rfl:=O (F PF);refine ww<|ww<|ww<|ww<|ww<|ww<|ww<|pF Y<|mv Y<|bE h λZP PG h=>?_;obtain rfl:=O (F PG);refine ww<|ww<|ww<|ww<|ww<|ww<|ww<|pF Y<|mv Y<|bE h λZQ PI h=>?_;obtain rfl:=O (F PI);exact ww<|pF Y<|ag Y<|dn<|⟨false,h,wR []⟩;refine gm Y<|gm Y<|lE (V Bq) λGl Pb Bq=>Ic _ Y Y (uU (p:=EI) (q:=EK) Pb) ?_;obtain rfl:=O Bq;refine pT Y<|mv Y<|bE h λZR zT h=>?_;cases Gl;obtain rfl:=O (F zT);refine ww<|ww<|ww<|ww<|ww<|ww<|ww<|pF Y<|mv Y<|bE h λZS PD h=>?_;obtain rfl:=O (F PD);refine ww<|ww<|ww<|ww<|ww<|ww<|ww<|pF Y<|mv Y<|bE h λZT PE h=>?_;obtain rfl:=O (F PE);exact ww<|pF Y<|ag Y<|dn<|⟨false,h,wR []⟩;refine gm Y<|gm Y ?_;obtain⟨⟨⟨NN,NO⟩,⟨NP,NQ⟩⟩,Yn,zT⟩:=bS (V zT);refine gc (uh Yn) ⟨Y,Y,aq⟩<|gm Y<|gm Y ?_;obtain⟨⟨⟨Dd,De⟩,⟨Df,Dg⟩⟩,Tk,zT⟩:=bS zT;refine gc (z6 Tk) ⟨Y,Y,aq⟩<|bE zT λQm YY zT=>gc (qO YY) ⟨Y,Y,aq⟩ ?_;obtain rfl:=O zT
 refine pT Y<|mv Y<|bE h λZU zU h=>?_;cases Qm;obtain rfl:=O (F zU);refine ww<|ww<|ww<|ww<|ww<|ww<|ww<|pF Y<|mv Y<|bE h λZV PC h=>?_;obtain rfl:=O (F PC);exact ww<|pF Y<|ag Y<|dn<|⟨false,h,wR []⟩;refine gm Y<|gm Y ?_;obtain⟨⟨⟨NR,NS⟩,⟨NT,NU⟩⟩,h82,zU⟩:=bS (V zU);refine gc (wF h82) ⟨Y,Y,aq⟩<|gm Y<|gm Y ?_;obtain⟨⟨⟨NV,NW⟩,⟨NX,NY⟩⟩,Ph,zU⟩:=bS zU;refine gc (uE Ph) ⟨Y,Y,aq⟩<|bE zU λD5 S0 zU=>gc (qO S0) ⟨Y,Y,aq⟩ ?_;obtain rfl:=O zU;refine pT Y<|mv Y<|bE h λZW GI h=>?_;cases D5;obtain rfl:=O (F GI);exact ww<|pF Y<|ag Y<|dn<|⟨false,h,wR []⟩;refine bE (V GI) λIl S3 GI=>gc (qP S3) trivial ?_;obtain rfl:=O GI;exact pT Y<|ag Y<|dn<|⟨Il,h,wR []⟩
 try dsimp only
 refine aV.n<|bf ?_;obtain rfl:=O h;exact R1 Y;refine cT<|sr<|bE (V h) λjC mZ h=>cl (qP mZ) trivial<|ag Y<|dn<|bf<|aV.r ?_;obtain rfl:=O h;exact R1 Y
end
end Go.Proofs.YtdpjpoekcgigkaaGreat
namespace Go.Fw
section
theorem fo{n:Nat}(h:n<=9223372036854775807):IntKind.i64.wrap (n:Int)=n:=mU (by omega)
theorem b8{x:Int}(h: -9223372036854775808<=x)(h':x<=9223372036854775807):IntKind.i64.wrap x=x:=mU ⟨h,h'⟩
theorem bV{n:Nat}(h:n<9223372036854775807):IntKind.i64.wrap ((n:Int)+1)=((n+1:Nat):Int):=by rw[mU (by omega)];simp
theorem kA{n m:Nat}(h:n+m<=9223372036854775807):IntKind.i64.wrap ((n:Int)+(m:Int))=((n+m:Nat):Int):=by rw[mU (by omega)];simp
theorem y7{n:Nat}(h:n<=9223372036854775807):IntKind.i64.wrap (((n+1:Nat):Int)-1)=(n:Int):=by rw[mU (by omega)];omega
theorem bq{α:Type}{l:List α}{i:Nat}{a:α}(h:l[i]? =some a):cm l (i:Int)=some a:=by simp[cm,h]
theorem rf{α:Type}{l:List α}{a:α}(h:l[0]? =some a):cm l 0=some a:=by simp[cm,h]
theorem JC{α:Type}{l:List α}{a:α}(h:l[1]? =some a):cm l 1=some a:=by simp[cm,h]
theorem fK{α:Type}{l:List α}{i:Nat}(h:i<l.length):vh l (i:Int)=some i:=by simp[vh,h]
theorem jd{α:Type}{l:List α}{i:Nat}{y:α}(h:i<l.length):stM l i y=some (l.set i y):=by simp[stM,h]
theorem JD{α:Type}{b:Nat}{l k:List α}(h:(l.length+k.length)*b<=140737488355328)(h':l.length+k.length<=140737488355328):wU b l k=some (l++k):=by simp[wU,h,h']
theorem Aa{α:Type}{b:Nat}{l:List α}{x:α}(hb:b<=100)(h:l.length<=1000000000000):wU b l [x]=some (l++[x]):=by
 apply JD
 ·have:(l.length+[x].length)*b<=1000000000001*100:=Nat.mul_le_mul (by simp;omega) hb;omega
 simp;omega
theorem Ly{α:Type}{b:Nat}{l k:List α}(hb:b<=100)(h:l.length+k.length<=1000000000000):wU b l k=some (l++k):=by
 apply JD
 ·have:(l.length+k.length)*b<=1000000000000*100:=Nat.mul_le_mul h hb;omega
 omega
theorem EM{α:Type}{b:Nat}{n:Nat}(hb:b<=100)(h:n<=1000000000000):KE (α:=α) b (n:Int)=some []:=by
 have:b*n<=100*1000000000000:=Nat.mul_le_mul hb h;have h2:(b:Int)*(n:Int)=((b*n:Nat):Int):=by simp
 unfold KE;rw[h2,if_pos ⟨by omega,by omega,by omega⟩]
theorem vK{α:Type}{b:Nat}{n:Nat}{z:α}(hb:b<=100)(h:n<=1000000000000):DT b (n:Int) z=some (List.replicate n z):=by
 have:b*n<=100*1000000000000:=Nat.mul_le_mul hb h;have h2:(b:Int)*(n:Int)=((b*n:Nat):Int):=by simp
 unfold DT;rw[h2,if_pos ⟨by omega,by omega,by omega⟩,Int.toNat_natCast]
theorem JE{α:Type}{l:List α}{i j:Nat}(h:i<=j)(h':j<=l.length):wS l (i:Int) (j:Int)=some (cut l i j):=by
 unfold wS;rw[if_pos ⟨by omega,by omega,by omega⟩];simp
theorem oB{α:Type}{l:List α}{j:Nat}(h':j<=l.length):wS l 0 (j:Int)=some (l.take j):=by
 have:=JE (l:=l) (i:=0) (j:=j) (by omega) h';simpa[cut]using this
theorem o6{M a b:Nat}(h:b<=a)(h':a<M):mW M a b=a-b:=by
 unfold mW;rw[show(a:Int)-(b:Int)=((a-b:Nat):Int) by omega,<-Int.natCast_emod,Int.toNat_natCast,Nat.mod_eq_of_lt (by omega)]
theorem uF{M a b:Nat}(h:a<b)(h':b<=M):mW M a b=M+a-b:=by
 unfold mW;have:((a:Int)-(b:Int))%(M:Int)=((M+a-b:Nat):Int):=by
  rw[<-Int.add_emod_right (a:=(a:Int)-b),show(a:Int)-(b:Int)+(M:Int)=((M+a-b:Nat):Int) by omega,<-Int.natCast_emod,Nat.mod_eq_of_lt (by omega)]
 rw[this,Int.toNat_natCast]
theorem xx{o n i:Nat}(h:i<n):Kc o n (i:Int)=some (o+i):=by simp[Kc,h]
theorem oC{α:Type}{l l':List α}(h:l'.length=l.length):rQ l l'=some ():=by simp[rQ,h]
theorem BI{M a b:Nat}(h:b≠0)(h':a<M):A7 M a b=some (a/b):=by
 unfold A7;rw[if_neg h,Nat.mod_eq_of_lt (Nat.lt_of_le_of_lt (Nat.div_le_self _ _) h')]
theorem xy{a b:Nat}(h:b≠0):zG a b=some (a%b):=by unfold zG;rw[if_neg h]
theorem bw{α β:Type}{a:α}{f:α->Option β}:Option.bind (some a) f=f a:=by
 have h:∀o,o=some a->Option.bind o f=f a:=by intro o ho;rw[ho];rfl
 exact h _ Y
theorem eD{α:Type}{x y:α}:(bif true then x else y)=x:=by
 have h:∀b,b=true->(bif b then x else y)=x:=by intro b hb;rw[hb];rfl
 exact h _ Y
theorem fu{α:Type}{x y:α}:(bif false then x else y)=y:=by
 have h:∀b,b=false->(bif b then x else y)=y:=by intro b hb;rw[hb];rfl
 exact h _ Y
theorem fz{S E R:Type}{body:S->Option (S⊕E)}{s:S}{f:E->Option R}{r:R}(I:S->Prop)(Post:E->Prop)(μ:S->Nat)
  (step:∀s,I s->(∃s',body s=some (.inl s')/\I s'/\μ s'<μ s)\/(∃e,body s=some (.inr e)/\Post e)) (h:I s) (hf:∀e,Post e->f e=some r):(b9 body s).bind f=some r:=by
 obtain⟨e,h1,h2⟩:=vi I Post μ step h;rw[h1];exact hf e h2
theorem dB{S E R:Type}{body:S->Option (S⊕E)}{s:S}{f:E->Option R}{Q:R->Prop}(I:S->Prop)(Post:E->Prop)(μ:S->Nat)
  (step:∀s,I s->(∃s',body s=some (.inl s')/\I s'/\μ s'<μ s)\/(∃e,body s=some (.inr e)/\Post e)) (h:I s) (hf:∀e,Post e->∃r,f e=some r/\Q r):∃r,(b9 body s).bind f=some r/\Q r:=by
 obtain⟨e,h1,h2⟩:=vi I Post μ step h;rw[h1];exact hf e h2
theorem cc{S E R:Type}{body:S->Option (S⊕E)}{s:S}{f:E->Option R}{r:R}(st:Nat->S)(n:Nat)(e:E)(h0:s=st 0)(hs:∀k,k<n->body (st k)=some (.inl (st (k+1))))(he:body (st n)=some (.inr e))(hf:f e=some r):(b9 body s).bind f=some r:=by
 rw[h0,HY st n hs he];exact hf
theorem sJ{S R:Type}{body:Nat->S->Option S}{s:S}{f:S->Option R}{r:R}(st:Nat->S){n:Nat}(h0:s=st 0)(hs:∀k,k<n->body k (st k)=some (st (k+1)))(hf:f (st n)=some r):(oQ body n s).bind f=some r:=by
 rw[h0,Ak st n hs];exact hf
theorem aA{α β:Type}{x:Option α}{a:α}{f:α->Option β}{r:Option β}(h:x=some a)(hf:f a=r):x.bind f=r:=by rw[h];exact hf
theorem dZ{α:Type}{b:Bool}{x y r:α}(hb:b=true)(h:x=r):(bif b then x else y)=r:=by rw[hb];exact h
theorem cS{α:Type}{b:Bool}{x y r:α}(hb:b=false)(h:y=r):(bif b then x else y)=r:=by rw[hb];exact h
end
section
def val(B:Nat):List Nat->Nat
 |[]=>0
 |x::l=>x+B*val B l
def dD(B:Nat):Nat->Nat->List Nat
 |0,_=>[]
 |n+1,v=>v%B::dD B n (v/B)
def iI(ws:List Nat):List Nat:=(ws.reverse.dropWhile (· ==0)).reverse
def can(B v:Nat):List Nat:=iI (dD B v v)
theorem bz(B:Nat):∀n v,(dD B n v).length=n
 |0,_=>rfl
 |n+1,v=>by simp[dD,bz B n]
theorem kC(B:Nat):∀n v,val B (dD B n v)=v%B^n
 |0,v=>by simp[dD,val,Nat.mod_one]
 |n+1,v=>by
  rw[dD,val,kC B n,Nat.pow_succ,Nat.mul_comm (B^n) B,Nat.mod_mul]
theorem l9{B:Nat}(hB:0<B):∀(n v x:Nat),x∈dD B n v->x<B
 |n+1,v,x,h=>by
  rcases List.mem_cons.1 h with rfl|h
  ·exact Nat.mod_lt _ hB
  exact l9 hB n _ x h
theorem eJ{B:Nat}:∀(l:List Nat),(∀x∈l,x<B)->val B l<B^l.length
 |[],_=>by simp[val]
 |x::l,h=>by
  have h1:=eJ l (λy hy=>h y (List.mem_cons_of_mem _ hy));have h2:=h x (by simp);rw[val,List.length_cons,Nat.pow_succ]
  calc x+B*val B l<B+B*val B l:=by omega
   _=B*(val B l+1):=by rw[Nat.mul_add];omega
   _<=B*B^l.length:=Nat.mul_le_mul_left _ h1
   _=B^l.length*B:=Nat.mul_comm _ _
theorem xz{B:Nat}:∀(l:List Nat),(∀x∈l,x<B)->dD B l.length (val B l)=l
 |[],_=>rfl
 |x::l,h=>by
  have h2:=h x (by simp);have hB:0<B:=by omega
  rw[List.length_cons,dD,val,Nat.add_mul_mod_self_left,Nat.mod_eq_of_lt h2,Nat.add_mul_div_left _ _ hB,Nat.div_eq_of_lt h2,Nat.zero_add,xz l (λy hy=>h y (List.mem_cons_of_mem _ hy))]
theorem uG{B:Nat}:∀(n v j:Nat),j<n->(dD B n v)[j]? =some (v/B^j%B)
 |n+1,v,0,_=>by simp[dD]
 |n+1,v,j+1,h=>by
  rw[dD,List.getElem?_cons_succ,uG n _ j (by omega),Nat.div_div_eq_div_mul,Nat.pow_succ,Nat.mul_comm B]
theorem BJ{B:Nat}:∀(a b:List Nat),val B (a++b)=val B a+B^a.length*val B b
 |[],b=>by simp[val]
 |x::a,b=>by
  rw[List.cons_append,val,val,BJ a b,List.length_cons,Nat.pow_succ,Nat.mul_add,Nat.add_assoc,Nat.mul_comm (B^a.length) B,Nat.mul_assoc]
theorem gB{B:Nat}:∀(n v:Nat),dD B (n+1) v=dD B n v++[v/B^n%B]
 |0,v=>by simp[dD]
 |n+1,v=>by
  rw[dD,gB n,dD,List.cons_append,Nat.div_div_eq_div_mul,Nat.pow_succ,Nat.mul_comm B]
theorem oD(B:Nat):∀k,dD B k 0=List.replicate k 0
 |0=>rfl
 |k+1=>by rw[dD,Nat.zero_mod,Nat.zero_div,oD B k];rfl
theorem za{B:Nat}(hB:0<B):∀(n k v:Nat),v<B^n->dD B (n+k) v=dD B n v++List.replicate k 0
 |0,k,v,h=>by
  have:v=0:=by simpa using h
  subst this;rw[Nat.zero_add,oD];rfl
 |n+1,k,v,h=>by
  rw[show n+1+k=n+k+1 by omega,dD,dD,List.cons_append,za hB n k (v/B) (by rw[Nat.div_lt_iff_lt_mul hB];rwa[Nat.pow_succ]at h)]
theorem o7{B:Nat}(hB:2<=B):∀v,v<B^v
 |0=>by simp
 |v+1=>by
  have:=o7 hB v;rw[Nat.pow_succ];have h2:B^v*2<=B^v*B:=Nat.mul_le_mul_left _ hB;omega
theorem nm(l:List Nat):iI (l++[0])=iI l:=by simp[iI]
theorem qQ(l:List Nat):∀k,iI (l++List.replicate k 0)=iI l
 |0=>by simp
 |k+1=>by rw[List.replicate_succ',<-List.append_assoc,nm,qQ l k]
theorem o8(l:List Nat){x:Nat}(h:x≠0):iI (l++[x])=l++[x]:=by simp[iI,h]
theorem sK(xs:List Nat):xs=[]\/(∃ys,xs=ys++[0])\/(∃ys y,y≠0/\xs=ys++[y]):=by
 rcases List.eq_nil_or_concat xs with rfl|⟨ys,y,rfl⟩
 ·exact .inl Y
 by_cases hy:y=0
 ·subst hy;exact .inr (.inl ⟨ys,by simp⟩)
 exact .inr (.inr ⟨ys,y,hy,by simp⟩)
theorem vL:∀(n:Nat) (l:List Nat),l.length=n->∃k,l=iI l++List.replicate k 0:=by
 intro n
 induction n with
 |zero=>intro l h;obtain rfl:=List.length_eq_zero_iff.1 h;exact⟨0,Y⟩
 |succ n ih=>
  intro l h;rcases sK l with rfl|⟨ys,rfl⟩|⟨ys,y,hy,rfl⟩
  ·simp at h
  ·obtain⟨k,hk⟩:=ih ys (by simpa using h);refine⟨k+1,?_⟩;rw[nm,List.replicate_succ',<-List.append_assoc,<-hk]
  exact⟨0,by rw[o8 _ hy];simp⟩
theorem GV{l:List Nat}{x:Nat}(h:x∈iI l):x∈l:=by
 obtain⟨k,hk⟩:=vL _ l Y;rw[hk];exact List.mem_append_left _ h
theorem AG(l:List Nat):(iI l).length<=l.length:=by
 obtain⟨k,hk⟩:=vL _ l Y;have:=congrArg List.length hk;rw[List.length_append]at this;omega
theorem AH(B:Nat):∀k,val B (List.replicate k 0)=0
 |0=>rfl
 |k+1=>by rw[List.replicate_succ,val,AH B k];simp
theorem JF(B:Nat)(l:List Nat):val B (iI l)=val B l:=by
 obtain⟨k,hk⟩:=vL _ l Y
 conv=>rhs;rw[hk,BJ,AH]
 simp
theorem lO{B:Nat}(hB:2<=B){n v:Nat}(h:v<B^n):iI (dD B n v)=can B v:=by
 have hv:=o7 hB v;rcases Nat.le_total n v with hn|hn
 ·obtain⟨k,rfl⟩:=Nat.exists_eq_add_of_le hn;rw[can,za (by omega) n k _ h,qQ]
 obtain⟨k,rfl⟩:=Nat.exists_eq_add_of_le hn;rw[can,za (by omega) v k _ hv,qQ]
theorem iJ{B:Nat}(hB:2<=B){l:List Nat}(h:∀x∈l,x<B):iI l=can B (val B l):=by
 conv=>lhs;rw[<-xz l h]
 exact lO hB (eJ l h)
theorem iV{B:Nat}(hB:2<=B)(v:Nat):val B (can B v)=v:=by
 rw[can,JF,kC,Nat.mod_eq_of_lt (o7 hB v)]
theorem fj{B:Nat}(hB:2<=B){v x:Nat}(h:x∈can B v):x<B:=l9 (by omega) v v x (GV h)
theorem nn(B:Nat):can B 0=[]:=rfl
theorem uH{B:Nat}(hB:2<=B){v:Nat}(h:can B v=[]):v=0:=by have:=iV hB v;rw[h]at this;exact this.symm
theorem Lz{B:Nat}(hB:2<=B){v n:Nat}(h:v<B^n):(can B v).length<=n:=by
 rw[<-lO hB h];have:=AG (dD B n v);rwa[bz]at this
theorem LA{B:Nat}(hB:2<=B)(v:Nat):iI (can B v)=can B v:=by
 rw[iJ hB (λx hx=>fj hB hx),iV hB]
theorem FD{B:Nat}(hB:2<=B)(v:Nat):can B v=dD B (can B v).length v:=by
 have:=xz (can B v) (λx hx=>fj hB hx);rw[iV hB]at this;exact this.symm
theorem bU{B:Nat}(hB:2<=B)(v:Nat):v<B^(can B v).length:=by
 have:=eJ (can B v) (λx hx=>fj hB hx);rwa[iV hB]at this
theorem ri{B:Nat}(hB:2<=B){v j:Nat}(h:j<(can B v).length):(can B v)[j]? =some (v/B^j%B):=by
 rw[FD hB v]at h⊢;rw[bz]at h;exact uG _ _ _ h
theorem zb{B:Nat}(hB:2<=B){v j:Nat}(h:(can B v).length<=j):v/B^j=0:=by
 refine Nat.div_eq_of_lt (Nat.lt_of_lt_of_le (bU hB v) ?_);exact Nat.pow_le_pow_right (by omega) h
theorem Dj{B:Nat}(hB:2<=B){v:Nat}(h:v≠0):∃l x,x≠0/\can B v=l++[x]:=by
 rcases sK (can B v)with e|⟨ys,e⟩|⟨ys,y,hy,e⟩
 ·exact absurd (uH hB e) h
 ·exfalso;have h1:=LA hB v;rw[e,nm]at h1;have h2:=AG ys;rw[h1]at h2;simp at h2;omega
 exact⟨ys,y,hy,e⟩
theorem n6{B:Nat}(hB:2<=B){v n:Nat}(h:n<(can B v).length):B^n<=v:=by
 by_cases h0:v=0
 ·subst h0;simp[nn]at h
 obtain⟨l,x,hx,e⟩:=Dj hB h0;have h1:=iV hB v;rw[e,BJ]at h1;have hl:n<=l.length:=by rw[e]at h;simp at h;omega
 have h2:B^n<=B^l.length:=Nat.pow_le_pow_right (by omega) hl;have h3:B^l.length<=B^l.length*val B [x]:=Nat.le_mul_of_pos_right _ (by simp[val];omega);omega
theorem bO{B:Nat}(hB:2<=B){v n:Nat}:(can B v).length<=n↔v<B^n:=by
 refine⟨λh=>?_,Lz hB⟩;exact Nat.lt_of_lt_of_le (bU hB v) (Nat.pow_le_pow_right (by omega) h)
theorem JG{B:Nat}(hB:2<=B){l:List Nat}{x:Nat}(hx:x≠0)(h:∀y∈l++[x],y<B):l++[x]=can B (val B (l++[x])):=by
 rw[<-iJ hB h,o8 _ hx]
theorem oE{B:Nat}:∀(l:List Nat),(∀x∈l,x<B)->∀k,l.getD k 0=val B l/B^k%B
 |[],_,k=>by simp[val]
 |x::l,h,0=>by
  have h2:=h x (by simp);simp[val,Nat.add_mul_mod_self_left,Nat.mod_eq_of_lt h2]
 |x::l,h,k+1=>by
  have h2:=h x (by simp);have hB:0<B:=by omega
  rw[List.getD_cons_succ,oE l (λy hy=>h y (List.mem_cons_of_mem _ hy)) k,val,Nat.pow_succ,Nat.mul_comm (B^k) B,<-Nat.div_div_eq_div_mul,Nat.add_mul_div_left _ _ hB,Nat.div_eq_of_lt h2,Nat.zero_add]
theorem fL(B V k:Nat):V%B^(k+1)=V%B^k+B^k*(V/B^k%B):=by
 rw[Nat.pow_succ,Nat.mod_mul]
def xA(B V W k:Nat):Nat:=(V%B^k+W%B^k)/B^k
theorem ze{B:Nat}(hB:0<B)(V W k:Nat):xA B V W k<=1:=by
 have hP:0<B^k:=Nat.pow_pos hB;have h1:=Nat.mod_lt V hP;have h2:=Nat.mod_lt W hP;have:xA B V W k<2:=by rw[xA,Nat.div_lt_iff_lt_mul hP];omega
 omega
theorem zf{B:Nat}(hB:0<B)(V W k:Nat):(V/B^k%B+W/B^k%B+xA B V W k)/B=xA B V W (k+1):=by
 have hP:0<B^k:=Nat.pow_pos hB;rw[xA,xA,fL,fL,Nat.pow_succ,<-Nat.div_div_eq_div_mul];congr 1;rw[show V%B^k+B^k*(V/B^k%B)+(W%B^k+B^k*(W/B^k%B))=(V%B^k+W%B^k)+B^k*(V/B^k%B+W/B^k%B) by rw[Nat.mul_add];omega,Nat.add_mul_div_left _ _ hP];omega
theorem xB{B:Nat}(hB:0<B)(V W k:Nat):(V/B^k%B+W/B^k%B+xA B V W k)%B=(V+W)/B^k%B:=by
 have hP:0<B^k:=Nat.pow_pos hB;have h:(V+W)/B^k=V/B^k+W/B^k+xA B V W k:=by
  have e1:=Nat.div_add_mod V (B^k);have e2:=Nat.div_add_mod W (B^k);rw[xA]
  conv=>lhs;rw[<-e1,<-e2]
  rw[show B^k*(V/B^k)+V%B^k+(B^k*(W/B^k)+W%B^k)=(V%B^k+W%B^k)+B^k*(V/B^k+W/B^k) by rw[Nat.mul_add];omega,Nat.add_mul_div_left _ _ hP];omega
 rw[h];simp[Nat.add_mod]
theorem BK{B:Nat}{V W k:Nat}(hV:V<B^k)(hW:W<B^k):xA B V W k=(V+W)/B^k:=by
 rw[xA,Nat.mod_eq_of_lt hV,Nat.mod_eq_of_lt hW]
theorem zg(B V W:Nat):xA B V W 0=0:=by simp[xA,Nat.mod_one]
def vM(B V W k:Nat):Nat:=(V%B^k+B^k-W%B^k)/B^k
theorem zh(B V W:Nat):vM B V W 0=1:=by simp[vM,Nat.mod_one]
theorem EN{B:Nat}(hB:0<B)(V W k:Nat):vM B V W k<=1:=by
 have hP:0<B^k:=Nat.pow_pos hB;have h1:=Nat.mod_lt V hP;have:vM B V W k<2:=by
  rw[vM,Nat.div_lt_iff_lt_mul hP];generalize W%B^k=y at*;generalize V%B^k=x at*;omega
 omega
theorem FE{B:Nat}(hB:0<B)(V W k:Nat):V%B^(k+1)+B^(k+1)-W%B^(k+1)=(V%B^k+B^k-W%B^k)+B^k*(V/B^k%B+(B-1-W/B^k%B)):=by
 have hP:0<B^k:=Nat.pow_pos hB;have h1:=Nat.mod_lt V hP;have h2:=Nat.mod_lt W hP;have h3:=Nat.mod_lt (W/B^k) hB;rw[fL,fL,Nat.pow_succ];generalize B^k=p at*;generalize V/p%B=x at*;generalize W/p%B=y at*;obtain⟨z,rfl⟩:∃z,B=y+1+z:=⟨B-y-1,by omega⟩;have e1:y+1+z-1-y=z:=by omega
 rw[e1,Nat.mul_add p x z,Nat.mul_add p (y+1) z,Nat.mul_add p y 1];omega
theorem zj{B:Nat}(hB:0<B)(V W k:Nat):(V/B^k%B+(B-1-W/B^k%B)+vM B V W k)/B=vM B V W (k+1):=by
 have hP:0<B^k:=Nat.pow_pos hB;rw[vM,vM,FE hB,Nat.pow_succ,<-Nat.div_div_eq_div_mul,Nat.add_mul_div_left _ _ hP];congr 1;omega
theorem EO{Q V W:Nat}(hQ:0<Q)(h:W<=V):(V%Q+Q-W%Q)%Q=(V-W)%Q:=by
 have e1:=Nat.div_add_mod V Q;have e2:=Nat.div_add_mod W Q;have h1:=Nat.mod_lt V hQ;have h2:=Nat.mod_lt W hQ;have hq:W/Q<=V/Q:=Nat.div_le_div_right h;generalize V%Q=r at*;generalize W%Q=s at*;generalize V/Q=a at*;generalize W/Q=b at*;obtain⟨c,rfl⟩:=Nat.exists_eq_add_of_le hq;rw[Nat.mul_add]at e1;rcases Nat.lt_or_ge r s with hrs|hrs
 ·cases c with
  |zero=>simp at e1;omega
  |succ c=>
   rw[Nat.mul_add,Nat.mul_one]at e1;rw[show V-W=Q*c+(r+Q-s) by omega,Nat.mul_add_mod]
 rw[show V-W=Q*c+(r-s) by omega,Nat.mul_add_mod,show r+Q-s=r-s+Q by omega,Nat.add_mod_right]
theorem BL{B:Nat}(hB:0<B){V W:Nat}(h:W<=V)(k:Nat):(V/B^k%B+(B-1-W/B^k%B)+vM B V W k)%B=(V-W)/B^k%B:=by
 have hP:0<B^k:=Nat.pow_pos hB;have hQ:0<B^(k+1):=Nat.pow_pos hB;have e:=EO hQ h;have e2:V/B^k%B+(B-1-W/B^k%B)+vM B V W k=(V%B^(k+1)+B^(k+1)-W%B^(k+1))/B^k:=by
  rw[FE hB,Nat.add_mul_div_left _ _ hP,vM];omega
 rw[e2,<-Nat.mod_mul_right_div_self,<-Nat.mod_mul_right_div_self,<-Nat.pow_succ,e]
end
section
theorem FF{B:Nat}(hB:0<B):∀(j N lo p d hi:Nat),lo<B^j->p<B->d<B->j<N->(dD B N (lo+B^j*(p+B*hi))).set j d=dD B N (lo+B^j*(d+B*hi))
 |0,N+1,lo,p,d,hi,hlo,hp,hd,_=>by
  have:lo=0:=by simpa using hlo
  subst this;simp only[Nat.pow_zero,Nat.zero_add,Nat.one_mul,dD,List.set_cons_zero,Nat.add_mul_mod_self_left,Nat.mod_eq_of_lt hd];rw[Nat.add_mul_div_left _ _ hB,Nat.add_mul_div_left _ _ hB,Nat.div_eq_of_lt hp,Nat.div_eq_of_lt hd]
 |j+1,N+1,lo,p,d,hi,hlo,hp,hd,hN=>by
  have e:∀q,(lo+B^(j+1)*(q+B*hi))%B=lo%B:=λq=>by
   rw[Nat.pow_succ,Nat.mul_comm (B^j) B,Nat.mul_assoc,Nat.add_mul_mod_self_left]
  have e2:∀q,(lo+B^(j+1)*(q+B*hi))/B=lo/B+B^j*(q+B*hi):=λq=>by
   rw[Nat.pow_succ,Nat.mul_comm (B^j) B,Nat.mul_assoc,Nat.add_mul_div_left _ _ hB]
  have ZX:lo/B<B^j:=by rw[Nat.div_lt_iff_lt_mul hB];rwa[Nat.pow_succ]at hlo
  rw[dD,dD,List.set_cons_succ,e,e,e2,e2,FF hB j N (lo/B) p d hi ZX hp hd (by omega)]
theorem rj{B:Nat}(hB:0<B){N j u u' d:Nat}(hj:j<N)(hd:d<B)(hlo:u'%B^j=u%B^j)(EP:u'/B^j%B=d)(hhi:u'/B^(j+1)=u/B^(j+1)):(dD B N u).set j d=dD B N u':=by
 have hP:0<B^j:=Nat.pow_pos hB;have f:∀u,u=u%B^j+B^j*(u/B^j%B+B*(u/B^(j+1))):=λu=>by
  have e1:=Nat.mod_add_div u (B^j);have e2:=GW B u j;rw[Nat.add_comm]at e2;rw[<-e2,e1]
 rw[f u,FF hB j N _ _ d _ (Nat.mod_lt _ hP) (Nat.mod_lt _ hB) hd hj]
 conv=>rhs;rw[f u',hlo,EP,hhi]
where
 GW (B v m:Nat):v/B^m=B*(v/B^(m+1))+v/B^m%B:=by
  rw[Nat.pow_succ,<-Nat.div_div_eq_div_mul,Nat.div_add_mod]
def mT(B V W i k:Nat):Nat:=((V%B^i)*W)%B^(i+k)+B^i*(V/B^i%B)*(W%B^k)
def mC(B V W i k:Nat):Nat:=mT B V W i k/B^(i+k)
def mV(B V W i k:Nat):Nat:=mT B V W i k%B^(i+k)+B^(i+k)*(((V%B^i)*W)/B^(i+k))
theorem NZ{B:Nat}(hB:0<B)(V W i k:Nat):mT B V W i k<B^(i+k)*B:=by
 have h1:((V%B^i)*W)%B^(i+k)<B^(i+k):=Nat.mod_lt _ (Nat.pow_pos hB);have h2:V/B^i%B<B:=Nat.mod_lt _ hB;have h3:W%B^k<B^k:=Nat.mod_lt _ (Nat.pow_pos hB);have h4:B^i*(V/B^i%B)*(W%B^k)<=B^i*(B-1)*B^k:=Nat.mul_le_mul (Nat.mul_le_mul_left _ (by omega)) (Nat.le_of_lt h3);have h5:B^i*(B-1)*B^k=B^(i+k)*(B-1):=by rw[Nat.pow_add,Nat.mul_assoc,Nat.mul_assoc,Nat.mul_comm (B-1)]
 have h6:B^(i+k)*B=B^(i+k)*(B-1)+B^(i+k):=by
  obtain⟨b,rfl⟩:∃b,B=b+1:=⟨B-1,by omega⟩;rw[Nat.add_sub_cancel,Nat.mul_add,Nat.mul_one]
 unfold mT;omega
theorem N0{B:Nat}(hB:0<B)(V W i k:Nat):mC B V W i k<B:=by
 rw[mC,Nat.div_lt_iff_lt_mul (Nat.pow_pos hB),Nat.mul_comm];exact NZ hB V W i k
theorem BM{B:Nat}(V W i k:Nat):mT B V W i (k+1)=mT B V W i k+B^(i+k)*(((V%B^i)*W)/B^(i+k)%B+(V/B^i%B)*(W/B^k%B)):=by
 have e1:((V%B^i)*W)%B^(i+(k+1))=((V%B^i)*W)%B^(i+k)+B^(i+k)*(((V%B^i)*W)/B^(i+k)%B):=by rw[<-Nat.add_assoc,fL]
 have e2:W%B^(k+1)=W%B^k+B^k*(W/B^k%B):=fL B W k;unfold mT;rw[e1,e2,Nat.mul_add,Nat.mul_add (B^(i+k))];have e3:B^i*(V/B^i%B)*(B^k*(W/B^k%B))=B^(i+k)*((V/B^i%B)*(W/B^k%B)):=by
  rw[Nat.pow_add,Nat.mul_assoc,Nat.mul_assoc,Nat.mul_left_comm (V/B^i%B)]
 omega
theorem LB{B:Nat}(hB:0<B)(V W i k:Nat):(((V%B^i)*W)/B^(i+k)%B+(V/B^i%B)*(W/B^k%B)+mC B V W i k)/B=mC B V W i (k+1):=by
 have hP:0<B^(i+k):=Nat.pow_pos hB;rw[mC,mC,BM,<-Nat.add_assoc,Nat.pow_succ,<-Nat.div_div_eq_div_mul,Nat.add_mul_div_left _ _ hP];congr 1;omega
theorem N1{B:Nat}(V W i k:Nat):mV B V W i k%B^(i+k)=mT B V W i k%B^(i+k):=by
 rw[mV,Nat.add_mul_mod_self_left,Nat.mod_mod]
theorem FG{B:Nat}(hB:0<B)(V W i k:Nat):mV B V W i k/B^(i+k)=((V%B^i)*W)/B^(i+k):=by
 have hP:0<B^(i+k):=Nat.pow_pos hB;rw[mV,Nat.add_mul_div_left _ _ hP,Nat.div_eq_of_lt (Nat.mod_lt _ hP),Nat.zero_add]
theorem Qx{B:Nat}(hB:0<B){V W i k N:Nat}(h:i+k<N):(dD B N (mV B V W i k))[i+k]? =some (((V%B^i)*W)/B^(i+k)%B):=by
 rw[uG _ _ _ h,FG hB]
theorem LC{B:Nat}(hB:0<B){V W i k N:Nat}(h:i+k<N):
  (dD B N (mV B V W i k)).set (i+k) ((((V%B^i)*W)/B^(i+k)%B+(V/B^i%B)*(W/B^k%B)+mC B V W i k)%B)=dD B N (mV B V W i (k+1)):=by
 have hP:0<B^(i+k):=Nat.pow_pos hB;have hPB:B^(i+(k+1))=B^(i+k)*B:=by rw[<-Nat.add_assoc,Nat.pow_succ]
 have hs:mT B V W i (k+1)/B^(i+k)=((V%B^i)*W)/B^(i+k)%B+(V/B^i%B)*(W/B^k%B)+mC B V W i k:=by
  rw[BM,Nat.add_mul_div_left _ _ hP,mC];omega
 have ht:mT B V W i (k+1)%B^(i+k)=mT B V W i k%B^(i+k):=by rw[BM,Nat.add_mul_mod_self_left]
 refine rj hB h (Nat.mod_lt _ hB) ?_ ?_ ?_
 ·rw[N1,<-ht,mV,hPB,Nat.mul_assoc,Nat.add_mul_mod_self_left,Nat.mod_mul_right_mod]
 ·rw[mV,hPB,Nat.mul_assoc,Nat.add_mul_div_left _ _ hP,Nat.add_mul_mod_self_left,Nat.mod_mul_right_div_self,Nat.mod_mod,hs]
 rw[show i+k+1=i+(k+1) by omega,FG hB,show i+(k+1)=i+k+1 by omega,Nat.pow_succ,<-Nat.div_div_eq_div_mul,<-Nat.div_div_eq_div_mul,FG hB]
theorem LD{B:Nat}(V W i:Nat):mV B V W i 0=(V%B^i)*W:=by
 rw[mV,mT,Nat.pow_zero,Nat.mod_one,Nat.mul_zero,Nat.add_zero,Nat.add_zero,Nat.mod_mod,Nat.mod_add_div]
theorem LF{B:Nat}(hB:0<B)(V W i:Nat):mC B V W i 0=0:=by
 rw[mC,mT,Nat.pow_zero,Nat.mod_one,Nat.mul_zero,Nat.add_zero,Nat.add_zero];exact Nat.div_eq_of_lt (Nat.mod_lt _ (Nat.pow_pos hB))
theorem Qy{B:Nat}(hB:0<B){V W i n N:Nat}(hW:W<B^n)(h:i+n<N):(dD B N (mV B V W i n)).set (i+n) ((0+mC B V W i n)%B)=dD B N ((V%B^(i+1))*W):=by
 have hP:0<B^(i+n):=Nat.pow_pos hB;have hp:(V%B^i)*W<B^(i+n):=by
  have h1:V%B^i<B^i:=Nat.mod_lt _ (Nat.pow_pos hB);rw[Nat.pow_add];by_cases h0:W=0
  ·subst h0;rw[Nat.mul_zero];exact Nat.mul_pos (Nat.pow_pos hB) (Nat.pow_pos hB)
  calc (V%B^i)*W<B^i*W:=Nat.mul_lt_mul_of_pos_right h1 (by omega)
   _<=B^i*B^n:=Nat.mul_le_mul_left _ (Nat.le_of_lt hW)
 have hT:mT B V W i n=(V%B^(i+1))*W:=by
  rw[mT,Nat.mod_eq_of_lt hp,Nat.mod_eq_of_lt hW,fL,Nat.add_mul]
 have hlt:=NZ hB V W i n;rw[hT]at hlt;refine rj hB h (Nat.mod_lt _ hB) ?_ ?_ ?_
 ·rw[N1,hT]
 ·rw[Nat.zero_add,mC,hT]
 rw[Nat.pow_succ B (i+n),Nat.div_eq_of_lt hlt,<-Nat.div_div_eq_div_mul,FG hB,Nat.div_eq_of_lt hp,Nat.zero_div]
def sT(B V f e i:Nat):Nat:=V%B^i*f+e
def sC(B V f e i:Nat):Nat:=sT B V f e i/B^i
theorem BN(B V f e:Nat):sC B V f e 0=e:=by simp[sC,sT,Nat.mod_one]
theorem FH(B V f e i:Nat):sT B V f e (i+1)=sT B V f e i+B^i*(V/B^i%B*f):=by
 unfold sT;rw[fL,Nat.add_mul,Nat.mul_assoc];omega
theorem BO{B:Nat}(hB:0<B)(V f e i:Nat):(V/B^i%B*f+sC B V f e i)/B=sC B V f e (i+1):=by
 have hP:0<B^i:=Nat.pow_pos hB;rw[sC,sC,FH,Nat.pow_succ,<-Nat.div_div_eq_div_mul,Nat.add_mul_div_left _ _ hP];congr 1;omega
theorem ER{B:Nat}(hB:0<B)(V f e i:Nat):(V/B^i%B*f+sC B V f e i)%B=(V*f+e)/B^i%B:=by
 have hP:0<B^i:=Nat.pow_pos hB;have h1:V*f+e=sT B V f e (i+1)+B^i*(B*(V/B^(i+1)*f)):=by
  have e1:=Nat.mod_add_div V (B^(i+1));unfold sT
  conv=>lhs;rw[<-e1,Nat.add_mul]
  rw[Nat.pow_succ,Nat.mul_assoc,Nat.mul_assoc];omega
 rw[h1,Nat.add_mul_div_left _ _ hP,Nat.add_mul_mod_self_left,FH,Nat.add_mul_div_left _ _ hP,sC,Nat.add_comm]
theorem JH{B:Nat}(hB:0<B){V f e:Nat}(hf:f<B)(he:e<B)(i:Nat):sC B V f e i<B:=by
 have hP:0<B^i:=Nat.pow_pos hB;rw[sC,Nat.div_lt_iff_lt_mul hP];have h1:V%B^i<=B^i-1:=by have:=Nat.mod_lt V hP;omega
 have h2:V%B^i*f<=(B^i-1)*(B-1):=Nat.mul_le_mul h1 (by omega);obtain⟨p,hp⟩:∃p,B^i=p+1:=⟨B^i-1,by omega⟩;obtain⟨b,rfl⟩:∃b,B=b+1:=⟨B-1,by omega⟩;unfold sT;rw[hp]at h2⊢;rw[Nat.add_sub_cancel,Nat.add_sub_cancel]at h2;have h3:(b+1)*(p+1)=p*b+b+p+1:=by rw[Nat.add_mul,Nat.mul_add,Nat.mul_comm b p];omega
 omega
theorem ES{B V f e i:Nat}(h:V<B^i):sC B V f e i=(V*f+e)/B^i:=by rw[sC,sT,Nat.mod_eq_of_lt h]
def sU(B V f e i:Nat):Nat:=sT B V f e i%B^i+B^i*(V/B^i)
def qU(B V d n:Nat):Nat:=V%B^n+B^n*(V/B^n/d)
theorem LG(B V d:Nat):qU B V d 0=V/d:=by simp[qU,Nat.mod_one]
theorem Qz{B V d n:Nat}(h:V<B^n):qU B V d n=V:=by simp[qU,Nat.mod_eq_of_lt h,Nat.div_eq_of_lt h]
theorem LH(B V m:Nat):V/B^m=B*(V/B^(m+1))+V/B^m%B:=by rw[Nat.pow_succ,<-Nat.div_div_eq_div_mul,Nat.div_add_mod]
theorem N2{B d:Nat}(V m:Nat):V/B^m=(V/B^(m+1)%d*B+V/B^m%B)+d*(B*(V/B^(m+1)/d)):=by
 have h1:=LH B V m;have h2:=Nat.mod_add_div (V/B^(m+1)) d;generalize V/B^(m+1)=q at*;generalize V/B^m%B=y at*;rw[h1]
 conv=>lhs;rw[<-h2]
 rw[Nat.mul_add,Nat.mul_left_comm B d,Nat.mul_comm B (q%d)];omega
theorem N3{B d:Nat}(hd:0<d)(V m:Nat):V/B^m/d=B*(V/B^(m+1)/d)+(V/B^(m+1)%d*B+V/B^m%B)/d:=by
 conv=>lhs;rw[N2 (B:=B) (d:=d) V m]
 rw[Nat.add_mul_div_left _ _ hd,Nat.add_comm]
theorem JI{B d:Nat}(V m:Nat):V/B^m%d=(V/B^(m+1)%d*B+V/B^m%B)%d:=by
 conv=>lhs;rw[N2 (B:=B) (d:=d) V m]
 rw[Nat.add_mul_mod_self_left]
theorem LI{B d:Nat}(hB:0<B)(hd:0<d)(V m:Nat):V/B^(m+1)%d*B+V/B^m%B<d*B:=by
 have h1:=Nat.mod_lt (V/B^(m+1)) hd;have h2:=Nat.mod_lt (V/B^m) hB;have h3:(V/B^(m+1)%d+1)*B<=d*B:=Nat.mul_le_mul_right _ h1;rw[Nat.add_mul]at h3;omega
theorem JJ{B:Nat}(hB:0<B)(V d n:Nat):qU B V d n/B^n=V/B^n/d:=by
 have hP:0<B^n:=Nat.pow_pos hB;rw[qU,Nat.add_mul_div_left _ _ hP,Nat.div_eq_of_lt (Nat.mod_lt _ hP),Nat.zero_add]
theorem TQ(B V d n:Nat):qU B V d n%B^n=V%B^n:=by rw[qU,Nat.add_mul_mod_self_left,Nat.mod_mod]
theorem LJ{B:Nat}(V d m:Nat):qU B V d (m+1)%B^m=V%B^m:=by
 rw[qU,Nat.pow_succ,Nat.mul_assoc,Nat.add_mul_mod_self_left,Nat.mod_mul_right_mod]
theorem QA{B:Nat}(hB:0<B){V d m N:Nat}(h:m<N):(dD B N (qU B V d (m+1)))[m]? =some (V/B^m%B):=by
 have hP:0<B^m:=Nat.pow_pos hB;rw[uG _ _ _ h,qU,Nat.pow_succ,Nat.mul_assoc,Nat.add_mul_div_left _ _ hP,Nat.add_mul_mod_self_left,Nat.mod_mul_right_div_self,Nat.mod_mod]
theorem LK{B:Nat}(hB:0<B){V d m N:Nat}(hd:0<d)(h:m<N):(dD B N (qU B V d (m+1))).set m ((V/B^(m+1)%d*B+V/B^m%B)/d)=dD B N (qU B V d m):=by
 have hx:(V/B^(m+1)%d*B+V/B^m%B)/d<B:=by rw[Nat.div_lt_iff_lt_mul hd,Nat.mul_comm B d];exact LI hB hd V m
 have hq:=N3 (B:=B) hd V m;refine rj hB h hx ?_ ?_ ?_
 ·rw[TQ,LJ]
 ·rw[JJ hB,hq,Nat.mul_add_mod,Nat.mod_eq_of_lt hx]
 rw[JJ hB,Nat.pow_succ,<-Nat.div_div_eq_div_mul,JJ hB,hq,Nat.mul_add_div hB,Nat.div_eq_of_lt hx,<-Nat.pow_succ];rfl
end
section
theorem LL{B v:Nat}(hB:2<=B)(h0:v≠0)(h:v<B):can B v=[v]:=by
 have:=JG hB (l:=[]) h0 (by simpa using h);simpa[val]using this.symm
theorem LM{B v:Nat}(hB:2<=B)(h0:v/B≠0)(h:v<B*B):can B v=[v%B,v/B]:=by
 have h1:v/B<B:=by rw[Nat.div_lt_iff_lt_mul (by omega)];exact h
 have h2:v%B<B:=Nat.mod_lt _ (by omega);have:=JG hB (l:=[v%B]) h0 (by simp;exact⟨h2,h1⟩);simp only[List.cons_append,List.nil_append,val,Nat.mul_zero,Nat.add_zero]at this;rw[Nat.mod_add_div]at this;exact this.symm
theorem jr{B:Nat}{l:List Nat}(h:∀x∈l,x<B){i:Nat}(hi:i<l.length):l[i]? =some (val B l/B^i%B):=by
 rw[<-oE l h i];simp[List.getD,hi]
def sL(v w:Nat):Int:=if v<w then-1 else if v=w then 0 else 1
theorem nN{v w:Nat}(h:v<w):sL v w=-1:=by simp[sL,h]
theorem rm(v:Nat):sL v v=0:=by simp[sL]
theorem o9{v w:Nat}(h:w<v):sL v w=1:=by
 have h1:¬v<w:=by omega
 have h2:¬v=w:=by omega
 simp[sL,h1,h2]
theorem sM{B v w:Nat}(hB:2<=B)(h:(can B v).length<(can B w).length):v<w:=
 Nat.lt_of_lt_of_le (bU hB v) (n6 hB h)
theorem uI(B v m:Nat):v/B^m=B*(v/B^(m+1))+v/B^m%B:=by
 rw[Nat.pow_succ,<-Nat.div_div_eq_div_mul,Nat.div_add_mod]
theorem AI{B v w m:Nat}(h:v/B^m<w/B^m):v<w:=by
 rcases Nat.lt_or_ge v w with h1|h1
 ·exact h1
 have:=Nat.div_le_div_right (c:=B^m) h1;omega
theorem AJ{B v w m:Nat}(h:v/B^(m+1)=w/B^(m+1)):(v/B^m%B=w/B^m%B/\v/B^m=w/B^m)\/(v/B^m%B<w/B^m%B/\v<w)\/(w/B^m%B<v/B^m%B/\w<v):=by
 have h1:=uI B v m;have h2:=uI B w m;rw[<-h]at h2;rcases Nat.lt_trichotomy (v/B^m%B) (w/B^m%B)with h3|h3|h3
 ·exact .inr (.inl ⟨h3,AI (B:=B) (m:=m) (by omega)⟩)
 ·exact .inl ⟨h3,by omega⟩
 exact .inr (.inr ⟨h3,AI (B:=B) (m:=m) (by omega)⟩)
end
end Go.Fw
namespace Go.Proofs.YtdpjpoekcgigkaaGreat
section
open Go.Fw
theorem xC(l:List Nat)(hl:l.length<=1000000000000):bp l=some (iI l):=by
 unfold bp;refine fz (λy=>y.length<=1000000000000/\iI y=iI l) (λe=>e=iI l) (λy=>y.length) ?_ ⟨hl,Y⟩ (λe he=>by rw[he]);rintro y ⟨hy,ht⟩;rcases sK y with rfl|⟨ys,rfl⟩|⟨ys,x,hx,rfl⟩
 ·right;exact⟨[],by simp[cj],ht⟩
 ·left;have h1:((ys++[0]).length:Int)=((ys.length+1:Nat):Int):=by simp
  have h2:ys.length<=9223372036854775807:=by simp at hy;omega
  refine⟨ys,?_,⟨by simp at hy⊢;omega,by rw[<-ht,nm]⟩,by simp⟩;simp only[cj,Option.bind_some,h1,y7 h2];rw[bq (a:=0) (by simp),oB (by simp)];simp
 right;have h1:((ys++[x]).length:Int)=((ys.length+1:Nat):Int):=by simp
 have h2:ys.length<=9223372036854775807:=by simp at hy;omega
 refine⟨ys++[x],?_,by rw[<-ht,o8 _ hx]⟩;simp only[cj,Option.bind_some,h1,y7 h2];rw[bq (a:=x) (by simp)];simp[hx]
def zc(n:Bool)(v:Nat):Zr:=⟨n&&v != 0,can 4294967296 v⟩
theorem FI(n:Bool):zc n 0=⟨false,[]⟩:=by simp[zc,nn]
theorem JK(n:Bool){v:Nat}(h:v≠0):zc n v=⟨n,can 4294967296 v⟩:=by simp[zc,h]
def BP(l:List Nat):Prop:=(∀x∈l,x<4294967296)/\l.length<=100000000000
abbrev vl(l:List Nat):Nat:=val 4294967296 l
theorem jq(n:Bool)(l:List Nat)(h:BP l):bX n l=some (zc n (vl l)):=by
 unfold bX;rw[xC l (by have:=h.2;omega),iJ (by decide) h.1];show _=some (zc n (val 4294967296 l));by_cases hz:val 4294967296 l=0
 ·rw[hz,FI];simp[nn]
 have:can 4294967296 (val 4294967296 l)≠[]:=λe=>hz (uH (by decide) e);rw[JK _ hz];simp[this]
theorem oF(n:Bool)(v:Nat)(h:v<18446744073709551616):dR n v=some (zc n v):=by
 unfold dR;by_cases hz:v=0
 ·subst hz;simp[FI]
 rw[JK _ hz];by_cases h1:v/2^32=0
 ·rw[LL (by decide) hz (by omega)];simp only[Option.bind_some,hz,h1,decide_false,decide_true,cond_false,cond_true];rw[Nat.mod_eq_of_lt (by omega)]
 rw[LM (by decide) (by omega) (by omega)];simp only[Option.bind_some,hz,h1,decide_false,cond_false];rw[Nat.mod_eq_of_lt (a:=v/2^32) (by omega)]
theorem JM{a b s:Nat}(h:a<2^s):a ||| b*2^s=a+b*2^s:=by
 rw[Nat.or_comm,Nat.mul_comm b,<-Nat.two_pow_add_eq_or_of_lt h,Nat.add_comm]
theorem low_eq(l:List Nat)(h:∀x∈l,x<4294967296)(hl:l.length<=2):c4 l=some (vl l):=by
 rcases l with _|⟨x,_|⟨y,_|⟨z,l⟩⟩⟩
 ·simp[c4,vl,val]
 ·have hx:=h x (by simp);simp only[c4,rf (l:=[x]) (a:=x) rfl];simp[vl,val];omega
 ·have hx:=h x (by simp);have hy:=h y (by simp);simp only[c4,rf (l:=[x,y]) (a:=x) Y,JC (l:=[x,y]) (a:=y) Y,Option.bind_some];rw[Nat.mod_eq_of_lt (a:=x) (by omega),Nat.mod_eq_of_lt (a:=y) (by omega),Nat.mod_eq_of_lt (a:=y*2^32) (by omega),JM (by omega),Nat.mod_eq_of_lt (by omega)];simp[vl,val];omega
 simp at hl
theorem fV(x c:Nat)(h:x+c<18446744073709551616):bK x c=some ((x+c)%4294967296,(x+c)/4294967296):=by
 simp[bK,Nat.mod_eq_of_lt h]
theorem jt(v w:Nat)(hv:(can 4294967296 v).length<=100000000000)(hw:(can 4294967296 w).length<=100000000000):cr (can 4294967296 v) (can 4294967296 w)=some (sL v w):=by
 unfold cr;rcases Nat.lt_trichotomy (can 4294967296 v).length (can 4294967296 w).length with hl|hl|hl
 ·rw[nN (sM (by decide) hl)];simp only[Option.bind_some];rw[show decide (((can 4294967296 v).length:Int)≠((can 4294967296 w).length:Int))=true by simp;omega,show decide (((can 4294967296 v).length:Int)<((can 4294967296 w).length:Int))=true by simp;omega];rfl
 ·simp only[Option.bind_some];rw[show decide (((can 4294967296 v).length:Int)≠((can 4294967296 w).length:Int))=false by simp;omega,cond_false];refine fz (λy=>∃n:Nat,y=(n:Int)-1/\n<=(can 4294967296 v).length/\v/4294967296^n=w/4294967296^n) (λe=>e=(if v=w then .inl ()else .inr (sL v w))) (λy=>(y+1).toNat) ?_ ⟨(can 4294967296 v).length,?_,Nat.le_refl _,?_⟩ ?_
  ·rintro y ⟨n,rfl,hn,he⟩;cases n with
   |zero=>
    right;have:v=w:=by simpa using he
    subst this;exact⟨_,by simp,Y⟩
   |succ m=>
    have F5:=ri (B:=4294967296) (by decide) (v:=v) (j:=m) (by omega);have TS:=ri (B:=4294967296) (by decide) (v:=w) (j:=m) (by omega);have e0:((m+1:Nat):Int)-1=(m:Int):=by omega
    rw[e0];rcases AJ he with⟨h1,h2⟩|⟨h1,h2⟩|⟨h1,h2⟩
    ·left;refine⟨(m:Int)-1,?_,⟨m,Y,by omega,h2⟩,by omega⟩;simp only[Option.bind_some,bq F5,bq TS,h1];rw[b8 (by omega) (by omega)];simp
    ·right;refine⟨.inr (-1),?_,by rw[if_neg (by omega),nN h2]⟩;simp only[Option.bind_some,bq F5,bq TS];simp[h1,Nat.ne_of_lt h1]
    right;refine⟨.inr 1,?_,by rw[if_neg (by omega),o9 h2]⟩;simp only[Option.bind_some,bq F5,bq TS];simp[Nat.not_lt_of_lt h1,Nat.ne_of_gt h1]
  ·rw[b8 (by omega) (by omega)]
  ·rw[zb (by decide) (Nat.le_refl _),zb (by decide) (by omega)]
  rintro e rfl;by_cases h:v=w
  ·subst h;simp[rm]
  simp[h]
 rw[o9 (sM (by decide) hl)];simp only[Option.bind_some];rw[show decide (((can 4294967296 v).length:Int)≠((can 4294967296 w).length:Int))=true by simp;omega,show decide (((can 4294967296 v).length:Int)<((can 4294967296 w).length:Int))=false by simp;omega];rfl
theorem xD{l:List Nat}(h:∀x∈l,x<4294967296)(i:Nat):l.getD i 0<4294967296:=by
 rcases Nat.lt_or_ge i l.length with hi|hi
 ·exact h _ (List.mem_of_getElem? (qg hi))
 rw[sq hi];decide
theorem wI(a b:List Nat)(ha:BP a)(hb:BP b):dM a b=some (dD 4294967296 (max a.length b.length+1) (vl a+vl b)):=by
 obtain⟨hA,hla⟩:=ha;obtain⟨hB,hlb⟩:=hb;have hV:val 4294967296 a<4294967296^(max a.length b.length):=Nat.lt_of_lt_of_le (eJ a hA) (Nat.pow_le_pow_right (by decide) (by omega));have hW:val 4294967296 b<4294967296^(max a.length b.length):=Nat.lt_of_lt_of_le (eJ b hB) (Nat.pow_le_pow_right (by decide) (by omega));unfold dM;simp only[Option.bind_some];rw[show max (a.length:Int) (b.length:Int)=((max a.length b.length:Nat):Int) by omega,bV (by omega),EM (by decide) (by omega),Option.bind_some];refine sJ (λk=>(xA 4294967296 (vl a) (vl b) k,dD 4294967296 k (vl a+vl b))) (by simp[zg,dD]) (λk hk=>?_) ?_
 ·have hx:=xD hA k;have hy:=xD hB k;have hc:=ze (B:=4294967296) (by decide) (vl a) (vl b) k;have ZY:=oE a hA k;have ZZ:=oE b hB k;simp only[Option.bind_some];rw[Nat.mod_eq_of_lt (a:=a.getD k 0) (by omega),Nat.mod_eq_of_lt (a:=b.getD k 0) (by omega),Nat.mod_eq_of_lt (a:=a.getD k 0+b.getD k 0) (by omega),fV _ _ (by omega)];simp only[Option.bind_some];rw[Aa (by decide) (by rw[bz];omega),Option.bind_some,ZY,ZZ,zf (by decide),xB (by decide),<-gB]
 have hc:=ze (B:=4294967296) (by decide) (vl a) (vl b) (max a.length b.length);simp only;rw[fV _ _ (by omega)];simp only[Option.bind_some];rw[Aa (by decide) (by rw[bz];omega),Option.bind_some,Nat.zero_add,BK hV hW,<-gB]
theorem wJ(a b:List Nat)(ha:BP a)(hb:BP b)(hl:b.length<=a.length)(hle:vl b<=vl a):cI a b=some (dD 4294967296 a.length (vl a-vl b)):=by
 obtain⟨hA,hla⟩:=ha;obtain⟨hB,hlb⟩:=hb;have hmx:max a.length b.length=a.length:=by omega
 unfold cI;simp only[Option.bind_some];rw[EM (by decide) (by omega),Option.bind_some,hmx];refine sJ (λk=>(vM 4294967296 (vl a) (vl b) k,dD 4294967296 k (vl a-vl b))) (by simp[zh,dD]) (λk hk=>?_) Y;have hx:=xD hA k;have hy:=xD hB k;have hc:=EN (B:=4294967296) (by decide) (vl a) (vl b) k;have ZY:=oE a hA k;have ZZ:=oE b hB k;simp only[Option.bind_some];rw[Nat.mod_eq_of_lt (a:=a.getD k 0) (by omega),Nat.mod_eq_of_lt (a:=b.getD k 0) (by omega),o6 (by omega) (by omega),Nat.mod_eq_of_lt (a:=a.getD k 0+(4294967295-b.getD k 0)) (by omega),fV _ _ (by omega)];simp only[Option.bind_some];rw[Aa (by decide) (by rw[bz];omega),Option.bind_some,ZY,ZZ,zj (B:=4294967296) (by decide),BL (B:=4294967296) (by decide) hle,<-gB]
theorem Dk(a b:List Nat)(ha:BP a)(hb:BP b):eX a b=some (dD 4294967296 (a.length+b.length) (vl a*vl b)):=by
 obtain⟨hA,hla⟩:=ha;obtain⟨hB,hlb⟩:=hb;unfold eX;simp only[Option.bind_some];rw[kA (by omega),vK (by decide) (by omega),Option.bind_some];refine cc (λi=>((i:Int),dD 4294967296 (a.length+b.length) (vl a%4294967296^i*vl b))) a.length (dD 4294967296 (a.length+b.length) (vl a%4294967296^a.length*vl b)) (by simp[Nat.mod_one,oD]) (λi hi=>?_) (by simp) (by rw[Nat.mod_eq_of_lt (eJ a hA)]);have Vf:=jr hA hi;have hx:val 4294967296 a/4294967296^i%4294967296<4294967296:=Nat.mod_lt _ (by decide);simp only[Option.bind_some,show decide ((i:Int)<(a.length:Int))=true by simp;omega,cond_true];rw[bq Vf,Option.bind_some];refine cc (λk=>((k:Int),mC 4294967296 (vl a) (vl b) i k,dD 4294967296 (a.length+b.length) (mV 4294967296 (vl a) (vl b) i k))) b.length (mC 4294967296 (vl a) (vl b) i b.length,dD 4294967296 (a.length+b.length) (mV 4294967296 (vl a) (vl b) i b.length)) (by simp[LF,LD]) (λk hk=>?_) (by simp) ?_
 ·have hgy:=jr hB hk;have Vg:=Qx (B:=4294967296) (by decide) (V:=vl a) (W:=vl b) (i:=i) (k:=k) (N:=a.length+b.length) (by omega);have hy:val 4294967296 b/4294967296^k%4294967296<4294967296:=Nat.mod_lt _ (by decide);have hp:vl a%4294967296^i*vl b/4294967296^(i+k)%4294967296<4294967296:=Nat.mod_lt _ (by decide);have hc:=N0 (B:=4294967296) (by decide) (vl a) (vl b) i k;have hxy:val 4294967296 a/4294967296^i%4294967296*(val 4294967296 b/4294967296^k%4294967296)<=4294967295*4294967295:=Nat.mul_le_mul (by omega) (by omega);simp only[Option.bind_some,show decide ((k:Int)<(b.length:Int))=true by simp;omega,cond_true];rw[bq hgy,Option.bind_some,kA (by omega),fK (by rw[bz];omega),Option.bind_some,Vg,Option.bind_some]
  rw[Nat.mod_eq_of_lt (a:=vl a%4294967296^i*vl b/4294967296^(i+k)%4294967296) (by omega),Nat.mod_eq_of_lt (a:=val 4294967296 a/4294967296^i%4294967296) (b:=18446744073709551616) (by omega),Nat.mod_eq_of_lt (a:=val 4294967296 b/4294967296^k%4294967296) (b:=18446744073709551616) (by omega),Nat.mod_eq_of_lt (a:=val 4294967296 a/4294967296^i%4294967296*(val 4294967296 b/4294967296^k%4294967296)) (by omega),Nat.mod_eq_of_lt (a:=vl a%4294967296^i*vl b/4294967296^(i+k)%4294967296+_) (by omega),fV _ _ (by omega)];simp only[Option.bind_some];rw[jd (by rw[bz];omega),Option.bind_some,LB (B:=4294967296) (by decide),LC (B:=4294967296) (by decide) (by omega),bV (by omega)]
 have hc:=N0 (B:=4294967296) (by decide) (vl a) (vl b) i b.length;simp only[Option.bind_some];rw[kA (by omega),fV _ _ (by omega)];simp only[Option.bind_some];rw[fK (by rw[bz];omega),Option.bind_some,jd (by rw[bz];omega),Option.bind_some,Qy (B:=4294967296) (by decide) (eJ b hB) (by omega),bV (by omega)]
end
section
open Go.Fw
theorem LN{a b s:Nat}(h:a<2^s):b*2^s ||| a=b*2^s+a:=by rw[Nat.or_comm,JM h,Nat.add_comm]
theorem FJ{a b:Nat}(h:a<4294967296):b*4294967296 ||| a=b*4294967296+a:=LN (s:=32) h
theorem Dl(a:List Nat)(d:Nat)(ha:BP a)(hd:0<d)(hd2:d<=4294967296):gx a d=some (vl a%d,dD 4294967296 a.length (vl a/d)):=by
 obtain⟨hA,hla⟩:=ha;unfold gx;simp only[Option.bind_some];rw[b8 (by omega) (by omega)];refine cc (λi=>(vl a/4294967296^(a.length-i)%d,((a.length-i:Nat):Int)-1,dD 4294967296 a.length (qU 4294967296 (vl a) d (a.length-i)))) a.length (vl a%d,dD 4294967296 a.length (vl a/d)) ?_ (λi hi=>?_) (by simp[LG]) ?_
 ·simp only[Nat.sub_zero];rw[Qz (eJ a hA),xz a hA,Nat.div_eq_of_lt (eJ a hA),Nat.zero_mod]
 ·obtain⟨m,hm⟩:∃m,a.length-i=m+1:=⟨a.length-i-1,by omega⟩;have hm':a.length-(i+1)=m:=by omega
  have hml:m<a.length:=by omega
  rw[hm,hm'];have hy:vl a/4294967296^m%4294967296<4294967296:=Nat.mod_lt _ (by decide);have hr:vl a/4294967296^(m+1)%d<d:=Nat.mod_lt _ hd;have hq:=LI (B:=4294967296) (by decide) hd (vl a) m;have hqd:(vl a/4294967296^(m+1)%d*4294967296+vl a/4294967296^m%4294967296)/d<4294967296:=by rw[Nat.div_lt_iff_lt_mul hd,Nat.mul_comm 4294967296 d];exact hq
  have hg:=QA (B:=4294967296) (by decide) (V:=vl a) (d:=d) (m:=m) (N:=a.length) hml;have hlt:vl a/4294967296^(m+1)%d*4294967296+vl a/4294967296^m%4294967296<18446744073709551616:=by omega
  have Hg:vl a/4294967296^(m+1)%d*4294967296<18446744073709551616:=Nat.lt_of_le_of_lt (Nat.le_add_right _ _) hlt;have wO:vl a/4294967296^m%4294967296<18446744073709551616:=Nat.lt_of_le_of_lt (Nat.le_add_left _ _) hlt;have Rt:((m+1:Nat):Int)-1=(m:Int):=by omega
  simp only[Rt,show decide ((0:Int)<=(m:Int))=true by simp,cond_true,Option.bind_some];rw[fK (by rw[bz];omega),Option.bind_some,hg];simp only[Option.bind_some];rw[show(2:Nat)^32=4294967296 from rfl];rw[Nat.mod_eq_of_lt (a:=vl a/4294967296^(m+1)%d*4294967296) Hg,Nat.mod_eq_of_lt (a:=vl a/4294967296^m%4294967296) (b:=18446744073709551616) wO,FJ hy,Nat.mod_eq_of_lt (a:=vl a/4294967296^(m+1)%d*4294967296+vl a/4294967296^m%4294967296) hlt,BI (by omega) hlt,xy (by omega)];simp only[Option.bind_some];rw[Nat.mod_eq_of_lt (b:=4294967296) (a:=(vl a/4294967296^(m+1)%d*4294967296+vl a/4294967296^m%4294967296)/d) hqd,jd (by rw[bz];omega),Option.bind_some,b8 (by omega) (by omega)];rw[LK (B:=4294967296) (by decide) hd hml,<-JI (B:=4294967296) (d:=d) (vl a) m]
 simp only;rw[oC (by rw[bz]),Option.bind_some]
theorem shiftLeft_eq(a:List Nat)(s:Nat)(ha:BP a)(hs:s<32):ei a s=some (dD 4294967296 (a.length+1) (vl a*2^s)):=by
 obtain⟨hA,hla⟩:=ha;have hf:2^s<4294967296:=by
  have:2^s<2^32:=Nat.pow_lt_pow_right (by decide) hs;omega
 unfold ei;simp only[Option.bind_some];rw[bV (by omega),EM (by decide) (by omega),Option.bind_some];refine cc (λi=>((i:Int),sC 4294967296 (vl a) (2^s) 0 i,dD 4294967296 i (vl a*2^s+0))) a.length (sC 4294967296 (vl a) (2^s) 0 a.length,dD 4294967296 a.length (vl a*2^s+0)) (by simp[BN,dD]) (λi hi=>?_) (by simp) ?_
 ·have hx:vl a/4294967296^i%4294967296<4294967296:=Nat.mod_lt _ (by decide);have hc:=JH (B:=4294967296) (by decide) (V:=vl a) hf (show(0:Nat)<4294967296 by decide) i;have hxf:vl a/4294967296^i%4294967296*2^s<=4294967295*4294967295:=Nat.mul_le_mul (by omega) (by omega);have hg:a[i]? =some (vl a/4294967296^i%4294967296):=jr hA hi;simp only[show decide ((i:Int)<(a.length:Int))=true by simp;omega,cond_true];rw[bq hg];simp only[Option.bind_some];rw[show min s 64=s by omega,Nat.mod_eq_of_lt (a:=vl a/4294967296^i%4294967296) (b:=18446744073709551616) (by omega),Nat.mod_eq_of_lt (b:=18446744073709551616) (by omega),fV _ _ (by omega)];simp only[Option.bind_some];rw[Aa (by decide) (by rw[bz];omega),Option.bind_some,BO (B:=4294967296) (by decide),ER (B:=4294967296) (by decide),bV (by omega),<-gB]
 have hc:=JH (B:=4294967296) (by decide) (V:=vl a) hf (show(0:Nat)<4294967296 by decide) a.length;simp only;rw[fV _ _ (by omega)];simp only[Option.bind_some];rw[Aa (by decide) (by rw[bz];omega),Option.bind_some,Nat.zero_add,ES (eJ a hA),<-gB];simp
theorem Ab(a:List Nat)(s:Nat):gH a s=ei a s:=rfl
def sN:KH:=[0,1,2,2,3,3,3,3,4,4,4,4,4,4,4,4,5,5,5,5,5,5,5,5,5,5,5,5,5,5,5,5]++List.replicate 32 6++List.replicate 64 7++List.replicate 128 8
theorem QB:∀y:Nat,y<256->rP sN (y:Int)=some ((rP sN (y:Int)).getD 0)/\(rP sN (y:Int)).getD 0<=8/\y<2^(rP sN (y:Int)).getD 0/\(y=0\/2^(rP sN (y:Int)).getD 0<=2*y):=by decide+kernel
set_option maxRecDepth 20000 in
theorem JN(x:Nat)(h:x<4294967296):∃n:Nat,fE x=some (n:Int)/\n<=32/\x<2^n/\(x=0\/2^n<=2*x):=by
 have key:∀(y k:Nat),y<256->y=x/2^k->k<=24->(x≠0->y≠0)->∃n:Nat,(((rP sN ((y%256:Nat):Int)).bind λfX=>(some (IntKind.i64.wrap (fX:Int))).bind λez=>(some (IntKind.i64.wrap ((k:Int)+ez))).bind λeF=>some eF)=some (n:Int))/\n<=32/\x<2^n/\(x=0\/2^n<=2*x):=by
  intro y k hy hyx hk hnz;obtain⟨h1,h2,h3,h4⟩:=QB y hy;rw[Nat.mod_eq_of_lt hy,h1];generalize (rP sN (y:Int)).getD 0=t at*;have hp:0<2^k:=Nat.two_pow_pos _;have e1:2^(k+t)=2^k*2^t:=Nat.pow_add ..;have e2:=Nat.div_add_mod x (2^k);have e3:=Nat.mod_lt x hp;rw[<-hyx]at e2;refine⟨k+t,?_,by omega,?_,?_⟩
  ·simp only[Option.bind_some];rw[fo (by omega),kA (by omega)]
  ·rw[e1];have:2^k*(y+1)<=2^k*2^t:=Nat.mul_le_mul_left _ h3;rw[Nat.mul_add]at this;omega
  rcases h4 with h4|h4
  ·left;cases Nat.eq_zero_or_pos x with
   |inl h=>exact h
   |inr h=>exact absurd h4 (hnz (by omega))
  right;rw[e1];have:2^k*2^t<=2^k*(2*y):=Nat.mul_le_mul_left _ h4;rw[show 2^k*(2*y)=2*(2^k*y) by rw[Nat.mul_left_comm]]at this;omega
 unfold fE;simp only[cj,Option.bind_some];by_cases c1:65536<=x
 ·rw[show decide (65536<=x)=true by simpa using c1];simp only[cond_true];by_cases c2:256<=x/2^16
  ·rw[show decide (256<=x/2^16)=true by simpa using c2];simp only[cond_true];rw[show IntKind.i64.wrap (16+8)=((24:Nat):Int) by decide];exact key (x/2^16/2^8) 24 (by omega) (by omega) (by omega) (by omega)
  rw[show decide (256<=x/2^16)=false by simpa using c2];simp only[cond_false];exact key (x/2^16) 16 (by omega) Y (by omega) (by omega)
 rw[show decide (65536<=x)=false by simpa using c1];simp only[cond_false];by_cases c2:256<=x
 ·rw[show decide (256<=x)=true by simpa using c2];simp only[cond_true];rw[show IntKind.i64.wrap (0+8)=((8:Nat):Int) by decide];exact key (x/2^8) 8 (by omega) Y (by omega) (by omega)
 rw[show decide (256<=x)=false by simpa using c2];simp only[cond_false];exact key x 0 (by omega) (by simp) (by omega) (λh=>h)
theorem TT(x:Nat)(h:x<4294967296)(h0:x≠0):∃s:Nat,cP x=some (s:Int)/\s<32/\2147483648<=x*2^s/\x*2^s<4294967296:=by
 obtain⟨n,h1,h2,h3,h4⟩:=JN x h;have h4:2^n<=2*x:=h4.resolve_left h0;have hn:n≠0:=by rintro rfl;simp at h3;omega
 refine⟨32-n,?_,by omega,?_,?_⟩
 ·unfold cP;rw[h1];simp only[Option.bind_some];rw[b8 (by omega) (by omega)];congr 1;omega
 ·have:2^n*2^(32-n)<=2*x*2^(32-n):=Nat.mul_le_mul_right _ h4;rw[<-Nat.pow_add,show n+(32-n)=32 by omega,Nat.mul_assoc]at this;omega
 have:x*2^(32-n)<2^n*2^(32-n):=Nat.mul_lt_mul_of_pos_right h3 (Nat.two_pow_pos _);rw[<-Nat.pow_add,show n+(32-n)=32 by omega]at this;omega
end
end Go.Proofs.YtdpjpoekcgigkaaGreat
namespace Go.Fw
section
section TU
variable {B V U W:Nat}
theorem QC{P F T:Nat}(hP:0<P)(hF:0<F)(hV:F*P<=V)(hU:U<(T+1)*P):U/V<=T/F:=by
 have QD:0<V:=Nat.lt_of_lt_of_le (Nat.mul_pos hF hP) hV;rw[Nat.le_div_iff_mul_le hF];rcases Nat.lt_or_ge T (U/V*F)with h|h
 ·exfalso;have h1:U/V*V<=U:=Nat.div_mul_le_self U V;have h2:U/V*(F*P)<=U/V*V:=Nat.mul_le_mul_left _ hV;have h3:(T+1)*P<=U/V*F*P:=Nat.mul_le_mul_right _ h;rw[Nat.mul_assoc]at h3;omega
 exact h
theorem LO{P F S T u g r:Nat}(hV:(F*B+S)*P<=V)(hU:U<(T*B+u+1)*P)(RQ:g*F+r=T)(h:r*B+u<g*S):U<g*V:=by
 have h1:g*((F*B+S)*P)<=g*V:=Nat.mul_le_mul_left _ hV;have h2:(T*B+u+1)*P<=g*(F*B+S)*P:=by
  apply Nat.mul_le_mul_right;rw[Nat.mul_add,<-Nat.mul_assoc,<-RQ,Nat.add_mul];omega
 rw[Nat.mul_assoc]at h2;omega
theorem QE{P V2 U2 g:Nat}(hV:V<(V2+1)*P)(hU:U2*P<=U)(hq:U/V<B)(hB:B<=V2)(QD:0<V)(h:g*V2<=U2):g<=U/V+1:=by
 rcases Nat.lt_or_ge (U/V+1) g with h'|h'
 ·exfalso;have h1:U<(U/V+1)*V:=by have:=Nat.lt_div_mul_add (a:=U) QD;rw[Nat.add_mul,Nat.one_mul];exact this
  have h2:(U/V+1)*V<=(U/V+1)*((V2+1)*P):=Nat.mul_le_mul_left _ (Nat.le_of_lt hV);have h3:g*V2*P<=U2*P:=Nat.mul_le_mul_right _ h;have h4:(U/V+2)*V2<=g*V2:=Nat.mul_le_mul_right _ h';have h5:(U/V+2)*V2*P<=g*V2*P:=Nat.mul_le_mul_right _ h4;have h6:(U/V+1)*((V2+1)*P)<=(U/V+2)*V2*P:=by
   rw[<-Nat.mul_assoc];apply Nat.mul_le_mul_right;rw[Nat.mul_add,Nat.add_mul (U/V) 2 V2,Nat.add_mul (U/V) 1 V2];omega
  omega
 exact h'
end TU
def mix(B o i X U A:Nat):Nat:=A%B^o+B^o*(X%B^i+B^i*(U/B^i))
theorem FK(B o i X U A:Nat):mix B o i X U A%B^o=A%B^o:=by rw[mix,Nat.add_mul_mod_self_left,Nat.mod_mod]
section mix
variable {B:Nat}(hB:0<B)(o i X U A:Nat)
include hB
theorem uJ:mix B o i X U A/B^o=X%B^i+B^i*(U/B^i):=by
 rw[mix,Nat.add_mul_div_left _ _ (Nat.pow_pos hB),Nat.div_eq_of_lt (Nat.mod_lt _ (Nat.pow_pos hB)),Nat.zero_add]
theorem uK:mix B o i X U A/B^(o+i)=U/B^i:=by
 rw[Nat.pow_add,<-Nat.div_div_eq_div_mul,uJ hB,Nat.add_mul_div_left _ _ (Nat.pow_pos hB),Nat.div_eq_of_lt (Nat.mod_lt _ (Nat.pow_pos hB)),Nat.zero_add]
theorem LP:mix B o i X U A%B^(o+i)=A%B^o+B^o*(X%B^i):=by
 rw[Nat.pow_add,Nat.mod_mul,FK,uJ hB,Nat.add_mul_mod_self_left,Nat.mod_mod]
theorem BQ{N:Nat}(h:o+i<N):(dD B N (mix B o i X U A)).set (o+i) (X/B^i%B)=dD B N (mix B o (i+1) X U A):=by
 apply rj hB h (Nat.mod_lt _ hB)
 ·rw[LP hB,Nat.pow_add,Nat.mod_mul,FK,uJ hB,Nat.pow_succ B i,Nat.mul_assoc,Nat.add_mul_mod_self_left,Nat.mod_mul,Nat.add_mul_mod_self_left,Nat.mod_mod]
 ·rw[Nat.pow_add,<-Nat.div_div_eq_div_mul,uJ hB,Nat.pow_succ B i,Nat.mod_mul,Nat.mul_assoc,Nat.add_assoc,<-Nat.mul_add,Nat.add_mul_div_left _ _ (Nat.pow_pos hB),Nat.div_eq_of_lt (Nat.mod_lt _ (Nat.pow_pos hB)),Nat.zero_add,Nat.add_mul_mod_self_left,Nat.mod_mod]
 have h1:=uK hB o (i+1) X U A;have h2:=uK hB o i X U A;rw[show o+i+1=o+(i+1) by omega,h1,show o+(i+1)=(o+i)+1 by omega,Nat.pow_succ B (o+i),<-Nat.div_div_eq_div_mul,h2,Nat.pow_succ,<-Nat.div_div_eq_div_mul]
end mix
theorem Dm{B o m X U A:Nat}(hU:U<B^m):mix B o m X U A=A%B^o+B^o*(X%B^m):=by rw[mix,Nat.div_eq_of_lt hU];simp
theorem Dn{B:Nat}(o X A:Nat):mix B o 0 X (A/B^o) A=A:=by
 simp only[mix,Nat.pow_zero,Nat.mod_one,Nat.zero_add,Nat.one_mul,Nat.div_one];exact Nat.mod_add_div A (B^o)
theorem GX{B U U' T i:Nat}(h:U%B^i=U'%B^i):vM B U T i=vM B U' T i:=by rw[vM,vM,h]
theorem JO{B:Nat}(hB:0<B){U T m i:Nat}(hi:i<m)(hT:T<=U+B^m):(U/B^i%B+(B-1-T/B^i%B)+vM B U T i)%B=(U+B^m-T)/B^i%B:=by
 have e:B^m=B^i*(B*B^(m-i-1)):=by rw[<-Nat.pow_succ',<-Nat.pow_add];congr 1;omega
 have h1:(U+B^m)%B^i=U%B^i:=by rw[e,Nat.add_mul_mod_self_left]
 have h2:(U+B^m)/B^i%B=U/B^i%B:=by rw[e,Nat.add_mul_div_left _ _ (Nat.pow_pos hB),Nat.add_mul_mod_self_left]
 rw[<-h2,GX (U':=U+B^m) h1.symm,BL hB hT]
theorem LQ{B m U T:Nat}(hB:0<B)(hU:U<B^m)(hT:T<B^m):vM B U T m=if U<T then 0 else 1:=by
 rw[vM,Nat.mod_eq_of_lt hU,Nat.mod_eq_of_lt hT];have hp:0<B^m:=Nat.pow_pos hB;split
 ·exact Nat.div_eq_of_lt (by omega)
 rw[show U+B^m-T=(U-T)+B^m by omega,Nat.add_div_right _ hp,Nat.div_eq_of_lt (by omega)]
end
end Go.Fw
namespace Go.Proofs.YtdpjpoekcgigkaaGreat
section
open Go.Fw
theorem lP{N A j:Nat}(h:j<N):(dD 4294967296 N A)[j]? =some (A/4294967296^j%4294967296):=uG N A j h
theorem two32:(2:Nat)^32=4294967296:=rfl
theorem TV:(2:Nat)^63=9223372036854775808:=rfl
theorem BR(A o j:Nat):A/4294967296^(o+j)=A/4294967296^o/4294967296^j:=by rw[Nat.pow_add,Nat.div_div_eq_div_mul]
theorem Dp{N A o n:Nat}{v:List Nat}(hv:BP v)(hn:v.length=n+2)(hN:N<=100000000001)(ho:o+(n+2)<N)
  (hU:A/4294967296^o<4294967296*vl v) (JP:2147483648*4294967296^(n+1)<=vl v):
  ∃r,gy (dD 4294967296 N A) o (n+3) v=some r/\r.2=dD 4294967296 N A/\A/4294967296^o/vl v<=r.1/\r.1<=A/4294967296^o/vl v+1:=by
 obtain⟨hV,hlv⟩:=hv;obtain⟨U,Kg⟩:∃U,A/4294967296^o=U:=⟨_,Y⟩;obtain⟨V,Kh⟩:∃V,vl v=V:=⟨_,Y⟩;have xh:V<4294967296^(n+2):=by rw[<-Kh,<-hn];exact eJ v hV
 have N4:0<4294967296^(n+1):=Nat.pow_pos (by decide);have hP:0<4294967296^n:=Nat.pow_pos (by decide);have QF:4294967296^(n+1)=4294967296^n*4294967296:=Nat.pow_succ ..;have Dq:4294967296^(n+2)=4294967296^(n+1)*4294967296:=Nat.pow_succ ..;rw[Kg,Kh]at hU⊢;rw[Kh]at JP;have TW:U<4294967296^(n+1)*4294967296*4294967296:=by
  have:4294967296*V<4294967296*4294967296^(n+2):=Nat.mul_lt_mul_of_pos_left xh (by decide);rw[Dq]at this;omega
 obtain⟨F,hF⟩:∃F,V/4294967296^(n+1)=F:=⟨_,Y⟩;obtain⟨S,hS⟩:∃S,V/4294967296^n%4294967296=S:=⟨_,Y⟩;obtain⟨T,hT⟩:∃T,U/4294967296^(n+1)=T:=⟨_,Y⟩;obtain⟨u,hu⟩:∃u,U/4294967296^n%4294967296=u:=⟨_,Y⟩;have Z0:F<4294967296:=by rw[<-hF,Nat.div_lt_iff_lt_mul N4];rw[Dq,Nat.mul_comm]at xh;exact xh
 have adh:2147483648<=F:=by rw[<-hF,Nat.le_div_iff_mul_le N4];exact JP
 have adi:S<4294967296:=by rw[<-hS];exact Nat.mod_lt _ (by decide)
 have TX:u<4294967296:=by rw[<-hu];exact Nat.mod_lt _ (by decide)
 have Z1:T<4294967296*4294967296:=by rw[<-hT,Nat.div_lt_iff_lt_mul N4];rw[Nat.mul_comm,<-Nat.mul_assoc];exact TW
 have Z2:V/4294967296^n=F*4294967296+S:=by rw[<-hF,<-hS,QF,<-Nat.div_div_eq_div_mul,Nat.mul_comm,Nat.div_add_mod]
 have Z3:U/4294967296^n=T*4294967296+u:=by rw[<-hT,<-hu,QF,<-Nat.div_div_eq_div_mul,Nat.mul_comm,Nat.div_add_mod]
 have hq:U/V<4294967296:=by rw[Nat.div_lt_iff_lt_mul (by omega)];exact hU
 have TY:(F*4294967296+S)*4294967296^n<=V:=by rw[<-Z2];exact Nat.div_mul_le_self _ _
 have TZ:V<(F*4294967296+S+1)*4294967296^n:=by rw[<-Z2,Nat.add_mul,Nat.one_mul];exact Nat.lt_div_mul_add hP
 have T0:(T*4294967296+u)*4294967296^n<=U:=by rw[<-Z3];exact Nat.div_mul_le_self _ _
 have T1:U<(T*4294967296+u+1)*4294967296^n:=by rw[<-Z3,Nat.add_mul,Nat.one_mul];exact Nat.lt_div_mul_add hP
 have N5:F*4294967296^(n+1)<=V:=by rw[<-hF];exact Nat.div_mul_le_self _ _
 have N6:U<(T+1)*4294967296^(n+1):=by rw[<-hT,Nat.add_mul,Nat.one_mul];exact Nat.lt_div_mul_add N4
 have N7:V<(F+1)*4294967296^(n+1):=by rw[<-hF,Nat.add_mul,Nat.one_mul];exact Nat.lt_div_mul_add N4
 have hTF:T<4294967296*(F+1):=by
  rw[<-hT,Nat.div_lt_iff_lt_mul N4];have:4294967296*V<4294967296*((F+1)*4294967296^(n+1)):=Nat.mul_lt_mul_of_pos_left N7 (by decide);rw[Nat.mul_assoc];omega
 have g1:(dD 4294967296 N A)[o+(n+2)]? =some (U/4294967296^(n+2)%4294967296):=by rw[lP (by omega),BR,Kg]
 have g2:(dD 4294967296 N A)[o+(n+1)]? =some (U/4294967296^(n+1)%4294967296):=by rw[lP (by omega),BR,Kg]
 have g3:(dD 4294967296 N A)[o+n]? =some u:=by rw[lP (by omega),BR,Kg,hu]
 have g4:v[n+1]? =some F:=by rw[jr hV (by omega),show val 4294967296 v=V from Kh,hF,Nat.mod_eq_of_lt Z0]
 have g5:v[n]? =some S:=by rw[jr hV (by omega),show val 4294967296 v=V from Kh,hS]
 have hun:U/4294967296^(n+2)<4294967296:=by rw[Dq,<-Nat.div_div_eq_div_mul,hT,Nat.div_lt_iff_lt_mul (by decide)];exact Z1
 have ET:U/4294967296^(n+2)%4294967296*4294967296+U/4294967296^(n+1)%4294967296=T:=by
  rw[Nat.mod_eq_of_lt hun,Dq,<-Nat.div_div_eq_div_mul,hT,Nat.mul_comm,Nat.div_add_mod]
 obtain⟨t1,Z4⟩:∃t,U/4294967296^(n+2)%4294967296=t:=⟨_,Y⟩;obtain⟨t2,Z5⟩:∃t,U/4294967296^(n+1)%4294967296=t:=⟨_,Y⟩;have l1:t1<4294967296:=by rw[<-Z4];exact Nat.mod_lt _ (by decide)
 have l2:t2<4294967296:=by rw[<-Z5];exact Nat.mod_lt _ (by decide)
 rw[Z4]at g1 ET;rw[Z5]at g2 ET;clear Z4 Z5 Z3 Z2;have c1:((n+2:Nat):Int)-1=((n+1:Nat):Int):=by omega
 have c2:((n+2:Nat):Int)-2=(n:Int):=by omega
 unfold gy;simp only[Option.bind_some,hn,c1,c2];rw[fo (by omega),fo (by omega),xx (by omega),xx (by omega),xx (by omega)];simp only[Option.bind_some];rw[g1,g2,bq g4,bq g5];simp only[Option.bind_some,two32];rw[Nat.mod_eq_of_lt (a:=t1) (by omega),Nat.mod_eq_of_lt (a:=t2) (by omega),Nat.mod_eq_of_lt (a:=t1*4294967296) (by omega),FJ l2,ET,Nat.mod_eq_of_lt (a:=T) (by omega),Nat.mod_eq_of_lt (a:=F) (by omega),Nat.mod_eq_of_lt (a:=S) (by omega),BI (by omega) (by omega),xy (by omega)];simp only[Option.bind_some];have Z6:=QC (V:=V) (U:=U) N4 (show 0<F by omega) N5 N6;have hle:∀g,g*(F*4294967296+S)<=T*4294967296+u->g<=U/V+1:=λg h=>QE (B:=4294967296) TZ T0 hq (by omega) (by omega) h;have Z7:∀g r,g*F+r=T->r*4294967296+u<g*S->U/V<g:=λg r i1 ht=>(Nat.div_lt_iff_lt_mul (by omega)).2 (LO TY T1 i1 ht);have Z8:T/F<=4294967297:=by
  have:T/F<4294967298:=by
   rw[Nat.div_lt_iff_lt_mul (by omega)];omega
  omega
 generalize U/V=q at*;clear TY TZ T0 T1 N5 N6 N7 hTF TW JP xh QF Dq hP N4 hF hS hT hu Kg Kh hU;have hdm:=Nat.div_add_mod T F;have hml:=Nat.mod_lt T (show 0<F by omega);have Z9:T/F*F+T%F=T:=by rw[Nat.mul_comm];exact hdm
 clear hdm;refine dB (λx=>x.1*F+x.2=T/\q<=x.1/\x.2<4294967296/\x.1<=4294967297) (λe=>q<=e/\e<=q+1) (λx=>x.1) ?_ ⟨Z9,Z6,by show T%F<_;omega,Z8⟩ ?_
 ·rintro⟨g,r⟩ ⟨i1,i2,i3,i4⟩;simp only at i1 i2 i3 i4;have down:q<g->(∃s',(bif decide ((r+F)%18446744073709551616/4294967296≠0)then some (.inr (mW 18446744073709551616 g 1))else some (.inl (mW 18446744073709551616 g 1,(r+F)%18446744073709551616)):Option ((Nat×Nat)⊕Nat))=some (.inl s')/\(s'.1*F+s'.2=T/\q<=s'.1/\s'.2<4294967296/\s'.1<=4294967297)/\s'.1<g)\/
    (∃e,(bif decide ((r+F)%18446744073709551616/4294967296≠0)then some (.inr (mW 18446744073709551616 g 1))else some (.inl (mW 18446744073709551616 g 1,(r+F)%18446744073709551616)):Option ((Nat×Nat)⊕Nat))=some (.inr e)/\q<=e/\e<=q+1):=by
   intro hlt;have e1:(g-1)*F+(r+F)=T:=by
    obtain⟨k,rfl⟩:∃k,g=k+1:=⟨g-1,by omega⟩;rw[Nat.add_sub_cancel];rw[Nat.add_mul]at i1;omega
   rw[o6 (by omega) (by omega),Nat.mod_eq_of_lt (a:=r+F) (by omega)];by_cases hb:r+F<4294967296
   ·left;refine⟨(g-1,r+F),by simp[Nat.div_eq_of_lt hb],⟨e1,by simp only;omega,hb,by simp only;omega⟩,by simp only;omega⟩
   right;have hne:(r+F)/4294967296≠0:=by omega
   refine⟨g-1,by simp[hne],by omega,?_⟩;refine hle _ ?_;have m1:(g-1)*S<=4294967296*4294967295:=Nat.mul_le_mul (by omega) (by omega);rw[Nat.mul_add,<-Nat.mul_assoc];have m2:((g-1)*F+(r+F))*4294967296=T*4294967296:=by rw[e1]
   rw[Nat.add_mul]at m2;omega
  simp only[cj,bw];by_cases hg:g<4294967296
  ·rw[show decide (g/4294967296≠0)=false by simp;omega];have hgS:g*S<=4294967295*4294967295:=Nat.mul_le_mul (by omega) (by omega);simp only[fu];rw[g3];simp only[bw];rw[Nat.mod_eq_of_lt (a:=g*S) (by omega),Nat.mod_eq_of_lt (a:=r*4294967296) (by omega),Nat.mod_eq_of_lt (a:=u) (by omega),FJ TX,Nat.mod_eq_of_lt (a:=r*4294967296+u) (by omega)];by_cases ht:r*4294967296+u<g*S
   ·rw[show decide (r*4294967296+u<g*S)=true by simpa using ht];simp only[bw,eD];exact down (Z7 _ _ i1 ht)
   rw[show decide (r*4294967296+u<g*S)=false by simpa using ht];right;refine⟨g,by simp,i2,?_⟩;refine hle _ ?_;rw[Nat.mul_add,<-Nat.mul_assoc,<-i1,Nat.add_mul];omega
  rw[show decide (g/4294967296≠0)=true by simp;omega];simp only[bw,eD];exact down (by omega)
 rintro e ⟨h2,h3⟩;exact⟨(e,dD 4294967296 N A),by rw[oC Y,Option.bind_some],Y,h2,h3⟩
end
section
open Go.Fw
theorem rL{N A o n f:Nat}{v:List Nat}(hv:BP v)(hn:v.length=n)(hN:N<=100000000001)(ho:o+n<N)(hf:f<=4294967296)
  (hU:A/4294967296^o<4294967296^(n+1)):
  cJ (dD 4294967296 N A) o (n+1) v f=some (decide (A/4294967296^o<vl v*f),dD 4294967296 N (A%4294967296^o+4294967296^o*((A/4294967296^o+4294967296^(n+1)-vl v*f)%4294967296^(n+1)))):=by
 obtain⟨hV,hlv⟩:=hv;obtain⟨U,Kg⟩:∃U,A/4294967296^o=U:=⟨_,Y⟩;obtain⟨V,Kh⟩:∃V,vl v=V:=⟨_,Y⟩;have xh:V<4294967296^n:=by rw[<-Kh,<-hn];exact eJ v hV
 have HF:4294967296^(n+1)=4294967296^n*4294967296:=Nat.pow_succ ..;have hT:V*f<4294967296^(n+1):=by
  rw[HF]
  calc V*f<=V*4294967296:=Nat.mul_le_mul_left _ hf
   _<4294967296^n*4294967296:=Nat.mul_lt_mul_of_pos_right xh (by decide)
 rw[Kg]at hU⊢;rw[Kh];obtain⟨X,hX⟩:∃X,U+4294967296^(n+1)-V*f=X:=⟨_,Y⟩;rw[hX];unfold cJ;simp only[bw];have QG:∀i,vM 4294967296 U (V*f) i<=1:=λi=>EN (by decide) _ _ _;refine cc (λi=>(1-vM 4294967296 U (V*f) i,(i:Int),sC 4294967296 V f 0 i,dD 4294967296 N (mix 4294967296 o i X U A))) (n+1) (1-vM 4294967296 U (V*f) (n+1),dD 4294967296 N (mix 4294967296 o (n+1) X U A)) ?_ (λi hi=>?_) ?_ ?_
 ·rw[zh,BN,<-Kg,Dn];rfl
 ·
  obtain⟨t,ht⟩:∃t,V*f/4294967296^i%4294967296=t:=⟨_,Y⟩;obtain⟨c,hc⟩:∃c,sC 4294967296 V f 0 i=c:=⟨_,Y⟩;obtain⟨p,hp⟩:∃p,V/4294967296^i%4294967296*f=p:=⟨_,Y⟩;have adk:c<4294967296:=by
   rw[<-hc,sC,sT,Nat.add_zero,Nat.div_lt_iff_lt_mul (Nat.pow_pos (by decide))]
   calc V%4294967296^i*f<=V%4294967296^i*4294967296:=Nat.mul_le_mul_left _ hf
    _<4294967296*4294967296^i:=by rw[Nat.mul_comm];exact Nat.mul_lt_mul_of_pos_left (Nat.mod_lt _ (Nat.pow_pos (by decide))) (by decide)
  have adl:p<=4294967295*4294967296:=by
   rw[<-hp];exact Nat.mul_le_mul (by have:=Nat.mod_lt (V/4294967296^i) (show 0<4294967296 by decide);omega) hf
  have EP:(p+c)%4294967296=t:=by rw[<-hp,<-hc,ER (B:=4294967296) (by decide),Nat.add_zero,ht]
  have hstep:(p+c)/4294967296=sC 4294967296 V f 0 (i+1):=by rw[<-hp,<-hc,BO (B:=4294967296) (by decide)]
  have adm:t<4294967296:=by rw[<-ht];exact Nat.mod_lt _ (by decide)
  obtain⟨u,hu⟩:∃u,U/4294967296^i%4294967296=u:=⟨_,Y⟩;have TX:u<4294967296:=by rw[<-hu];exact Nat.mod_lt _ (by decide)
  have hg:(dD 4294967296 N (mix 4294967296 o i X U A))[o+i]? =some u:=by rw[lP (by omega),uK (by decide),hu]
  have hl:=QG i;obtain⟨l,hle⟩:∃l,vM 4294967296 U (V*f) i=l:=⟨_,Y⟩;have hxd:(u+(4294967296-1-t)+l)%4294967296=X/4294967296^i%4294967296:=by rw[<-hu,<-ht,<-hle,JO (B:=4294967296) (by decide) hi (by omega),hX]
  have hls:(u+(4294967296-1-t)+l)/4294967296=vM 4294967296 U (V*f) (i+1):=by rw[<-hu,<-ht,<-hle,zj (B:=4294967296) (by decide)]
  rw[hle]at hl;have hput:=BQ (B:=4294967296) (by decide) o i X U A (N:=N) (by omega);rw[hle,hc,<-hls];simp only[show decide ((i:Int)<((n+1:Nat):Int))=true by simp;omega,eD,bw,cj];rw[xx (by omega)];simp only[bw,hg];have way:∀k:Nat->Option ((Nat×Int×Nat×List Nat)⊕(Nat×List Nat)),(bif decide ((i:Int)<(v.length:Int))then(cm v (i:Int)).bind λg9=>k (g9%18446744073709551616*f%18446744073709551616)else k 0)=k p:=by
   intro k;by_cases hin:i<v.length
   ·rw[show decide ((i:Int)<(v.length:Int))=true by simp;omega,eD];have F5:v[i]? =some (V/4294967296^i%4294967296):=by rw[<-Kh];exact jr hV hin
    rw[bq F5,bw,Nat.mod_eq_of_lt (a:=V/4294967296^i%4294967296) (b:=18446744073709551616) (by have:=Nat.mod_lt (V/4294967296^i) (show 0<4294967296 by decide);omega),hp,Nat.mod_eq_of_lt (a:=p) (by omega)]
   rw[show decide ((i:Int)<(v.length:Int))=false by simp;omega,fu];have:V/4294967296^i=0:=Nat.div_eq_of_lt (Nat.lt_of_lt_of_le xh (Nat.pow_le_pow_right (by decide) (by omega)));rw[<-hp,this];simp
  refine(way (λy=>(bK y c).bind _)).trans ?_;rw[fV _ _ (by omega)];simp only[bw];rw[EP,hstep,Nat.mod_eq_of_lt (a:=u) (by omega),Nat.mod_eq_of_lt (a:=t) (by omega)];rw[jd (by rw[bz];omega),bw,bV (by omega),TV];by_cases Oy:u<t+(1-l)
  ·have e1:mW 18446744073709551616 (mW 18446744073709551616 u t) (1-l)=18446744073709551616+u-t-(1-l):=by
    by_cases h1:u<t
    ·rw[uF h1 (by omega),o6 (by omega) (by omega)]
    rw[o6 (a:=u) (b:=t) (by omega) (by omega),uF (by omega) (by omega)];omega
   rw[e1];have e2:(18446744073709551616+u-t-(1-l))%4294967296=X/4294967296^i%4294967296:=by rw[<-hxd];omega
   have e3:(18446744073709551616+u-t-(1-l))/9223372036854775808=1-(u+(4294967296-1-t)+l)/4294967296:=by omega
   rw[e2,e3,hput]
  have e1:mW 18446744073709551616 (mW 18446744073709551616 u t) (1-l)=u-t-(1-l):=by
   rw[o6 (a:=u) (b:=t) (by omega) (by omega),o6 (by omega) (by omega)]
  rw[e1];have e2:(u-t-(1-l))%4294967296=X/4294967296^i%4294967296:=by rw[<-hxd];omega
  have e3:(u-t-(1-l))/9223372036854775808=1-(u+(4294967296-1-t)+l)/4294967296:=by omega
  rw[e2,e3,hput]
 ·simp
 simp only[bw];rw[oC (by rw[bz,bz]),bw,Dm hU,LQ (by decide) hU hT];congr 2;by_cases h:U<V*f<;>simp[h]
end
section
open Go.Fw
theorem T2{B V:Nat}(hB:0<B)(hV:0<V)(A k:Nat):A%(V*B^(k+1))/B^k<B*V:=by
 rw[Nat.div_lt_iff_lt_mul (Nat.pow_pos hB)];have:V*B^(k+1)=B*V*B^k:=by rw[Nat.pow_succ,Nat.mul_comm (B^k),<-Nat.mul_assoc,Nat.mul_comm V]
 rw[<-this];exact Nat.mod_lt _ (Nat.mul_pos hV (Nat.pow_pos hB))
theorem QH{B V:Nat}(A k:Nat):A%(V*B^(k+1))%B^k+B^k*(A%(V*B^(k+1))/B^k%V)=A%(V*B^k):=by
 rw[<-Nat.mod_mul,Nat.mul_comm (B^k),Nat.mod_mod_of_dvd];rw[Nat.pow_succ,<-Nat.mul_assoc];exact Nat.dvd_mul_right _ _
theorem QI{B V:Nat}(A k:Nat):A%(V*B^(k+1))/B^k/V=A/V/B^k%B:=by
 rw[Nat.div_div_eq_div_mul,Nat.mul_comm (B^k),Nat.pow_succ,<-Nat.mul_assoc,Nat.mod_mul_right_div_self,Nat.div_div_eq_div_mul]
theorem BS{B:Nat}(hB:0<B){N k:Nat}(h:k<N)(Q:Nat):(dD B N (Q/B^(k+1)*B^(k+1))).set k (Q/B^k%B)=dD B N (Q/B^k*B^k):=by
 have hP:0<B^k:=Nat.pow_pos hB;refine rj hB h (Nat.mod_lt _ hB) ?_ ?_ ?_
 ·rw[Nat.mul_mod_left,Nat.pow_succ,Nat.mul_comm (B^k),<-Nat.mul_assoc,Nat.mul_mod_left]
 ·rw[Nat.mul_div_cancel _ hP]
 rw[Nat.mul_div_cancel _ (Nat.pow_pos hB),Nat.pow_succ,<-Nat.div_div_eq_div_mul,Nat.mul_div_cancel _ hP,Nat.div_div_eq_div_mul]
theorem FL{α:Type}{l:List α}{o n:Nat}(h:o<l.length)(h':o+n<=l.length):OI l (o:Int) ((o+n:Nat):Int)=some (o,n):=by
 unfold OI;rw[if_pos (by omega)];congr 2;omega
theorem LR{U V g M:Nat}(hV:0<V)(h1:U/V<=g)(h2:g<=U/V+1)(hM:U<M)(hVM:V<=M):
  (V*g<=U/\g=U/V/\(U+M-V*g)%M=U%V)\/(U<V*g/\g=U/V+1/\U+M-V*g<M/\(U+M-V*g+V)%M=U%V):=by
 have hd:=Nat.div_add_mod U V;have hm:=Nat.mod_lt U hV
 revert h1 h2 hd hm
 generalize U/V=q;generalize U%V=r;intro h1 h2 hd hm;rcases Nat.lt_or_ge q g with h|h
 ·obtain rfl:g=q+1:=by omega
  have e:V*(q+1)=V*q+V:=Nat.mul_succ ..;right;refine⟨by omega,Y,by omega,?_⟩;rw[show U+M-V*(q+1)+V=r+M by omega,Nat.add_mod_right,Nat.mod_eq_of_lt (by omega)]
 obtain rfl:g=q:=by omega
 left;refine⟨by omega,Y,?_⟩;rw[show U+M-V*g=r+M by omega,Nat.add_mod_right,Nat.mod_eq_of_lt (by omega)]
theorem LS{R D e i:Nat}(hD:0<D)(he:4294967296=D*e):(R*D/4294967296^(i+1)%4294967296*4294967296+R*D/4294967296^i%4294967296)/D%4294967296=R/4294967296^i%4294967296:=by
 have h1:R*D/4294967296^(i+1)%4294967296*4294967296+R*D/4294967296^i%4294967296=R*D/4294967296^i%(4294967296*4294967296):=by
  rw[Nat.mod_mul,Nat.div_div_eq_div_mul,show 4294967296^i*4294967296=4294967296^(i+1)from(Nat.pow_succ ..).symm,Nat.add_comm,Nat.mul_comm 4294967296]
 have h2:(4294967296*4294967296:Nat)=D*(e*4294967296):=by
  rw[<-Nat.mul_assoc,<-he]
 rw[h1,h2,Nat.mod_mul_right_div_self,Nat.mod_mul_left_mod,Nat.div_div_eq_div_mul,Nat.mul_comm (4294967296^i) D,<-Nat.div_div_eq_div_mul,Nat.mul_div_cancel _ hD]
theorem QJ{B:Nat}(hB:0<B){N i R:Nat}(h:i<N):(dD B N (R%B^i)).set i (R/B^i%B)=dD B N (R%B^(i+1)):=by
 refine rj hB h (Nat.mod_lt _ hB) ?_ ?_ ?_
 ·rw[Nat.mod_mod,Nat.mod_mod_of_dvd _ (Nat.pow_dvd_pow _ (Nat.le_succ i))]
 ·rw[Nat.pow_succ,Nat.mod_mul_right_div_self,Nat.mod_mod]
 rw[Nat.div_eq_of_lt (Nat.mod_lt _ (Nat.pow_pos hB)),Nat.div_eq_of_lt];exact Nat.lt_of_lt_of_le (Nat.mod_lt _ (Nat.pow_pos hB)) (Nat.pow_le_pow_right hB (Nat.le_succ i))
theorem EU(a b:List Nat)(ha:BP a)(hb:BP b){n:Nat}(hn:b.length=n+2)(hl:b.length<=a.length)(ET:b[n+1]? ≠some 0):
  gS a b=some (dD 4294967296 (a.length-b.length+1) (vl a/vl b),dD 4294967296 b.length (vl a%vl b)):=by
 obtain⟨hA,hla⟩:=ha;obtain⟨hB,hlb⟩:=hb;have hP:∀k,0<4294967296^k:=λk=>Nat.pow_pos (by decide);obtain⟨Va,hVa⟩:∃V,vl a=V:=⟨_,Y⟩;obtain⟨Vb,hVb⟩:∃V,vl b=V:=⟨_,Y⟩;have QK:Vb<4294967296^(n+2):=by rw[<-hVb,<-hn];exact eJ b hB
 have halt:Va<4294967296^a.length:=by rw[<-hVa];exact eJ a hA
 have Dq:4294967296^(n+2)=4294967296^(n+1)*4294967296:=Nat.pow_succ ..;obtain⟨x,hx⟩:∃x,Vb/4294967296^(n+1)=x:=⟨_,Y⟩;have T3:x<4294967296:=by rw[<-hx,Nat.div_lt_iff_lt_mul (hP _)];rw[Dq,Nat.mul_comm]at QK;exact QK
 have Vf:b[n+1]? =some x:=by rw[jr hB (by omega),show val 4294967296 b=Vb from hVb,hx,Nat.mod_eq_of_lt T3]
 have hx0:x≠0:=λe=>ET (by rw[Vf,e]);obtain⟨s,Hg,wO,hs3,hs4⟩:=TT x T3 hx0;have T4:0<2^s:=Nat.two_pow_pos s;have T5:2^s<4294967296:=by
  have:2^s<2^32:=Nat.pow_lt_pow_right (by decide) wO;rw[two32]at this;exact this
 obtain⟨D,hD⟩:∃D,2^s=D:=⟨_,Y⟩;rw[hD]at hs3 hs4 T4 T5;obtain⟨V,hV⟩:∃V,Vb*D=V:=⟨_,Y⟩;obtain⟨A,Vh⟩:∃A,Va*D=A:=⟨_,Y⟩;have xh:V<4294967296^(n+2):=by
  have h1:Vb<(x+1)*4294967296^(n+1):=by rw[<-hx,Nat.add_mul,Nat.one_mul];exact Nat.lt_div_mul_add (hP _)
  have h2:(x+1)*D<=4294967296:=by
   obtain⟨e,he⟩:∃e,4294967296=D*e:=⟨2^(32-s),by rw[<-hD,<-Nat.pow_add,show s+(32-s)=32 by omega,two32]⟩;have h3:x<e:=by
    apply Nat.lt_of_mul_lt_mul_left (a:=D);rw[<-he,Nat.mul_comm];exact hs4
   calc (x+1)*D<=e*D:=Nat.mul_le_mul_right _ h3
    _=4294967296:=by rw[Nat.mul_comm,<-he]
  rw[<-hV,Dq]
  calc Vb*D<(x+1)*4294967296^(n+1)*D:=Nat.mul_lt_mul_of_pos_right h1 T4
   _=4294967296^(n+1)*((x+1)*D):=by rw[Nat.mul_comm (x+1),Nat.mul_assoc]
   _<=4294967296^(n+1)*4294967296:=Nat.mul_le_mul_left _ h2
 have JQ:2147483648*4294967296^(n+1)<=V:=by
  have h1:x*4294967296^(n+1)<=Vb:=by rw[<-hx];exact Nat.div_mul_le_self _ _
  rw[<-hV]
  calc 2147483648*4294967296^(n+1)<=x*D*4294967296^(n+1):=Nat.mul_le_mul_right _ hs3
   _=x*4294967296^(n+1)*D:=by rw[Nat.mul_assoc,Nat.mul_comm D,<-Nat.mul_assoc]
   _<=Vb*D:=Nat.mul_le_mul_right _ h1
 have QD:0<V:=Nat.lt_of_lt_of_le (Nat.mul_pos (by decide) (hP _)) JQ;have hb0:0<Vb:=by
  rcases Nat.eq_zero_or_pos Vb with h|h
  ·rw[<-hV,h,Nat.zero_mul]at QD;omega
  exact h
 have hAV:A/V=Va/Vb:=by rw[<-Vh,<-hV,Nat.mul_div_mul_right _ _ T4]
 have aab:A%V=Va%Vb*D:=by rw[<-Vh,<-hV,Nat.mul_mod_mul_right]
 obtain⟨K,hK⟩:∃K,a.length=K+(n+2):=⟨a.length-(n+2),by omega⟩;have T6:A<V*4294967296^(K+1):=by
  have h1:4294967296^(n+1)<=Vb:=by
   have:1*4294967296^(n+1)<=x*4294967296^(n+1):=Nat.mul_le_mul_right _ (by omega);have h2:x*4294967296^(n+1)<=Vb:=by rw[<-hx];exact Nat.div_mul_le_self _ _
   omega
  rw[<-Vh,<-hV]
  calc Va*D<4294967296^a.length*D:=Nat.mul_lt_mul_of_pos_right halt T4
   _=4294967296^(n+1)*4294967296^(K+1)*D:=by rw[hK,<-Nat.pow_add];congr 2;omega
   _<=Vb*4294967296^(K+1)*D:=Nat.mul_le_mul_right _ (Nat.mul_le_mul_right _ h1)
   _=Vb*D*4294967296^(K+1):=by rw[Nat.mul_assoc,Nat.mul_comm _ D,<-Nat.mul_assoc]
 obtain⟨v,Vi⟩:∃v,dD 4294967296 (n+2) V=v:=⟨_,Y⟩;have hvl:v.length=n+2:=by rw[<-Vi,bz]
 have hvW:BP v:=⟨λy hy=>by rw[<-Vi]at hy;exact l9 (by decide) _ _ _ hy,by omega⟩;have T7:vl v=V:=by rw[<-Vi];show val _ _=_;rw[kC,Nat.mod_eq_of_lt xh]
 have T8:List.take b.length (dD 4294967296 (b.length+1) (Vb*2^s))=v:=by
  rw[hD,hV,hn,gB,List.take_append_of_le_length (by rw[bz];omega),List.take_of_length_le (by rw[bz];omega),Vi]
 unfold gS;simp only[bw];rw[show((b.length:Nat):Int)-1=((n+1:Nat):Int) by omega,fo (by omega),bq Vf,bw,Hg,bw];rw[show((s:Int)%18446744073709551616).toNat=s by rw[Int.emod_eq_of_lt (by omega) (by omega)];simp];rw[Ab,shiftLeft_eq a s ⟨hA,hla⟩ wO,bw,shiftLeft_eq b s ⟨hB,hlb⟩ wO,bw,oB (by rw[bz];omega),bw];obtain⟨Q,hQ⟩:∃Q,A/V=Q:=⟨_,Y⟩;have aad:Q<4294967296^(K+1):=by rw[<-hQ,Nat.div_lt_iff_lt_mul QD,Nat.mul_comm];exact T6
 rw[hVa,hVb,<-hAV,hQ,T8,hD,Vh,hn];rw[show a.length-(n+2)+1=K+1 by omega];rw[b8 (x:=(a.length:Int)-((n+2:Nat):Int)) (by omega) (by omega),b8 (x:=(a.length:Int)-((n+2:Nat):Int)+1) (by omega) (by omega),show(a.length:Int)-((n+2:Nat):Int)+1=((K+1:Nat):Int) by omega,vK (by decide) (by omega),bw,show(a.length:Int)-((n+2:Nat):Int)=(K:Int) by omega];refine cc (λj=>((K:Int)-(j:Int),dD 4294967296 (K+1) (Q/4294967296^(K+1-j)*4294967296^(K+1-j)),dD 4294967296 (a.length+1) (A%(V*4294967296^(K+1-j))))) (K+1) (dD 4294967296 (K+1) Q,dD 4294967296 (a.length+1) (A%V)) ?_ (λj hj=>?_) ?_ ?_
 ·rw[show K+1-0=K+1 by omega,Nat.mod_eq_of_lt T6,Nat.div_eq_of_lt aad,Nat.zero_mul,oD];simp
 ·
  obtain⟨k,hk⟩:∃k,K=k+j:=⟨K-j,by omega⟩;rw[show K+1-j=k+1 by omega,show K+1-(j+1)=k by omega,show(K:Int)-(j:Int)=(k:Int) by omega,show(K:Int)-((j+1:Nat):Int)=(k:Int)-1 by omega];have hU:=T2 (B:=4294967296) (by decide) QD A k;have Dr:=QH (B:=4294967296) (V:=V) A k;have QL:=QI (B:=4294967296) (V:=V) A k;obtain⟨N,hN⟩:∃N,a.length+1=N:=⟨_,Y⟩;obtain⟨A1,hA1⟩:∃A1,A%(V*4294967296^(k+1))=A1:=⟨_,Y⟩;rw[hN];rw[hA1]at hU Dr QL⊢;rw[hQ]at QL;obtain⟨⟨g,lg⟩,hge,hgl,Vj,Vk⟩:=Dp (N:=N) (A:=A1) (o:=k) (n:=n) (v:=v) hvW hvl (by omega) (by omega) (by rw[T7];exact hU) (by rw[T7];exact JQ);simp only at hgl Vj Vk;rw[T7]at Vj Vk;subst hgl;have hsub:=rL (N:=N) (A:=A1) (o:=k) (n:=n+2) (v:=v) (f:=g) hvW hvl (by omega) (by omega) ?_ ?_
  ·rw[T7]at hsub;obtain⟨U,Kg⟩:∃U,A1/4294967296^k=U:=⟨_,Y⟩;rw[Kg]at hU Dr QL Vj Vk hsub;have LU:4294967296^(n+2+1)=4294967296^(n+2)*4294967296:=Nat.pow_succ ..;have hUM:U<4294967296^(n+2+1):=by
    have:4294967296*V<4294967296*4294967296^(n+2):=Nat.mul_lt_mul_of_pos_left xh (by decide);rw[LU];omega
   have JR:=LR (M:=4294967296^(n+2+1)) QD Vj Vk hUM (by rw[LU];omega);have hql:U/V<4294967296:=by rw[QL];exact Nat.mod_lt _ (by decide)
   rw[show decide ((0:Int)<=(k:Int))=true by simp,eD];rw[kA (by omega),bV (by omega),show k+(n+2)+1=k+(n+3) by omega,FL (by rw[bz];omega) (by rw[bz];omega),bw,hge,bw,oC Y,bw,FL (by rw[bz];omega) (by rw[bz];omega),bw];show(Option.bind (cJ _ k (n+2+1) v g) _)=_;rw[hsub,bw,oC (by rw[bz,bz]),bw];simp only[cj];rcases JR with⟨hc1,Cd,T9⟩|⟨hc1,Cd,T9,hc4⟩
   ·rw[show decide (U<V*g)=false by simp;omega,fu,T9,Dr,Cd,Nat.mod_eq_of_lt hql,QL,fK (by rw[bz];omega),bw,jd (by rw[bz];omega),bw,BS (by decide) (by omega),b8 (by omega) (by omega)]
   rw[show decide (U<V*g)=true by simp;omega,eD,o6 (by omega) (by omega),show g-1=U/V by omega,Nat.mod_eq_of_lt hql,QL];rw[Nat.mod_eq_of_lt T9];obtain⟨aa,hY⟩:∃aa,U+4294967296^(n+2+1)-V*g=aa:=⟨_,Y⟩;rw[hY]at T9 hc4⊢;obtain⟨A2,hA2⟩:∃A2,A1%4294967296^k+4294967296^k*aa=A2:=⟨_,Y⟩;rw[hA2];have hw2:A2/4294967296^k=aa:=by rw[<-hA2,Nat.add_mul_div_left _ _ (hP k),Nat.div_eq_of_lt (Nat.mod_lt _ (hP k)),Nat.zero_add]
   have Ol:A2%4294967296^k=A1%4294967296^k:=by rw[<-hA2,Nat.add_mul_mod_self_left,Nat.mod_mod]
   have hcr:∀i,xA 4294967296 aa V i<=1:=λi=>ze (by decide) _ _ _;refine cc (λi=>((i:Int),xA 4294967296 aa V i,dD 4294967296 N (mix 4294967296 k i (aa+V) aa A2))) (n+2) (xA 4294967296 aa V (n+2),dD 4294967296 N (mix 4294967296 k (n+2) (aa+V) aa A2)) ?_ (λi hi=>?_) ?_ ?_
   ·rw[zg,<-hw2,Dn];rfl
   ·have F5:v[i]? =some (V/4294967296^i%4294967296):=by rw[<-T7];exact jr hvW.1 (by omega)
    have hgu:(dD 4294967296 N (mix 4294967296 k i (aa+V) aa A2))[k+i]? =some (aa/4294967296^i%4294967296):=by rw[lP (by omega),uK (by decide)]
    have Hg:=zf (B:=4294967296) (by decide) aa V i;have wO:=xB (B:=4294967296) (by decide) aa V i;have hput:=BQ (B:=4294967296) (by decide) k i (aa+V) aa A2 (N:=N) (by omega);have hci:=hcr i;have hv1:=Nat.mod_lt (V/4294967296^i) (show 0<4294967296 by decide);have RB:=Nat.mod_lt (aa/4294967296^i) (show 0<4294967296 by decide);simp only[show decide ((i:Int)<(v.length:Int))=true by simp;omega,eD];rw[bq F5,bw,kA (by omega),fK (by rw[bz];omega),bw,hgu,bw,Nat.mod_eq_of_lt (a:=aa/4294967296^i%4294967296) (b:=18446744073709551616) (by omega),Nat.mod_eq_of_lt (a:=V/4294967296^i%4294967296) (b:=18446744073709551616) (by omega),Nat.mod_eq_of_lt (b:=18446744073709551616) (by omega),fV _ _ (by omega),bw,bw,jd (by rw[bz];omega),bw,bV (by omega)];rw[Hg,wO,hput]
   ·simp[hvl]
   have hgu:(dD 4294967296 N (mix 4294967296 k (n+2) (aa+V) aa A2))[k+(n+2)]? =some (aa/4294967296^(n+2)%4294967296):=by rw[lP (by omega),uK (by decide)]
   have wO:=xB (B:=4294967296) (by decide) aa V (n+2);have hput:=BQ (B:=4294967296) (by decide) k (n+2) (aa+V) aa A2 (N:=N) (by omega);have hci:=hcr (n+2);have RB:=Nat.mod_lt (aa/4294967296^(n+2)) (show 0<4294967296 by decide);rw[Nat.div_eq_of_lt xh,Nat.zero_mod,Nat.add_zero]at wO;simp only[];rw[fK (by rw[bz];omega),bw,hgu,bw,Nat.mod_eq_of_lt (a:=aa/4294967296^(n+2)%4294967296) (b:=18446744073709551616) (by omega),fV _ _ (by omega),bw,bw,jd (by rw[bz];omega),bw,wO,hput,Dm T9,Ol,hc4,Dr,fK (by rw[bz];omega),bw,jd (by rw[bz];omega),bw,BS (by decide) (by omega),b8 (by omega) (by omega)]
  ·
   have hql:A1/4294967296^k/V<4294967296:=by rw[QL];exact Nat.mod_lt _ (by decide)
   omega
  have LU:4294967296^(n+2+1)=4294967296^(n+2)*4294967296:=Nat.pow_succ ..;have:4294967296*V<4294967296*4294967296^(n+2):=Nat.mul_lt_mul_of_pos_left xh (by decide);rw[LU];omega
 ·rw[show K+1-(K+1)=0 by omega,Nat.pow_zero,Nat.mul_one,Nat.mul_one,Nat.div_one,show decide (0<=(K:Int)-((K+1:Nat):Int))=false by simp;omega,fu]
 obtain⟨R,hR⟩:∃R,Va%Vb=R:=⟨_,Y⟩;rw[aab,hR];have aah:R<4294967296^(n+2):=by rw[<-hR];exact Nat.lt_trans (Nat.mod_lt _ hb0) QK
 rw[vK (by decide) (by omega),bw];refine cc (λi=>((i:Int),dD 4294967296 (n+2) (R%4294967296^i))) (n+2) (dD 4294967296 (n+2) R) ?_ (λi hi=>?_) ?_ Y
 ·rw[Nat.pow_zero,Nat.mod_one,oD];rfl
 ·obtain⟨e,he⟩:∃e,4294967296=D*e:=⟨2^(32-s),by rw[<-hD,<-Nat.pow_add,show s+(32-s)=32 by omega,two32]⟩;have JS:=LS (R:=R) (i:=i) T4 he;obtain⟨u,hu⟩:∃u,R*D/4294967296^i%4294967296=u:=⟨_,Y⟩;obtain⟨w,hw⟩:∃w,R*D/4294967296^(i+1)%4294967296=w:=⟨_,Y⟩;have Vz:u<4294967296:=by rw[<-hu];exact Nat.mod_lt _ (by decide)
  have hw1:w<4294967296:=by rw[<-hw];exact Nat.mod_lt _ (by decide)
  rw[hu,hw]at JS;simp only[show decide ((i:Int)<((n+2:Nat):Int))=true by simp;omega,eD];rw[fK (by rw[bz];omega),bw,lP (by omega),bw,hu,bV (by omega),fK (by rw[bz];omega),bw,lP (by omega),bw,hw,Nat.mod_eq_of_lt (a:=u) (by omega),Nat.mod_eq_of_lt (a:=w) (by omega),two32,Nat.mod_eq_of_lt (a:=w*4294967296) (by omega),Nat.or_comm,FJ Vz,Nat.mod_eq_of_lt (a:=w*4294967296+u) (by omega),show min s 64=s by omega,hD,JS,fK (by rw[bz];omega),bw,jd (by rw[bz];omega),bw];rw[QJ (by decide) hi]
 rw[Nat.mod_eq_of_lt aah];simp
end
section
open Go.Fw
def sv(n:Bool)(v:Nat):Int:=bif n then-(v:Int)else v
def zi(z:Zr):Int:=sv z.neg (vl z.w)
def zn(i:Int):Zr:=⟨decide (i<0),can 4294967296 i.natAbs⟩
def Wl(z:Zr):Prop:=(∀x∈z.w,x<4294967296)/\z.w.length<=10000000000
def Fit(L:Nat)(i:Int):Prop:=i.natAbs<4294967296^L
theorem JU(n:Bool)(v:Nat):(sv n v).natAbs=v:=by cases n<;>simp[sv]
theorem qR(z:Zr):(zi z).natAbs=vl z.w:=JU _ _
theorem QM(n:Bool)(v:Nat):decide (sv n v<0)=(n&&v != 0):=by
 cases n
 ·have:¬((v:Int)<0):=by omega
  simp[sv,this]
 rcases v with _|v
 ·simp[sv]
 simp[sv]
theorem nq(n:Bool)(v:Nat):zc n v=zn (sv n v):=by rw[zc,zn,QM,JU]
theorem LV(i:Int):sv (decide (i<0)) i.natAbs=i:=by
 by_cases h:i<0
 ·rw[show decide (i<0)=true by simp[h]];simp[sv];omega
 rw[show decide (i<0)=false by simp[h]];simp[sv];omega
theorem dQ(i:Int):zi (zn i)=i:=by
 show sv (decide (i<0)) (vl (can 4294967296 i.natAbs))=i;rw[show vl (can 4294967296 i.natAbs)=i.natAbs from iV (by decide) _,LV]
theorem zk(n:Bool)(v:Nat):sv (!n) v=-sv n v:=by cases n<;>simp[sv]
theorem iK(v:Nat):sv false v=v:=rfl
theorem Fit.mono{L M:Nat}{i:Int}(h:Fit L i)(hl:L<=M):Fit M i:=Nat.lt_of_lt_of_le h (Nat.pow_le_pow_right (by decide) hl)
theorem Fit.neg{L:Nat}{i:Int}(h:Fit L i):Fit L (-i):=by unfold Fit at*;rw[Int.natAbs_neg];exact h
theorem Fit.add{L:Nat}{i j:Int}(h:Fit L i)(h':Fit L j):Fit (L+1) (i+j):=by
 unfold Fit at*;have:=Int.natAbs_add_le i j;rw[Nat.pow_succ];omega
theorem Fit.sub{L:Nat}{i j:Int}(h:Fit L i)(h':Fit L j):Fit (L+1) (i-j):=by
 rw[Int.sub_eq_add_neg];exact h.add h'.neg
theorem Fit.mul{L M:Nat}{i j:Int}(h:Fit L i)(h':Fit M j):Fit (L+M) (i*j):=by
 unfold Fit at*;rw[Int.natAbs_mul,Nat.pow_add];exact Nat.mul_lt_mul'' h h'
theorem Fit.i64{i:Int}(h: -9223372036854775808<=i)(h':i<=9223372036854775807):Fit 2 i:=by
 unfold Fit;rw[show(4294967296:Nat)^2=18446744073709551616 by decide];omega
theorem Fit.le{L:Nat}{i j:Int}(h:Fit L i)(h':j.natAbs<=i.natAbs):Fit L j:=Nat.lt_of_le_of_lt h' h
theorem dJ{L:Nat}{i:Int}(h:Fit L i)(hL:L<=10000000000):Wl (zn i):=
 ⟨λ_ hx=>fj (by decide) hx,Nat.le_trans ((bO (by decide)).2 h) hL⟩
theorem Wl.fit{z:Zr}(h:Wl z):Fit z.w.length (zi z):=by
 unfold Fit;rw[qR];exact eJ z.w h.1
theorem Wl.lt{z:Zr}(h:Wl z):vl z.w<4294967296^z.w.length:=eJ z.w h.1
theorem Wl.cl{z:Zr}(h:Wl z):(can 4294967296 (vl z.w)).length<=10000000000:=
 Nat.le_trans ((bO (by decide)).2 (Wl.lt h)) h.2
theorem Wl.trim{z:Zr}(h:Wl z):bp z.w=some (can 4294967296 (vl z.w)):=by
 rw[xC _ (by have:=h.2;omega),iJ (by decide) h.1]
theorem fM{v:Nat}(h:(can 4294967296 v).length<=10000000001):BP (can 4294967296 v):=⟨λ_ hx=>fj (by decide) hx,by omega⟩
theorem dP(v:Nat):vl (can 4294967296 v)=v:=iV (by decide) v
theorem fk{v:Nat}:((can 4294967296 v).length:Int)<=2↔v<18446744073709551616:=by
 have:=bO (B:=4294967296) (by decide) (v:=v) (n:=2);rw[show(4294967296:Nat)^2=18446744073709551616 by decide]at this;omega
theorem kD{v:Nat}:((can 4294967296 v).length:Int)<=1↔v<4294967296:=by
 have:=bO (B:=4294967296) (by decide) (v:=v) (n:=1);rw[show(4294967296:Nat)^1=4294967296 by decide]at this;omega
theorem nr{v:Nat}:(can 4294967296 v).length=0↔v=0:=by
 constructor
 ·intro h;exact uH (by decide) (List.length_eq_zero_iff.1 h)
 intro h;rw[h,nn];rfl
theorem uL(l:List Nat)(h:l.length<=1000000000000):dz l=some l:=by
 unfold dz;rw[Ly (by decide) (by simp;omega)];simp
end
section
open Go.Fw
theorem Ds(a b:Nat):decide (sL a b<0)=decide (a<b):=by
 rcases Nat.lt_trichotomy a b with h|h|h
 ·rw[nN h];simp[h]
 ·rw[h,rm];simp
 rw[o9 h];simp;omega
theorem wK(a b:Nat)(ha:(can 4294967296 a).length<=10000000000)(hb:(can 4294967296 b).length<=10000000000)(h0:b≠0):
  ∃q r,eY (can 4294967296 a) (can 4294967296 b)=some (q,r)/\BP q/\vl q=a/b/\BP r/\vl r=a%b/\q.length<=10000000001/\r.length<=10000000001:=by
 unfold eY;rw[jt a b (by omega) (by omega)];simp only[bw];by_cases hlt:a<b
 ·rw[nN hlt];simp only[show decide ((-1:Int)<0)=true by decide,eD];rw[uL _ (by omega)];refine⟨_,_,Y,⟨by simp,by simp⟩,?_,fM (by omega),?_,by simp,by omega⟩
  ·rw[Nat.div_eq_of_lt hlt];rfl
  rw[dP,Nat.mod_eq_of_lt hlt]
 rw[Ds,show decide (a<b)=false by simp[hlt]];simp only[fu];by_cases h2:a<18446744073709551616
 ·rw[show decide (((can 4294967296 a).length:Int)<=2)=true by rw[decide_eq_true_eq];exact fk.2 h2];have Ci:b<18446744073709551616:=by omega
  simp only[eD];have l1:=low_eq (can 4294967296 a) (λ_ hx=>fj (by decide) hx) (by have:=fk.2 h2;omega);have l2:=low_eq (can 4294967296 b) (λ_ hx=>fj (by decide) hx) (by have:=fk.2 Ci;omega);rw[dP]at l1 l2;rw[l1,bw,l2,bw,BI h0 h2,bw,oF _ _ (Nat.lt_of_le_of_lt (Nat.div_le_self _ _) h2),bw,xy h0,bw,oF _ _ (Nat.lt_of_le_of_lt (Nat.mod_le _ _) h2),bw];have hq:a/b<18446744073709551616:=Nat.lt_of_le_of_lt (Nat.div_le_self _ _) h2;have hr:a%b<18446744073709551616:=Nat.lt_of_le_of_lt (Nat.mod_le _ _) h2;have c1:=fk.2 hq;have c2:=fk.2 hr;exact⟨_,_,Y,fM (by omega),dP _,fM (by omega),dP _,by show(can _ _).length<=_;omega,by show(can _ _).length<=_;omega⟩
 rw[show decide (((can 4294967296 a).length:Int)<=2)=false by rw[decide_eq_false_iff_not];exact λh=>h2 (fk.1 h)];simp only[fu];have rS:(can 4294967296 b).length≠0:=λh=>h0 (nr.1 h);by_cases h1:b<4294967296
 ·have h1':=kD.2 h1;rw[show decide (((can 4294967296 b).length:Int)=1)=true by simp;omega,eD];have hg:(can 4294967296 b)[0]? =some b:=by rw[ri (by decide) (by omega)];simp;exact h1
  rw[uL _ (by omega),bw,rf hg,bw,Nat.mod_eq_of_lt (b:=18446744073709551616) (by omega),Dl _ _ (fM (by omega)) (by omega) (by omega),bw,dP];simp only[];rw[oC (by rw[bz]),bw];have hm:a%b<b:=Nat.mod_lt _ (by omega);rw[Nat.mod_eq_of_lt (a:=a%b) (by omega)];refine⟨_,_,Y,⟨λx hx=>l9 (by decide) _ _ _ hx,by rw[bz];omega⟩,?_,⟨?_,by simp⟩,?_,by rw[bz];omega,by simp⟩
  ·show val _ _=_;rw[kC,Nat.mod_eq_of_lt (Nat.lt_of_le_of_lt (Nat.div_le_self _ _) (bU (by decide) a))]
  ·intro x hx;simp at hx;omega
  simp[vl,val]
 have h1':¬(((can 4294967296 b).length:Int)<=1):=λh=>h1 (kD.1 h);rw[show decide (((can 4294967296 b).length:Int)=1)=false by simp;omega,fu];obtain⟨n,hn⟩:∃n,(can 4294967296 b).length=n+2:=⟨(can 4294967296 b).length-2,by omega⟩;have hl:(can 4294967296 b).length<=(can 4294967296 a).length:=(bO (by decide)).2 (Nat.lt_of_le_of_lt (by omega) (bU (by decide) a));obtain⟨l,x,hx,he⟩:=Dj (B:=4294967296) (by decide) h0;have ET:(can 4294967296 b)[n+1]? ≠some 0:=by
  have:l.length=n+1:=by rw[he]at hn;simp at hn;omega
  rw[he,<-this];simp;exact hx
 rw[EU _ _ (fM (by omega)) (fM (by omega)) hn hl ET,bw,dP,dP];have hbp:0<b:=by omega
 have e1:a<4294967296^(can 4294967296 a).length:=bU (by decide) a;have e2:b<4294967296^(can 4294967296 b).length:=bU (by decide) b;have e3:4294967296^(n+1)<=b:=n6 (by decide) (by omega);refine⟨_,_,Y,⟨λx hx=>l9 (by decide) _ _ _ hx,by rw[bz];omega⟩,?_,⟨λx hx=>l9 (by decide) _ _ _ hx,by rw[bz];omega⟩,?_,by rw[bz];omega,by rw[bz];omega⟩
 ·show val _ _=_;rw[kC,Nat.mod_eq_of_lt];rw[Nat.div_lt_iff_lt_mul hbp];have:4294967296^((can 4294967296 a).length-(can 4294967296 b).length+1)*4294967296^(n+1)=4294967296^(can 4294967296 a).length:=by rw[<-Nat.pow_add];congr 1;omega
  calc a<4294967296^((can 4294967296 a).length-(can 4294967296 b).length+1)*4294967296^(n+1):=by rw[this];exact e1
   _<=_:=Nat.mul_le_mul_left _ e3
 show val _ _=_;rw[kC,Nat.mod_eq_of_lt (Nat.lt_trans (Nat.mod_lt _ hbp) e2)]
end
section
open Go.Fw
theorem kW{x:Int}(h1: -9223372036854775808<=x)(h2:x<=9223372036854775807):bR x=some (zn x):=by
 unfold bR;simp only[bw,cj];by_cases hx:x<0
 ·have e:(x%18446744073709551616).toNat=18446744073709551616-x.natAbs:=by omega
  rw[show decide (x<0)=true by simp[hx],eD,e,uF (by omega) (by omega),show 18446744073709551616+0-(18446744073709551616-x.natAbs)=x.natAbs by omega,oF _ _ (by omega),bw,nq,show sv true x.natAbs=x by simp[sv];omega]
 have e:(x%18446744073709551616).toNat=x.natAbs:=by omega
 rw[show decide (x<0)=false by simp[hx],fu,e,oF _ _ (by omega),bw,nq,show sv false x.natAbs=x by simp[sv];omega]
def di(i:Int):Prop:=-9223372036854775808<=i/\i<=9223372036854775807
instance(i:Int):Decidable (di i):=by unfold di;infer_instance
def qS(i:Int):Int×Bool:=if di i then(i,true)else(0,false)
theorem nu{z:Zr}(h:Wl z):cU z=some (qS (zi z)):=by
 obtain⟨n,w⟩:=z;unfold cU;have ht:=h.trim;have aai:vl w<18446744073709551616->c4 (can 4294967296 (vl w))=some (vl w):=λh2=>by
  rw[low_eq _ (λ_ hx=>fj (by decide) hx) (by have:=fk.2 h2;omega),dP]
 show(bp w).bind _=some (qS (sv n (vl w)));rw[show bp w=some (can 4294967296 (vl w))from ht];simp only[bw];generalize vl w=v at*;by_cases h2:v<18446744073709551616
 ·have:=fk.2 h2;rw[show decide ((2:Int)<((can 4294967296 v).length:Int))=false by simp;omega,fu,aai h2,bw];cases n
  ·rw[fu,iK];by_cases h3:v<9223372036854775808
   ·rw[show decide (9223372036854775808<=v)=false by simp;omega,fu,fo (by omega),qS,if_pos (by unfold di;omega)]
   rw[show decide (9223372036854775808<=v)=true by simp;omega,eD,qS,if_neg (by unfold di;omega)]
  rw[eD,show sv true v=-(v:Int)from rfl];by_cases h3:9223372036854775808<v
  ·rw[show decide (9223372036854775808<v)=true by simp;omega,eD,qS,if_neg (by unfold di;omega)]
  rw[show decide (9223372036854775808<v)=false by simp;omega,fu,qS,if_pos (by unfold di;omega)];by_cases h0:v=0
  ·subst h0;rfl
  rw[uF (by omega) (by omega)];rw[show IntKind.i64.wrap ((18446744073709551616+0-v:Nat):Int)=-(v:Int) by
   rw[IntKind.wrap];simp[IntKind.signed,IntKind.bits];omega]
 have:¬(((can 4294967296 v).length:Int)<=2):=λh=>h2 (fk.1 h);rw[show decide ((2:Int)<((can 4294967296 v).length:Int))=true by simp;omega,eD,qS,if_neg (by unfold di;cases n<;>simp[sv]<;>omega)]
theorem sign_eq{z:Zr}(h:Wl z):cz z=some (zi z).sign:=by
 obtain⟨n,w⟩:=z;unfold cz;show(bp w).bind _=some (sv n (vl w)).sign;rw[show bp w=some (can 4294967296 (vl w))from h.trim];simp only[bw];generalize vl w=v;by_cases h0:v=0
 ·subst h0;cases n<;>rfl
 have:(can 4294967296 v).length≠0:=λh=>h0 (nr.1 h);rw[show decide (((can 4294967296 v).length:Int)=0)=false by simp;intro e;rw[e]at this;exact this Y,fu];cases n
 ·rw[fu,iK,Int.sign_eq_one_of_pos (by omega)]
 rw[eD,show sv true v=-(v:Int)from Y,Int.sign_eq_neg_one_of_neg (by omega)]
def jz(i j:Int):Int:=if i<j then-1 else if i=j then 0 else 1
theorem gh{i j:Int}(h:i<j):jz i j=-1:=by simp[jz,h]
theorem gi{i j:Int}(h:j<i):jz i j=1:=by
 have h1:¬i<j:=by omega
 have h2:¬i=j:=by omega
 simp[jz,h1,h2]
theorem mM(i:Int):jz i i=0:=by simp[jz]
theorem zm(v w:Nat):sL v w=jz (v:Int) (w:Int):=by
 rcases Nat.lt_trichotomy v w with h|h|h
 ·rw[nN h,gh (by omega)]
 ·rw[h,rm,mM]
 rw[o9 h,gi (by omega)]
theorem Dt(i j:Int):jz (-i) (-j)=jz j i:=by
 rcases Int.lt_trichotomy i j with h|h|h
 ·rw[gi h,gi (by omega)]
 ·rw[h,mM,mM]
 rw[gh h,gh (by omega)]
theorem QN{x y:Zr}(hx:Wl x)(hy:Wl y):lB x y=some (jz (zi x) (zi y)):=by
 obtain⟨n,w⟩:=x;obtain⟨m,u⟩:=y;unfold lB;show(cz ⟨n,w⟩).bind _=_;rw[sign_eq hx,bw];show(cz ⟨m,u⟩).bind _=_;rw[sign_eq hy,bw,show bp w=some (can 4294967296 (vl w))from hx.trim,show bp u=some (can 4294967296 (vl u))from hy.trim];simp only[bw];rw[jt _ _ (Nat.le_trans hx.cl (by decide)) (Nat.le_trans hy.cl (by decide)),jt _ _ (Nat.le_trans hy.cl (by decide)) (Nat.le_trans hx.cl (by decide))];simp only[bw];rw[show zi ⟨n,w⟩=sv n (vl w)from Y,show zi ⟨m,u⟩=sv m (vl u)from rfl];generalize vl w=a;generalize vl u=b;rw[zm,zm];obtain⟨i,hi⟩:∃i,sv n a=i:=⟨_,Y⟩;obtain⟨j,hj⟩:∃j,sv m b=j:=⟨_,Y⟩;have Q9:(i<0->i=-(a:Int))/\(0<=i->i=a):=by rw[<-hi];cases n<;>simp[sv]<;>omega
 have hjb:(j<0->j=-(b:Int))/\(0<=j->j=b):=by rw[<-hj];cases m<;>simp[sv]<;>omega
 rw[hi,hj];rcases Int.lt_trichotomy i 0 with h1|h1|h1<;>rcases Int.lt_trichotomy j 0 with h2|h2|h2
 ·rw[Int.sign_eq_neg_one_of_neg h1,Int.sign_eq_neg_one_of_neg h2,Q9.1 h1,hjb.1 h2,Dt];rfl
 ·rw[Int.sign_eq_neg_one_of_neg h1,show Int.sign j=0 by rw[h2];rfl,show jz i j=-1 from gh (by omega)];rfl
 ·rw[Int.sign_eq_neg_one_of_neg h1,Int.sign_eq_one_of_pos h2,show jz i j=-1 from gh (by omega)];rfl
 ·rw[show Int.sign i=0 by rw[h1];rfl,Int.sign_eq_neg_one_of_neg h2,show jz i j=1 from gi (by omega)];rfl
 ·rw[show Int.sign i=0 by rw[h1];rfl,show Int.sign j=0 by rw[h2];rfl,<-Q9.2 (by omega),<-hjb.2 (by omega)];rfl
 ·rw[show Int.sign i=0 by rw[h1];rfl,Int.sign_eq_one_of_pos h2,show jz i j=-1 from gh (by omega)];rfl
 ·rw[Int.sign_eq_one_of_pos h1,Int.sign_eq_neg_one_of_neg h2,show jz i j=1 from gi (by omega)];rfl
 ·rw[Int.sign_eq_one_of_pos h1,show Int.sign j=0 by rw[h2];rfl,show jz i j=1 from gi (by omega)];rfl
 rw[Int.sign_eq_one_of_pos h1,Int.sign_eq_one_of_pos h2,<-Q9.2 (by omega),<-hjb.2 (by omega)];rfl
theorem neg_eq{x:Zr}(hx:Wl x):eN x=some (zn (-zi x)):=by
 obtain⟨n,w⟩:=x;unfold eN;have hc:(can 4294967296 (vl w)).length<=10000000000:=hx.cl;simp only[bw];rw[show bp w=some (can 4294967296 (vl w))from hx.trim,bw,uL _ (by omega),bw,jq _ _ (fM (by omega)),bw,dP,nq,zk];rfl
end
section
open Go.Fw
theorem uM(n m:Bool)(a b:Nat)(ha:(can 4294967296 a).length<=10000000000)(hb:(can 4294967296 b).length<=10000000000):
  cO n (can 4294967296 a) m (can 4294967296 b)=some (zn (sv n a+sv m b)):=by
 have la:=bU (B:=4294967296) (by decide) a;have lb:=bU (B:=4294967296) (by decide) b;unfold cO;simp only[bw];by_cases hnm:n=m
 ·subst hnm;rw[show(n==n)=true by simp,eD,wI _ _ (fM (by omega)) (fM (by omega)),bw,dP,dP,jq _ _ ⟨λx hx=>l9 (by decide) _ _ _ hx,by rw[bz];omega⟩,bw];have hv:vl (dD 4294967296 (max (can 4294967296 a).length (can 4294967296 b).length+1) (a+b))=a+b:=by
   show val _ _=_;rw[kC,Nat.mod_eq_of_lt];have h1:a<4294967296^(max (can 4294967296 a).length (can 4294967296 b).length):=Nat.lt_of_lt_of_le la (Nat.pow_le_pow_right (by decide) (by omega));have h2:b<4294967296^(max (can 4294967296 a).length (can 4294967296 b).length):=Nat.lt_of_lt_of_le lb (Nat.pow_le_pow_right (by decide) (by omega));rw[Nat.pow_succ];omega
  rw[hv,nq,show sv n (a+b)=sv n a+sv n b by cases n<;>simp[sv];omega]
 rw[show(n==m)=false by simp[hnm],fu,jt _ _ (by omega) (by omega),bw,Ds];have hm:m= !n:=by cases n<;>cases m<;>simp_all
 subst hm;have hv:∀c d,d<=c->(can 4294967296 c).length<=10000000000->cI (can 4294967296 c) (can 4294967296 d)=some (dD 4294967296 (can 4294967296 c).length (c-d))/\vl (dD 4294967296 (can 4294967296 c).length (c-d))=c-d:=by
  intro c d hdc sS;have lc:=bU (B:=4294967296) (by decide) c;have N8:(can 4294967296 d).length<=(can 4294967296 c).length:=(bO (by decide)).2 (by omega);constructor
  ·rw[wJ _ _ (fM (by omega)) (fM (by omega)) N8 (by rw[dP,dP];exact hdc),dP,dP]
  show val _ _=_;rw[kC,Nat.mod_eq_of_lt (by omega)]
 by_cases hlt:a<b
 ·obtain⟨h1,h2⟩:=hv b a (by omega) hb;rw[show decide (a<b)=true by simp[hlt],eD,h1,bw,jq _ _ ⟨λx hx=>l9 (by decide) _ _ _ hx,by rw[bz];omega⟩,bw,h2,nq,show sv (!n) (b-a)=sv n a+sv (!n) b by cases n<;>simp[sv]<;>omega]
 obtain⟨h1,h2⟩:=hv a b (by omega) ha;rw[show decide (a<b)=false by simp[hlt],fu,h1,bw,jq _ _ ⟨λx hx=>l9 (by decide) _ _ _ hx,by rw[bz];omega⟩,bw,h2,nq,show sv n (a-b)=sv n a+sv (!n) b by cases n<;>simp[sv]<;>omega]
theorem FM(v:BitVec 64):IntKind.i64.wrap (v.toNat:Int)=v.toInt:=by
 rw[BitVec.toInt_eq_toNat_cond];have:=v.isLt;rw[show(2:Nat)^64=18446744073709551616 by decide]at this⊢;split
 ·rw[fo (by omega)]
 rw[IntKind.wrap];simp[IntKind.signed,IntKind.bits];omega
theorem FN(v:BitVec 64):BitVec.ofInt 64 (IntKind.i64.wrap (v.toNat:Int))=v:=by rw[FM,BitVec.ofInt_toInt]
theorem vN{x:Int}(h:di x):(BitVec.ofInt 64 x).msb=decide (x<0):=by
 rw[BitVec.msb_eq_toInt,BitVec.toInt_ofInt];unfold di at h;have:x.bmod (2^64)=x:=by
  rw[Int.bmod_def];simp only[show((2^64:Nat):Int)=18446744073709551616 by decide];split<;>omega
 rw[this]
theorem AK(v:BitVec 64):decide ((0:Int)<=IntKind.i64.wrap (v.toNat:Int))= !v.msb:=by
 rw[FM,BitVec.msb_eq_toInt];by_cases h:v.toInt<0
 ·simp[h]
 simp[h];omega
theorem oG(x:Int):di (IntKind.i64.wrap x):=by
 unfold di;rw[IntKind.wrap];simp[IntKind.signed,IntKind.bits];split<;>omega
theorem uN{α:Type}(b:Bool)(x:α):(bif b then x else x)=x:=by cases b<;>rfl
theorem gU{i:Int}(h:di i):qS i=(i,true):=if_pos h
theorem nv{i:Int}(h:¬di i):qS i=(0,false):=if_neg h
theorem add_eq{x y:Zr}(hx:Wl x)(hy:Wl y):lz x y=some (zn (zi x+zi y)):=by
 obtain⟨n,w⟩:=x;obtain⟨m,u⟩:=y;unfold lz;simp only[nu hx,nu hy,bw,cj];have hK:((bp w).bind λwW=>(bp u).bind λsW=>(cO n wW m sW).bind λx=>some x)=some (zn (zi ⟨n,w⟩+zi ⟨m,u⟩)):=by
  rw[show bp w=some (can 4294967296 (vl w))from hx.trim,show bp u=some (can 4294967296 (vl u))from hy.trim,bw,bw,uM _ _ _ _ hx.cl hy.cl,bw];rfl
 have hK':((bp w).bind λwW=>(bp u).bind λsW=>(cO n wW m sW).bind λx=>some ⟨x.neg,x.w⟩)=some (zn (zi ⟨n,w⟩+zi ⟨m,u⟩)):=hK;rw[hK'];generalize zi ⟨n,w⟩=i;generalize zi ⟨m,u⟩=j;by_cases h1:di i
 ·by_cases h2:di j
  ·rw[gU h1,gU h2,eD,bw,eD,FN,FN,AK,BitVec.msb_and,BitVec.msb_xor,BitVec.msb_xor,vN h1,vN h2,vN (oG _),kW (oG _).1 (oG _).2,bw];by_cases hr:di (i+j)
   ·rw[b8 hr.1 hr.2];exact uN _ _
   have:(!((decide (i<0)^^decide (IntKind.i64.wrap (i+j)<0))&&(decide (j<0)^^decide (IntKind.i64.wrap (i+j)<0))))=false:=by
    unfold di at*;by_cases hs:i<0
    ·have e:IntKind.i64.wrap (i+j)=i+j+18446744073709551616:=by rw[IntKind.wrap];simp[IntKind.signed,IntKind.bits];omega
     rw[e,show decide (i<0)=true by simp[hs],show decide (j<0)=true by simp;omega,show decide (i+j+18446744073709551616<0)=false by simp;omega];rfl
    have e:IntKind.i64.wrap (i+j)=i+j-18446744073709551616:=by rw[IntKind.wrap];simp[IntKind.signed,IntKind.bits];omega
    rw[e,show decide (i<0)=false by simp[hs],show decide (j<0)=false by simp;omega,show decide (i+j-18446744073709551616<0)=true by simp;omega];rfl
   rw[this,fu]
  rw[gU h1,nv h2,eD,bw,fu]
 rw[nv h1,fu,bw,fu]
theorem sub_eq{x y:Zr}(hx:Wl x)(hy:Wl y):lA x y=some (zn (zi x-zi y)):=by
 obtain⟨n,w⟩:=x;obtain⟨m,u⟩:=y;unfold lA;simp only[nu hx,nu hy,bw,cj];have hK':((bp w).bind λwW=>(bp u).bind λsW=>(cO n wW (!m) sW).bind λx=>some ⟨x.neg,x.w⟩)=some (zn (zi ⟨n,w⟩-zi ⟨m,u⟩)):=by
  rw[show bp w=some (can 4294967296 (vl w))from hx.trim,show bp u=some (can 4294967296 (vl u))from hy.trim,bw,bw,uM _ _ _ _ hx.cl hy.cl,bw,zk,<-Int.sub_eq_add_neg];rfl
 rw[hK'];generalize zi ⟨n,w⟩=i;generalize zi ⟨m,u⟩=j;by_cases h1:di i
 ·by_cases h2:di j
  ·rw[gU h1,gU h2,eD,bw,eD,FN,FN,AK,BitVec.msb_and,BitVec.msb_xor,BitVec.msb_xor,vN h1,vN h2,vN (oG _),kW (oG _).1 (oG _).2,bw];by_cases hr:di (i-j)
   ·rw[b8 hr.1 hr.2];exact uN _ _
   have:(!((decide (i<0)^^decide (j<0))&&(decide (i<0)^^decide (IntKind.i64.wrap (i-j)<0))))=false:=by
    unfold di at*;by_cases hs:i<0
    ·have e:IntKind.i64.wrap (i-j)=i-j+18446744073709551616:=by rw[IntKind.wrap];simp[IntKind.signed,IntKind.bits];omega
     rw[e,show decide (i<0)=true by simp[hs],show decide (j<0)=false by simp;omega,show decide (i-j+18446744073709551616<0)=false by simp;omega];rfl
    have e:IntKind.i64.wrap (i-j)=i-j-18446744073709551616:=by rw[IntKind.wrap];simp[IntKind.signed,IntKind.bits];omega
    rw[e,show decide (i<0)=false by simp[hs],show decide (j<0)=true by simp;omega,show decide (i-j-18446744073709551616<0)=true by simp;omega];rfl
   rw[this,fu]
  rw[gU h1,nv h2,eD,bw,fu]
 rw[nv h1,fu,bw,fu]
theorem EV(n m:Bool)(a b:Nat):sv (!(n==m)) (a*b)=sv n a*sv m b:=by
 cases n<;>cases m<;>simp[sv,Int.neg_mul,Int.mul_neg]
theorem mul_eq{x y:Zr}(hx:Wl x)(hy:Wl y):cQ x y=some (zn (zi x*zi y)):=by
 obtain⟨n,w⟩:=x;obtain⟨m,u⟩:=y;unfold cQ;have Vl:(can 4294967296 (vl w)).length<=10000000000:=hx.cl;have Ua:(can 4294967296 (vl u)).length<=10000000000:=hy.cl;simp only[];rw[show bp w=some (can 4294967296 (vl w))from hx.trim,show bp u=some (can 4294967296 (vl u))from hy.trim,bw,bw,show zi ⟨n,w⟩=sv n (vl w)from Y,show zi ⟨m,u⟩=sv m (vl u)from rfl];simp only[bw,cj];generalize vl w=a at*;generalize vl u=b at*;have la:=bU (B:=4294967296) (by decide) a;have lb:=bU (B:=4294967296) (by decide) b;have hK:((eX (can 4294967296 a) (can 4294967296 b)).bind λuX=>(bX (!(n==m)) uX).bind λx=>some ⟨x.neg,x.w⟩)=some (zn (sv n a*sv m b)):=by
  rw[Dk _ _ (fM (by omega)) (fM (by omega)),bw,dP,dP,jq _ _ ⟨λx hx=>l9 (by decide) _ _ _ hx,by rw[bz];omega⟩,bw,nq];have hv:vl (dD 4294967296 ((can 4294967296 a).length+(can 4294967296 b).length) (a*b))=a*b:=by
   show val _ _=_;rw[kC,Nat.mod_eq_of_lt];rw[Nat.pow_add];exact Nat.mul_lt_mul'' la lb
  rw[hv,EV]
 rw[hK];by_cases h1:a<4294967296
 ·by_cases h2:b<4294967296
  ·have l1:=low_eq (can 4294967296 a) (λ_ hx=>fj (by decide) hx) (by have:=kD.2 h1;omega);have l2:=low_eq (can 4294967296 b) (λ_ hx=>fj (by decide) hx) (by have:=kD.2 h2;omega);rw[dP]at l1 l2;have hlt:a*b<18446744073709551616:=Nat.mul_lt_mul'' h1 h2;rw[show decide (((can 4294967296 a).length:Int)<=1)=true by rw[decide_eq_true_eq];exact kD.2 h1,eD,bw,show decide (((can 4294967296 b).length:Int)<=1)=true by rw[decide_eq_true_eq];exact kD.2 h2,eD,l1,l2,bw,bw,Nat.mod_eq_of_lt hlt,oF _ _ hlt,bw,nq,EV]
  rw[show decide (((can 4294967296 a).length:Int)<=1)=true by rw[decide_eq_true_eq];exact kD.2 h1,eD,bw,show decide (((can 4294967296 b).length:Int)<=1)=false by rw[decide_eq_false_iff_not];exact λh=>h2 (kD.1 h),fu]
 rw[show decide (((can 4294967296 a).length:Int)<=1)=false by rw[decide_eq_false_iff_not];exact λh=>h1 (kD.1 h),fu,bw,fu]
end
section
open Go.Fw
theorem JV(n m:Bool){a b:Nat}(hb:0<b):
  sv n a/sv m b=(if n=true/\0<a%b then sv (!(n==m)) (a/b+1)else sv (!(n==m)) (a/b))/\
  sv n a%sv m b=(if n=true/\0<a%b then((b-a%b:Nat):Int)else((a%b:Nat):Int)):=by
 have hd:=Nat.div_add_mod a b;have hm:=Nat.mod_lt a hb
 revert hd hm
 generalize a/b=q;generalize a%b=r;intro hd hm;have hd':(b:Int)*q+r=a:=by exact_mod_cast hd
 have pos:∀n,sv n a/(b:Int)=(if n=true/\0<r then sv n (q+1)else sv n q)/\sv n a%(b:Int)=(if n=true/\0<r then((b-r:Nat):Int)else(r:Int)):=by
  intro n;apply(Int.ediv_emod_unique (by omega)).2;cases n
  ·simp[sv];omega
  by_cases hr:0<r
  ·simp only[hr,and_self,if_true,sv,cond_true];have:(b:Int)* -((q+1:Nat):Int)=-((b:Int)*q)-b:=by
    rw[Int.mul_neg,Int.natCast_add,Int.mul_add];simp;omega
   rw[this];omega
  have:r=0:=by omega
  subst this;simp[sv,Int.mul_neg];omega
 cases m
 ·have:=pos n;rw[iK,show(!(n==false))=n by cases n<;>rfl];exact this
 have:=pos n;rw[show sv true b=-(b:Int)from rfl,Int.ediv_neg,Int.emod_neg,this.1,this.2,show(!(n==true))= !n by cases n<;>rfl,zk,zk];refine⟨?_,Y⟩;split<;>rfl
theorem QO{a b:Nat}(hba:b<=a)(sS:(can 4294967296 a).length<=10000000000):cI (can 4294967296 a) (can 4294967296 b)=some (dD 4294967296 (can 4294967296 a).length (a-b))/\vl (dD 4294967296 (can 4294967296 a).length (a-b))=a-b:=by
 have lc:=bU (B:=4294967296) (by decide) a;have N8:(can 4294967296 b).length<=(can 4294967296 a).length:=(bO (by decide)).2 (by omega);constructor
 ·rw[wJ _ _ (fM (by omega)) (fM (by omega)) N8 (by rw[dP,dP];exact hba),dP,dP]
 show val _ _=_;rw[kC,Nat.mod_eq_of_lt (by omega)]
def Du(i j:Int):Zr×Zr×Int:=if j=0 then(⟨false,[]⟩,⟨false,[]⟩,7)else(zn (i/j),zn (i%j),0)
theorem divMod_eq{x y:Zr}(hx:Wl x)(hy:Wl y):dV x y=some (Du (zi x) (zi y)):=by
 obtain⟨n,w⟩:=x;obtain⟨m,u⟩:=y;unfold dV;have Vl:(can 4294967296 (vl w)).length<=10000000000:=hx.cl;have Ua:(can 4294967296 (vl u)).length<=10000000000:=hy.cl;simp only[];rw[show bp w=some (can 4294967296 (vl w))from hx.trim,show bp u=some (can 4294967296 (vl u))from hy.trim,bw,bw,show zi ⟨n,w⟩=sv n (vl w)from Y,show zi ⟨m,u⟩=sv m (vl u)from rfl];simp only[bw,cj];generalize vl w=a at*;generalize vl u=b at*;by_cases h0:b=0
 ·subst h0;rw[show sv m 0=0 by cases m<;>rfl];rfl
 have rS:(can 4294967296 b).length≠0:=λh=>h0 (nr.1 h);rw[show decide (((can 4294967296 b).length:Int)=0)=false by simp;intro e;rw[e]at rS;exact rS Y,fu];obtain⟨q,r,hqr,QS,Vm,Ub,hr2,hq3,hr3⟩:=wK a b Vl Ua h0;have hm:a%b<b:=Nat.mod_lt _ (by omega);obtain⟨e1,e2⟩:=JV n m (a:=a) (show 0<b by omega);have hj:sv m b≠0:=by cases m<;>simp[sv]<;>omega
 rw[hqr,bw];simp only[];rw[xC r (by have:=Ub.2;omega),iJ (by decide) Ub.1,show val 4294967296 r=a%b from hr2,bw,Du,if_neg hj,e1,e2];have hrl:(can 4294967296 (a%b)).length<=(can 4294967296 b).length:=(bO (by decide)).2 (Nat.lt_trans hm (bU (by decide) b));have hK:∀c:Bool,(decide (n=true/\0<a%b)=c)->(bif c then(dM q [1]).bind λuX=>(cI (can 4294967296 b) (can 4294967296 (a%b))).bind λuV=>(bX (!(n==m)) uX).bind λx=>(bX false uV).bind λx_1=>some ((⟨x.neg,x.w⟩:Zr),(⟨x_1.neg,x_1.w⟩:Zr),(0:Int))
   else(bX (!(n==m)) q).bind λx=>(bX false (can 4294967296 (a%b))).bind λx_1=>some ((⟨x.neg,x.w⟩:Zr),(⟨x_1.neg,x_1.w⟩:Zr),(0:Int)))=
   some (zn (if n=true/\0<a%b then sv (!(n==m)) (a/b+1)else sv (!(n==m)) (a/b)),zn (if n=true/\0<a%b then((b-a%b:Nat):Int)else((a%b:Nat):Int)),0):=by
  intro c hc;cases c
  ·have JW:=of_decide_eq_false hc;rw[fu,if_neg JW,if_neg JW,jq _ _ QS,bw,jq _ _ (fM (by omega)),bw,dP,Vm,nq,nq,iK]
  have JW:=of_decide_eq_true hc;obtain⟨s1,s2⟩:=QO (a:=b) (b:=a%b) (by omega) Ua;have w1:BP [1]:=⟨by simp,by simp⟩;rw[eD,if_pos JW,if_pos JW,wI _ _ QS w1,bw,s1,bw,jq _ _ ⟨λx hx=>l9 (by decide) _ _ _ hx,by rw[bz];simp;omega⟩,bw,jq _ _ ⟨λx hx=>l9 (by decide) _ _ _ hx,by rw[bz];omega⟩,bw,s2,nq,nq,iK];have:vl (dD 4294967296 (max q.length [1].length+1) (vl q+vl [1]))=a/b+1:=by
   show val _ _=_;rw[kC,show vl [1]=1 by decide,Vm,Nat.mod_eq_of_lt];have h1:vl q<4294967296^q.length:=eJ q QS.1;rw[Vm]at h1;have h2:4294967296^q.length<=4294967296^(max q.length [1].length):=Nat.pow_le_pow_right (by decide) (by omega);have h3:0<4294967296^(max q.length [1].length):=Nat.pow_pos (by decide);rw[Nat.pow_succ];omega
  rw[this]
 have hz:(0<(can 4294967296 (a%b)).length)↔0<a%b:=by
  have:=nr (v:=a%b);omega
 cases n
 ·rw[fu,bw];exact hK false (by simp)
 rw[eD,bw];refine hK _ ?_;simp only[true_and];by_cases h:0<a%b
 ·simp[h,hz.2 h]
 have h':¬0<(can 4294967296 (a%b)).length:=λe=>h (hz.1 e);have h'':¬((0:Int)<((can 4294967296 (a%b)).length:Int)):=by omega
 simp only[h,h'',decide_false]
theorem QT{x y:Zr}(hx:Wl x)(hy:Wl y):jE x y=some (zn (Int.gcd (zi x) (zi y):Int)):=by
 obtain⟨n,w⟩:=x;obtain⟨m,u⟩:=y;unfold jE;have Vl:(can 4294967296 (vl w)).length<=10000000000:=hx.cl;have Ua:(can 4294967296 (vl u)).length<=10000000000:=hy.cl;simp only[];rw[show bp w=some (can 4294967296 (vl w))from hx.trim,show bp u=some (can 4294967296 (vl u))from hy.trim,bw,bw,Int.gcd,qR,qR];show _=some (zn ((Nat.gcd (vl w) (vl u):Nat):Int));generalize vl w=a at*;generalize vl u=b at*;refine fz (λs=>∃c d,s=(can 4294967296 c,can 4294967296 d)/\Nat.gcd c d=Nat.gcd a b/\(can 4294967296 c).length<=10000000000/\(can 4294967296 d).length<=10000000000)
  (λs=>∃c d,s=(can 4294967296 c,can 4294967296 d)/\Nat.gcd c d=Nat.gcd a b/\(can 4294967296 c).length<=10000000000/\(d=0\/(c<18446744073709551616/\d<18446744073709551616))) (λs=>vl s.2) ?_ ⟨a,b,Y,Y,Vl,Ua⟩ ?_
 ·rintro _ ⟨c,d,rfl,hg,hc,hd⟩;simp only[bw,cj];by_cases h0:d=0
  ·right;subst h0;exact⟨_,Y,c,0,Y,hg,hc,.inl Y⟩
  have rS:(can 4294967296 d).length≠0:=λh=>h0 (nr.1 h);rw[show decide ((0:Int)<((can 4294967296 d).length:Int))=true by simp;omega,eD];by_cases h2:c<18446744073709551616/\d<18446744073709551616
  ·right;have c1:=fk.2 h2.1;have c2:=fk.2 h2.2;rw[show decide ((2:Int)<((can 4294967296 c).length:Int))=false by simp;omega,fu,show decide ((2:Int)<((can 4294967296 d).length:Int))=false by simp;omega];exact⟨_,Y,c,d,Y,hg,hc,.inr h2⟩
  left;have hm:c%d<d:=Nat.mod_lt _ (by omega);obtain⟨q,r,hqr,QS,Vm,Ub,hr2,-,-⟩:=wK c d hc hd h0;have th:((bif decide ((2:Int)<((can 4294967296 c).length:Int))then some true else some (decide ((2:Int)<((can 4294967296 d).length:Int)))):Option Bool)=some true:=by
   by_cases Cd:c<18446744073709551616
   ·have hd2:¬d<18446744073709551616:=λh=>h2 ⟨Cd,h⟩;have:¬(((can 4294967296 d).length:Int)<=2):=λh=>hd2 (fk.1 h);rw[show decide ((2:Int)<((can 4294967296 d).length:Int))=true by simp;omega];exact uN _ _
   have:¬(((can 4294967296 c).length:Int)<=2):=λh=>Cd (fk.1 h);rw[show decide ((2:Int)<((can 4294967296 c).length:Int))=true by simp;omega,eD]
  rw[th,bw,bw,eD,hqr,bw];simp only[];rw[xC r (by have:=Ub.2;omega),iJ (by decide) Ub.1,show val 4294967296 r=c%d from hr2,bw];refine⟨_,Y,⟨d,c%d,Y,?_,hd,?_⟩,?_⟩
  ·rw[<-hg,Nat.gcd_comm d,<-Nat.gcd_rec,Nat.gcd_comm]
  ·exact Nat.le_trans ((bO (by decide)).2 (Nat.lt_trans hm (bU (by decide) d))) hd
  simp only[dP];exact hm
 rintro _ ⟨c,d,rfl,hg,hc,JR⟩;simp only[bw];by_cases h0:d=0
 ·subst h0;rw[show decide (((can 4294967296 0).length:Int)=0)=true by simp[nn],eD,uL _ (by omega),bw,jq _ _ (fM (by omega)),bw,dP,nq,iK,<-hg,Nat.gcd_zero_right]
 have h2:=JR.resolve_left h0;have rS:(can 4294967296 d).length≠0:=λh=>h0 (nr.1 h);have c1:=fk.2 h2.1;have c2:=fk.2 h2.2;rw[show decide (((can 4294967296 d).length:Int)=0)=false by simp;intro e;rw[e]at rS;exact rS Y,fu,low_eq _ (λ_ hx=>fj (by decide) hx) (by omega),bw,low_eq _ (λ_ hx=>fj (by decide) hx) (by omega),bw,dP,dP];refine fz (λs=>Nat.gcd s.1 s.2=Nat.gcd a b/\s.1<18446744073709551616/\s.2<18446744073709551616) (λe=>e=Nat.gcd a b/\e<18446744073709551616) (λs=>s.2) ?_ ⟨hg,h2.1,h2.2⟩ ?_
 ·rintro⟨s,t⟩ ⟨i1,i2,i3⟩;simp only at i1 i2 i3⊢;by_cases ht:0<t
  ·left;rw[show decide (0<t)=true by simp[ht],eD,xy (by omega),bw];refine⟨_,Y,⟨?_,i3,?_⟩,Nat.mod_lt _ ht⟩
   ·rw[<-i1,Nat.gcd_comm t,<-Nat.gcd_rec,Nat.gcd_comm]
   exact Nat.lt_trans (Nat.mod_lt _ ht) i3
  right;rw[show decide (0<t)=false by simp[ht],fu];refine⟨_,Y,?_,i2⟩;rw[<-i1,show t=0 by omega,Nat.gcd_zero_right]
 rintro e ⟨rfl,he⟩;rw[oF _ _ he,bw,nq,iK]
end
section
open Go.Fw
def zl(l:List Nat):List Int:=l.map (λ(n:Nat)=>(n:Int))
theorem dh(l:List Nat):(zl l).length=l.length:=by simp[zl]
theorem sO{l:List Nat}{i x:Nat}(h:l[i]? =some x):(zl l)[i]? =some (x:Int):=by simp[zl,h]
theorem BT(l k:List Nat):zl (l++k)=zl l++zl k:=by simp[zl]
theorem EW(x:Nat):zl [x]=[(x:Int)]:=rfl
theorem LW(l:List Nat)(n:Nat):(zl l).take n=zl (l.take n):=by simp[zl,List.map_take]
theorem JX(l:List Nat)(i x:Nat):(zl l).set i (x:Int)=zl (l.set i x):=by simp[zl,List.map_set]
def BU(l:List Nat):Prop:=(∀x∈l,x<65536)/\l.length<=100000000000
abbrev fy(l:List Nat):Nat:=val 65536 l
theorem iL(l:List Nat)(hl:l.length<=1000000000000):cA (zl l)=some (zl (iI l)):=by
 unfold cA;simp only[bw];refine fz (λy=>∃n:Nat,y=(n:Int)/\n<=l.length/\iI (l.take n)=iI l) (λy=>∃n:Nat,y=(n:Int)/\n<=l.length/\l.take n=iI l) (λy=>y.toNat) ?_ ⟨l.length,by rw[dh],Nat.le_refl _,by rw[List.take_length]⟩ ?_
 ·rintro _ ⟨n,rfl,hn,ht⟩;simp only[cj];rcases n with _|n
  ·right;refine⟨_,Y,0,Y,by omega,?_⟩;rw[<-ht];rfl
  have hi:∃x,l[n]? =some x:=⟨l[n],by simp⟩;obtain⟨x,hx⟩:=hi;have htk:l.take (n+1)=l.take n++[x]:=by
   rw[List.take_add_one,hx];rfl
  rw[show decide ((0:Int)<((n+1:Nat):Int))=true by rw[decide_eq_true_eq];omega,eD,y7 (by omega),bq (sO hx),bw];by_cases h0:x=0
  ·left;subst h0;rw[show decide (((0:Nat):Int)=0)=true by simp,bw,eD];refine⟨_,Y,⟨n,Y,by omega,?_⟩,by omega⟩;rw[<-ht,htk,nm]
  right;rw[show decide (((x:Nat):Int)=0)=false by simp;omega,bw,fu];refine⟨_,Y,n+1,Y,hn,?_⟩;rw[<-ht,htk,o8 _ h0]
 rintro _ ⟨n,rfl,hn,ht⟩;rw[oB (by rw[dh];exact hn),bw,LW,ht]
theorem wL{l:List Nat}(h:∀x∈l,x<65536)(i:Nat):dg (zl l) (i:Int)=some ((fy l/65536^i%65536:Nat):Int):=by
 unfold dg;simp only[bw];rw[dh];by_cases hi:i<l.length
 ·rw[show decide ((i:Int)<(l.length:Int))=true by simp[hi],eD,bq (sO (jr h hi)),bw]
 rw[show decide ((i:Int)<(l.length:Int))=false by simp;omega,fu];have:fy l/65536^i=0:=Nat.div_eq_of_lt (Nat.lt_of_lt_of_le (eJ l h) (Nat.pow_le_pow_right (by decide) (by omega)));rw[this];rfl
theorem EX(V k:Nat):dD 65536 (2*k) V++[V/4294967296^k%4294967296%65536,V/4294967296^k%4294967296/65536]=dD 65536 (2*(k+1)) V:=by
 have e:65536^(2*k)=4294967296^k:=by rw[Nat.pow_mul]
 rw[show 2*(k+1)=2*k+1+1 by omega,gB,gB,Nat.pow_succ,e,<-Nat.div_div_eq_div_mul,List.append_assoc];generalize V/4294967296^k=x;rw[show x%4294967296%65536=x%65536 by omega,show x%4294967296/65536=x/65536%65536 by omega];rfl
theorem GY(w:List Nat)(hw:BP w):bQ w=some (zl (can 65536 (vl w))):=by
 obtain⟨hl,hn⟩:=hw;unfold bQ;refine cc (λi=>((i:Int),zl (dD 65536 (2*i) (vl w)))) w.length (zl (dD 65536 (2*w.length) (vl w))) ?_ (λk hk=>?_) ?_ ?_
 ·rfl
 ·have hg:=jr hl hk;have hlt:=Nat.mod_lt (val 4294967296 w/4294967296^k) (show 0<4294967296 by decide);have hv:=EX (vl w) k;simp only[bw];rw[show decide ((k:Int)<(w.length:Int))=true by simp[hk],eD,bq hg,bw,bw,fo (by omega),fo (by omega),Ly (by decide) (by rw[dh,bz];simp;omega),bw,bV (by omega)];rw[<-hv,BT];rw[show val 4294967296 w/4294967296^k%4294967296/65536%4294967296=val 4294967296 w/4294967296^k%4294967296/65536 by omega];rfl
 ·simp
 rw[iL _ (by rw[bz];omega),bw,lO (by decide)];rw[Nat.pow_mul];exact eJ w hl
theorem Dv(k:Nat):65536^(2*k)=4294967296^k:=by rw[Nat.pow_mul]
theorem EY(v:Nat):can 4294967296 v=dD 4294967296 (((can 65536 v).length+1)/2) v:=by
 have h1:=bU (B:=65536) (by decide) v;obtain⟨n,hn⟩:∃n,(can 65536 v).length=n:=⟨_,Y⟩;rw[hn]at h1⊢;have h2:v<4294967296^((n+1)/2):=by
  rw[<-Dv];exact Nat.lt_of_lt_of_le h1 (Nat.pow_le_pow_right (by decide) (by omega))
 rw[FD (by decide) v];congr 1;have h3:=(bO (B:=4294967296) (by decide)).2 h2;refine Nat.le_antisymm h3 ?_;rcases n with _|n
 ·simp
 have h4:65536^n<=v:=n6 (by decide) (by omega);obtain⟨m,hm⟩:∃m,(n+1+1)/2=m+1:=⟨n/2,by omega⟩;rw[hm];rcases Nat.lt_or_ge m (can 4294967296 v).length with h|h
 ·exact h
 have h5:=(bO (B:=4294967296) (by decide)).1 h;rw[<-Dv]at h5;have:65536^(2*m)<=65536^n:=Nat.pow_le_pow_right (by decide) (by omega);omega
theorem of_eq(n:Bool)(l:List Nat)(hl:BU l):cC n (zl l)=some (zc n (fy l)):=by
 obtain⟨h,hn⟩:=hl;unfold cC;rw[iL _ (by omega),bw,iJ (by decide) h];have hc:(can 65536 (val 65536 l)).length<=l.length:=(bO (by decide)).2 (eJ l h);show _=some (zc n (val 65536 l));generalize val 65536 l=v at*;have sS:∀x∈can 65536 v,x<65536:=λ_ hx=>fj (by decide) hx;have Rd:=λi=>wL sS i;refine cc (λi=>(((2*i:Nat):Int),dD 4294967296 i v)) (((can 65536 v).length+1)/2) (can 4294967296 v) ?_ (λk hk=>?_) ?_ ?_
 ·rfl
 ·have a1:=Rd (2*k);have a2:=Rd (2*k+1);rw[show fy (can 65536 v)=v from iV (by decide) v]at a1 a2;rw[Dv]at a1;rw[Nat.pow_succ,Dv,<-Nat.div_div_eq_div_mul]at a2;simp only[bw];rw[dh,show decide (((2*k:Nat):Int)<((can 65536 v).length:Int))=true by simp;omega,eD,a1,bw,bV (by omega),a2,bw];rw[gB];have e:((((v/4294967296^k%65536:Nat):Int)%4294967296).toNat+(((v/4294967296^k/65536%65536:Nat):Int)%4294967296).toNat*65536%4294967296)%4294967296=v/4294967296^k%4294967296:=by
   generalize v/4294967296^k=x;omega
  rw[e,Aa (by decide) (by rw[bz];omega),bw,show((2*k:Nat):Int)+2=((2*(k+1):Nat):Int) by omega,fo (by omega)]
 ·simp only[bw];rw[dh,show decide (((2*(((can 65536 v).length+1)/2):Nat):Int)<((can 65536 v).length:Int))=false by simp;omega,fu,<-EY]
 simp only[cj];rw[zc];have hz:=nr (v:=v);cases n
 ·rw[fu,bw];rfl
 rw[eD,bw,bw,bw];congr 2;by_cases h0:v=0
 ·rw[h0];rfl
 have:¬(can 4294967296 v).length=0:=λe=>h0 (hz.1 e);rw[show decide ((0:Int)<((can 4294967296 v).length:Int))=true by rw[decide_eq_true_eq];omega,show(true&&v != 0)=true by simp[h0]]
theorem mc(n:Bool)(v:Nat)(hl:(can 65536 v).length<=100000000000):cC n (zl (can 65536 v))=some (zn (sv n v)):=by
 rw[of_eq n _ ⟨λ_ hx=>fj (by decide) hx,hl⟩,show fy (can 65536 v)=v from iV (by decide) v,nq]
theorem GZ{w:List Nat}(hw:∀x∈w,x<4294967296):(can 65536 (vl w)).length<=2*w.length:=by
 apply(bO (by decide)).2;rw[Dv];exact eJ w hw
theorem eo{x:Zr}(h:Wl x):bQ x.w=some (zl (can 65536 (zi x).natAbs)):=by
 rw[qR];exact GY _ ⟨h.1,by have:=h.2;omega⟩
theorem Wl.G0{x:Zr}(h:Wl x):(can 65536 (zi x).natAbs).length<=20000000000:=by
 rw[qR];have:=GZ h.1;have:=h.2;omega
theorem Dw{x:Zr}(h:Wl x):fT x=some (zn (zi x)):=by
 obtain⟨n,w⟩:=x;have h1:=eo h;have h2:=h.G0;unfold fT;simp only[];rw[show bQ w=_ from h1,bw,mc _ _ (by omega),bw,qR];rfl
theorem FO{x y:Zr}(h:x.w.length<=100000000000):∃b,iT x y=some b/\(b=true↔x=y):=by
 obtain⟨n,w⟩:=x;obtain⟨m,u⟩:=y;unfold iT;simp only[bw,cj];by_cases hnm:n=m
 ·subst hnm;rw[show(!(n==n))=false by simp,fu,bw];by_cases hl:w.length=u.length
  ·rw[show decide ((w.length:Int)≠(u.length:Int))=false by simp[hl],fu];refine dB (λy=>∃i:Nat,y=(i:Int)/\i<=w.length/\w.take i=u.take i) (λe=>(∃c,e=.inl c/\w=u)\/(e=.inr false/\w≠u)) (λy=>w.length-y.toNat) ?_ ⟨0,Y,by omega,Y⟩ ?_
   ·rintro _ ⟨i,rfl,hi,ht⟩;by_cases hlt:i<w.length
    ·have g1:w[i]? =some w[i]:=by simp
     have g2:u[i]? =some (u[i]'(by omega)):=by simp
     rw[show decide ((i:Int)<(w.length:Int))=true by simp[hlt],eD,bq g1,bw,bq g2,bw];by_cases he:w[i]=u[i]'(by omega)
     ·left;rw[show decide (w[i]≠u[i]'(by omega))=false by simp[he],fu,bV (by simp at h;omega)];refine⟨_,Y,⟨i+1,Y,hlt,?_⟩,by omega⟩;rw[List.take_add_one,List.take_add_one,ht,g1,g2,he]
     right;rw[show decide (w[i]≠u[i]'(by omega))=true by simp[he],eD];refine⟨_,Y,.inr ⟨Y,?_⟩⟩;rintro rfl;exact he rfl
    right;rw[show decide ((i:Int)<(w.length:Int))=false by simp;omega,fu];refine⟨_,Y,.inl ⟨_,Y,?_⟩⟩;rw[List.take_of_length_le (by omega),List.take_of_length_le (by omega)]at ht;exact ht
   rintro e (⟨c,rfl,he⟩|⟨rfl,he⟩)
   ·exact⟨true,Y,by simp[he]⟩
   exact⟨false,Y,by simp[he]⟩
  rw[show decide ((w.length:Int)≠(u.length:Int))=true by simp;omega,eD];refine⟨_,Y,?_⟩;simp only[Bool.false_eq_true,false_iff];intro e;have:w=u:=congrArg Zr.w e;exact hl (by rw[this])
 rw[show(!(n==m))=true by simp[hnm],eD,bw,eD];refine⟨_,Y,?_⟩;simp only[Bool.false_eq_true,false_iff];intro e;exact hnm (congrArg Zr.neg e)
theorem from_eq{x:Int}(h:di x):kn x=some (zn x):=by
 unfold di at h;have key:∀(v:Nat) (n:Bool),v<18446744073709551616->((fT ⟨n,[v%4294967296%4294967296,v/4294967296%18446744073709551616%4294967296]⟩).bind λx=>some (⟨x.neg,x.w⟩:Zr))=some (zn (sv n v)):=by
  intro v n hv;rw[Dw ⟨by simp;omega,by simp⟩,bw];show some (zn (sv n (vl _)))=_;congr 3;simp only[vl,val];omega
 unfold kn;simp only[bw,cj];by_cases hx:x<0
 ·have e:(x%18446744073709551616).toNat=18446744073709551616-x.natAbs:=by omega
  rw[show decide (x<0)=true by simp[hx],eD,e,uF (by omega) (by omega),show 18446744073709551616+0-(18446744073709551616-x.natAbs)=x.natAbs by omega,key _ _ (by omega),show sv true x.natAbs=x by simp[sv];omega]
 have e:(x%18446744073709551616).toNat=x.natAbs:=by omega
 rw[show decide (x<0)=false by simp[hx],fu,e,key _ _ (by omega),show sv false x.natAbs=x by simp[sv];omega]
end
section
open Go.Fw
theorem p9(k:Nat):10^(9*(k+1))=10^(9*k)*1000000000:=by
 rw[show 9*(k+1)=9*k+9 by omega,Nat.pow_add]
end
section
open Go.Fw
def body(s:KH):KH:=if s.head?=some 45 then s.tail else s
def z0:Zr:=⟨false,[]⟩
end
section
open Go.Fw
theorem zeta'(z:Zr):(⟨z.neg,z.w⟩:Zr)=z:=by cases z;rfl
theorem AL{i:Int}(h:di i):Fit 2 i:=Fit.i64 h.1 h.2
theorem JY{i:Int}(h:di i):Wl (zn i):=dJ (AL h) (by decide)
end
section
open Go.Fw
theorem JZ(i j:Int):(i-j).sign=jz i j:=by
 rcases Int.lt_trichotomy i j with h|h|h
 ·rw[gh h,Int.sign_eq_neg_one_of_neg (by omega)]
 ·rw[h,mM,Int.sub_self];rfl
 rw[gi h,Int.sign_eq_one_of_pos (by omega)]
theorem G1(i j:Int):IntKind.i64.wrap (0-jz j i)=jz i j:=by
 rcases Int.lt_trichotomy i j with h|h|h
 ·rw[gh h,gi h];rfl
 ·rw[h,mM];rfl
 rw[gi h,gh h];rfl
abbrev OkZ(z:Zr):Prop:=True/\(z.w.length<=9223372036854775807/\∀x∈z.w,x<4294967296)
end
end Go.Proofs.YtdpjpoekcgigkaaGreat
