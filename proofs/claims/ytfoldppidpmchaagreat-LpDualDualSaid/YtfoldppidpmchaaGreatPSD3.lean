/- A part of the proof: the framework, the plain functions, the followed functions, the plain laws. -/
import Derived.Test.YtfoldppidpmchaaGreatPSD2
set_option linter.unusedVariables false
set_option linter.unusedSimpArgs false
set_option linter.unusedSectionVars false
namespace Go.Proofs.YtfoldppidpmchaaGreat
section
open Go.Fw Go.Fw.Z Go.RowKit
theorem tD(a b:List Qr):Pure ah 80 [(slc 4 (List.map eQ a)),(slc 4 (List.map eQ b))] (nZ 112 [ref [(slc 4 (List.map eQ a))],ref [(slc 4 (List.map eQ b))]]):=by
 refine aZ Tryz.func80 Y (af Y) (λdD M vs hvs=>?_);refine sr<|RT.Ap .none (s:=.sv _) Y T Y Y<|RT.Ap .none (s:=.sv _) Y T Y Y<|ag Y<|dn<|sr<|RT.makeFunc .none (.box Y (.box Y (.nil))) T<|an (s:=.eT _ _) Y<|dn<|bQ (ke (i:=2) Y [(slc 4 (List.map eQ a))] (.cons Y .nil) .any 0 [(4,.eT 112 [.val (ref [(slc 4 (List.map eQ a))]),.box 3])] (λ_ _ _=>trivial) (rF.h (l:=[(slc 4 (List.map eQ a))])) ⟨@FT.eT _ _ _ _ _ 4 112 [.box 2,.box 3] Y,aq⟩) ?_;exact bQ (ke (i:=3) Y [(slc 4 (List.map eQ b))] (.cons Y .nil) .any 0 [(4,.eT 112 [.val (ref [(slc 4 (List.map eQ a))]),.val (ref [(slc 4 (List.map eQ b))])])] (λ_ _ _=>trivial) (rF.h (l:=[(slc 4 (List.map eQ b))])) ⟨@FT.eT _ _ _ _ _ 4 112 [.val (ref [(slc 4 (List.map eQ a))]),.box 3] Y,aq⟩)<|bQ (Ay 4 (nZ 112 [ref [(slc 4 (List.map eQ a))],ref [(slc 4 (List.map eQ b))]]) (λ_ _ h=>Az h))<|bf<|⟨.inr Y,Au (.tmp Y (.nil)) Y⟩
theorem tF(a b:List Qr):Iter ah 112 [ref [(slc 4 (List.map eQ a))],ref [(slc 4 (List.map eQ b))]] (max a.length b.length) (λk=>[.agg (eQ (a.getD k (⟨⟨false,[]⟩,⟨false,[]⟩⟩:Qr))),.agg (eQ (b.getD k (⟨⟨false,[]⟩,⟨false,[]⟩⟩:Qr)))]):=by
 refine n6 Tryz.func112 Y Y (af Y) (λdD M O l J hJ uz hr=>?_);obtain⟨oN,uz⟩:=uz;have hla:a.length<=9223372036854775807:=by cases oN with|nil=>exact uz.elim|cons _ oN=>exact qm uz.1
 have hlb:b.length<=9223372036854775807:=by cases oN with|nil=>exact uz.elim|cons _ oN=>cases oN with|nil=>exact uz.2.elim|cons _ _=>exact qm uz.2.1
 refine bz ?_;refine aW ?_;refine RT.cw .none Y Y (tl Y) ?_;refine RT.len .none Y (tl Y) ?_;refine RT.cw .none Y Y (tl Y) ?_;refine RT.len .none Y (tl Y) ?_;refine RT.max .none (((max a.length b.length:Nat):Int)) Y Y (tl Y) (by simp only[List.length_map];split<;>omega) ?_;refine RT.mv .none Y (tl Y) ?_;refine RT.done ?_;refine aV.n ?_;refine bj ?_
 refine sF (I:=λx:{i:Nat//i<=max a.length b.length}=>AS.ct 37 [(0,.sv (.v (.func (.yield l) #[] #[]))),(1,.sv (ref [(slc 4 (List.map eQ a))])),(2,.sv (ref [(slc 4 (List.map eQ b))])),(11,ai ((max a.length b.length:Nat):Int)),(12,ai ((x.1:Nat):Int))] [] [] (x.1)) (μ:=λx=>max a.length b.length-x.1) ⟨0,by omega⟩ (by(try dsimp only);exact c8 id Y Y Y Y Y ⟨.sv (by first|exact au|exact SV.aX (by omega)|exact SV.aX (by push_cast;omega)|exact SV.aX (by dsimp only;omega)|exact SV.imp_eq (by simp)),.sv (by first|exact au|exact SV.aX (by omega)|exact SV.aX (by push_cast;omega)|exact SV.aX (by dsimp only;omega)|exact SV.imp_eq (by simp)),.sv (by first|exact au|exact SV.aX (by omega)|exact SV.aX (by push_cast;omega)|exact SV.aX (by dsimp only;omega)|exact SV.imp_eq (by simp)),.sv (by first|exact au|exact SV.aX (by omega)|exact SV.aX (by push_cast;omega)|exact SV.aX (by dsimp only;omega)|exact SV.imp_eq (by simp)),.sv (by first|exact au|exact SV.aX (by omega)|exact SV.aX (by push_cast;omega)|exact SV.aX (by dsimp only;omega)|exact SV.imp_eq (by simp)),aq⟩ trivial trivial (λ_ _=>Y)) ?_;rintro⟨i,MX⟩
 try dsimp only
 rcases xz a b i MX with⟨hi,we,B4⟩|⟨hi,we,B4⟩|⟨hi,we,B4⟩|hi
 ·
  refine bz ?_;refine aW ?_;refine RT.lss .none (true) Y Y (tl Y) (by simp;omega) ?_;refine RT.done ?_;refine aV.n ?_;refine bz ?_;refine cm Y ?_;refine bp ?_;refine aV.n ?_;refine bz ?_;refine bj ?_;refine bz ?_;refine aW ?_;refine RT.mv .none Y (tl Y) ?_;refine RT.xj .none Y (tl Y) ?_;refine RT.done ?_;refine aV.n ?_;refine bz ?_;refine aW ?_;refine RT.n7 .none (cs:=eQ ⟨⟨false,[]⟩,⟨false,[]⟩⟩) (by exact⟨au,aB,au,aB,aq⟩) Y (tl Y) Y Y ?_;refine RT.n7 .none (cs:=eQ ⟨⟨false,[]⟩,⟨false,[]⟩⟩) (by exact⟨au,aB,au,aB,aq⟩) Y (tl Y) Y Y ?_;refine RT.done ?_;refine aV.n ?_;refine bz ?_;refine bz ?_;refine aW ?_;refine RT.mv .none Y (tl Y) ?_;refine RT.cw .none Y Y (tl Y) ?_;refine RT.len .none Y (tl Y) ?_;refine RT.lss .none (true) Y Y (tl Y) (by simp only[List.length_map];simp;omega) ?_;refine RT.done ?_;refine aV.n ?_;refine cm Y ?_;refine aW ?_;refine RT.cw .none Y Y (tl Y) ?_;refine RT.mv .none Y (tl Y) ?_
  refine RT.HG .none [az ((a.getD i (⟨⟨false,[]⟩,⟨false,[]⟩⟩:Qr)).num.neg),slc 1 ((a.getD i (⟨⟨false,[]⟩,⟨false,[]⟩⟩:Qr)).num.w.map aY),az ((a.getD i (⟨⟨false,[]⟩,⟨false,[]⟩⟩:Qr)).den.neg),slc 1 ((a.getD i (⟨⟨false,[]⟩,⟨false,[]⟩⟩:Qr)).den.w.map aY)] (Int.natCast_nonneg i) (by rw[Int.toNat_natCast,List.getElem?_map,cK we];rfl) Y Y (tl Y) ?_;refine RT.qT .none Y (tl Y) (cs:=[az ((a.getD i (⟨⟨false,[]⟩,⟨false,[]⟩⟩:Qr)).num.neg),slc 1 ((a.getD i (⟨⟨false,[]⟩,⟨false,[]⟩⟩:Qr)).num.w.map aY),az ((a.getD i (⟨⟨false,[]⟩,⟨false,[]⟩⟩:Qr)).den.neg),slc 1 ((a.getD i (⟨⟨false,[]⟩,⟨false,[]⟩⟩:Qr)).den.w.map aY)]) Y Y ?_;refine RT.store .none Y Y Y Y Y ?_;refine RT.done ?_;refine aV.n ?_;refine bz ?_;refine bz ?_;refine aW ?_;refine RT.mv .none Y (tl Y) ?_;refine RT.cw .none Y Y (tl Y) ?_;refine RT.len .none Y (tl Y) ?_;refine RT.lss .none (true) Y Y (tl Y) (by simp only[List.length_map];simp;omega) ?_;refine RT.done ?_;refine aV.n ?_;refine cm Y ?_;refine aW ?_;refine RT.cw .none Y Y (tl Y) ?_;refine RT.mv .none Y (tl Y) ?_
  refine RT.HG .none [az ((b.getD i (⟨⟨false,[]⟩,⟨false,[]⟩⟩:Qr)).num.neg),slc 1 ((b.getD i (⟨⟨false,[]⟩,⟨false,[]⟩⟩:Qr)).num.w.map aY),az ((b.getD i (⟨⟨false,[]⟩,⟨false,[]⟩⟩:Qr)).den.neg),slc 1 ((b.getD i (⟨⟨false,[]⟩,⟨false,[]⟩⟩:Qr)).den.w.map aY)] (Int.natCast_nonneg i) (by rw[Int.toNat_natCast,List.getElem?_map,cK B4];rfl) Y Y (tl Y) ?_;refine RT.qT .none Y (tl Y) (cs:=[az ((b.getD i (⟨⟨false,[]⟩,⟨false,[]⟩⟩:Qr)).num.neg),slc 1 ((b.getD i (⟨⟨false,[]⟩,⟨false,[]⟩⟩:Qr)).num.w.map aY),az ((b.getD i (⟨⟨false,[]⟩,⟨false,[]⟩⟩:Qr)).den.neg),slc 1 ((b.getD i (⟨⟨false,[]⟩,⟨false,[]⟩⟩:Qr)).den.w.map aY)]) Y Y ?_;refine RT.store .none Y Y Y Y Y ?_;refine RT.done ?_;refine aV.n ?_;refine bz ?_;refine aW ?_;refine RT.mv .none Y (tl Y) ?_;refine RT.load .none Y Y (.k4 Y Y Y Y) Y (tl Y) ?_;refine RT.load .none Y Y (.k4 Y Y Y Y) Y (tl Y) ?_;refine RT.yield .none hr Y (λ_ h=>h) Y (i) Y Y hi (by exact⟨Y,Y,aq⟩) (tl Y) (λyb=>?_);cases yb
  ·
   refine RT.not .none Y (tl Y) true Y ?_;refine RT.done ?_;refine aV.n ?_;refine cm Y ?_;refine bf ?_;refine bw.r ?_;refine aV.r ?_;refine aV.r ?_;refine bw.r ?_;exact⟨.inr rfl,(λh=>by cases h)⟩
  refine RT.not .none Y (tl Y) false Y ?_;refine RT.done ?_;refine aV.n ?_;refine dh Y ?_;refine bp ?_;refine bw.n ?_;refine aV.n ?_;refine aW ?_;refine RT.add .none (((i:Nat):Int)+1) Y Y (tl Y) (jx (by omega)) ?_;refine RT.mv .none Y (tl Y) ?_;refine RT.done ?_;refine aV.n ?_;refine⟨⟨i+1,by omega⟩,(by dsimp only;omega),?_⟩
  try dsimp only
  exact c8 id Y Y Y Y Y ⟨.sv (by first|exact au|exact SV.aX (by omega)|exact SV.aX (by push_cast;omega)|exact SV.aX (by dsimp only;omega)|exact SV.imp_eq (by simp)),.sv (by first|exact au|exact SV.aX (by omega)|exact SV.aX (by push_cast;omega)|exact SV.aX (by dsimp only;omega)|exact SV.imp_eq (by simp)),.sv (by first|exact au|exact SV.aX (by omega)|exact SV.aX (by push_cast;omega)|exact SV.aX (by dsimp only;omega)|exact SV.imp_eq (by simp)),.sv (by first|exact au|exact SV.aX (by omega)|exact SV.aX (by push_cast;omega)|exact SV.aX (by dsimp only;omega)|exact SV.imp_eq (by simp)),.sv (by first|exact au|exact SV.aX (by omega)|exact SV.aX (by push_cast;omega)|exact SV.aX (by dsimp only;omega)|exact SV.imp_eq (by simp)),aq⟩ trivial trivial (λ_ _=>Y)
 ·
  refine bz ?_;refine aW ?_;refine RT.lss .none (true) Y Y (tl Y) (by simp;omega) ?_;refine RT.done ?_;refine aV.n ?_;refine bz ?_;refine cm Y ?_;refine bp ?_;refine aV.n ?_;refine bz ?_;refine bj ?_;refine bz ?_;refine aW ?_;refine RT.mv .none Y (tl Y) ?_;refine RT.xj .none Y (tl Y) ?_;refine RT.done ?_;refine aV.n ?_;refine bz ?_;refine aW ?_;refine RT.n7 .none (cs:=eQ ⟨⟨false,[]⟩,⟨false,[]⟩⟩) (by exact⟨au,aB,au,aB,aq⟩) Y (tl Y) Y Y ?_;refine RT.n7 .none (cs:=eQ ⟨⟨false,[]⟩,⟨false,[]⟩⟩) (by exact⟨au,aB,au,aB,aq⟩) Y (tl Y) Y Y ?_;refine RT.done ?_;refine aV.n ?_;refine bz ?_;refine bz ?_;refine aW ?_;refine RT.mv .none Y (tl Y) ?_;refine RT.cw .none Y Y (tl Y) ?_;refine RT.len .none Y (tl Y) ?_;refine RT.lss .none (true) Y Y (tl Y) (by simp only[List.length_map];simp;omega) ?_;refine RT.done ?_;refine aV.n ?_;refine cm Y ?_;refine aW ?_;refine RT.cw .none Y Y (tl Y) ?_;refine RT.mv .none Y (tl Y) ?_
  refine RT.HG .none [az ((a.getD i (⟨⟨false,[]⟩,⟨false,[]⟩⟩:Qr)).num.neg),slc 1 ((a.getD i (⟨⟨false,[]⟩,⟨false,[]⟩⟩:Qr)).num.w.map aY),az ((a.getD i (⟨⟨false,[]⟩,⟨false,[]⟩⟩:Qr)).den.neg),slc 1 ((a.getD i (⟨⟨false,[]⟩,⟨false,[]⟩⟩:Qr)).den.w.map aY)] (Int.natCast_nonneg i) (by rw[Int.toNat_natCast,List.getElem?_map,cK we];rfl) Y Y (tl Y) ?_;refine RT.qT .none Y (tl Y) (cs:=[az ((a.getD i (⟨⟨false,[]⟩,⟨false,[]⟩⟩:Qr)).num.neg),slc 1 ((a.getD i (⟨⟨false,[]⟩,⟨false,[]⟩⟩:Qr)).num.w.map aY),az ((a.getD i (⟨⟨false,[]⟩,⟨false,[]⟩⟩:Qr)).den.neg),slc 1 ((a.getD i (⟨⟨false,[]⟩,⟨false,[]⟩⟩:Qr)).den.w.map aY)]) Y Y ?_;refine RT.store .none Y Y Y Y Y ?_;refine RT.done ?_;refine aV.n ?_;refine bz ?_;refine bz ?_;refine aW ?_;refine RT.mv .none Y (tl Y) ?_;refine RT.cw .none Y Y (tl Y) ?_;refine RT.len .none Y (tl Y) ?_;refine RT.lss .none (false) Y Y (tl Y) (by simp only[List.length_map];simp;omega) ?_;refine RT.done ?_;refine aV.n ?_;refine dh Y ?_;refine bp ?_;refine aV.n ?_;refine bz ?_;refine aW ?_;refine RT.mv .none Y (tl Y) ?_;refine RT.load .none Y Y (.k4 Y Y Y Y) Y (tl Y) ?_;refine RT.load .none Y Y (.k4 Y Y Y Y) Y (tl Y) ?_
  refine RT.yield .none hr Y (λ_ h=>h) Y (i) Y Y hi (by exact⟨Y,(by show AV.sv _=AV.sv _;rw[dU B4]),aq⟩) (tl Y) (λyb=>?_);cases yb
  ·
   refine RT.not .none Y (tl Y) true Y ?_;refine RT.done ?_;refine aV.n ?_;refine cm Y ?_;refine bf ?_;refine bw.r ?_;refine aV.r ?_;refine aV.r ?_;refine bw.r ?_;exact⟨.inr rfl,(λh=>by cases h)⟩
  refine RT.not .none Y (tl Y) false Y ?_;refine RT.done ?_;refine aV.n ?_;refine dh Y ?_;refine bp ?_;refine bw.n ?_;refine aV.n ?_;refine aW ?_;refine RT.add .none (((i:Nat):Int)+1) Y Y (tl Y) (jx (by omega)) ?_;refine RT.mv .none Y (tl Y) ?_;refine RT.done ?_;refine aV.n ?_;refine⟨⟨i+1,by omega⟩,(by dsimp only;omega),?_⟩
  try dsimp only
  exact c8 id Y Y Y Y Y ⟨.sv (by first|exact au|exact SV.aX (by omega)|exact SV.aX (by push_cast;omega)|exact SV.aX (by dsimp only;omega)|exact SV.imp_eq (by simp)),.sv (by first|exact au|exact SV.aX (by omega)|exact SV.aX (by push_cast;omega)|exact SV.aX (by dsimp only;omega)|exact SV.imp_eq (by simp)),.sv (by first|exact au|exact SV.aX (by omega)|exact SV.aX (by push_cast;omega)|exact SV.aX (by dsimp only;omega)|exact SV.imp_eq (by simp)),.sv (by first|exact au|exact SV.aX (by omega)|exact SV.aX (by push_cast;omega)|exact SV.aX (by dsimp only;omega)|exact SV.imp_eq (by simp)),.sv (by first|exact au|exact SV.aX (by omega)|exact SV.aX (by push_cast;omega)|exact SV.aX (by dsimp only;omega)|exact SV.imp_eq (by simp)),aq⟩ trivial trivial (λ_ _=>Y)
 ·
  refine bz ?_;refine aW ?_;refine RT.lss .none (true) Y Y (tl Y) (by simp;omega) ?_;refine RT.done ?_;refine aV.n ?_;refine bz ?_;refine cm Y ?_;refine bp ?_;refine aV.n ?_;refine bz ?_;refine bj ?_;refine bz ?_;refine aW ?_;refine RT.mv .none Y (tl Y) ?_;refine RT.xj .none Y (tl Y) ?_;refine RT.done ?_;refine aV.n ?_;refine bz ?_;refine aW ?_;refine RT.n7 .none (cs:=eQ ⟨⟨false,[]⟩,⟨false,[]⟩⟩) (by exact⟨au,aB,au,aB,aq⟩) Y (tl Y) Y Y ?_;refine RT.n7 .none (cs:=eQ ⟨⟨false,[]⟩,⟨false,[]⟩⟩) (by exact⟨au,aB,au,aB,aq⟩) Y (tl Y) Y Y ?_;refine RT.done ?_;refine aV.n ?_;refine bz ?_;refine bz ?_;refine aW ?_;refine RT.mv .none Y (tl Y) ?_;refine RT.cw .none Y Y (tl Y) ?_;refine RT.len .none Y (tl Y) ?_;refine RT.lss .none (false) Y Y (tl Y) (by simp only[List.length_map];simp;omega) ?_;refine RT.done ?_;refine aV.n ?_;refine dh Y ?_;refine bp ?_;refine aV.n ?_;refine bz ?_;refine bz ?_;refine aW ?_;refine RT.mv .none Y (tl Y) ?_;refine RT.cw .none Y Y (tl Y) ?_;refine RT.len .none Y (tl Y) ?_;refine RT.lss .none (true) Y Y (tl Y) (by simp only[List.length_map];simp;omega) ?_;refine RT.done ?_;refine aV.n ?_;refine cm Y ?_;refine aW ?_;refine RT.cw .none Y Y (tl Y) ?_
  refine RT.mv .none Y (tl Y) ?_;refine RT.HG .none [az ((b.getD i (⟨⟨false,[]⟩,⟨false,[]⟩⟩:Qr)).num.neg),slc 1 ((b.getD i (⟨⟨false,[]⟩,⟨false,[]⟩⟩:Qr)).num.w.map aY),az ((b.getD i (⟨⟨false,[]⟩,⟨false,[]⟩⟩:Qr)).den.neg),slc 1 ((b.getD i (⟨⟨false,[]⟩,⟨false,[]⟩⟩:Qr)).den.w.map aY)] (Int.natCast_nonneg i) (by rw[Int.toNat_natCast,List.getElem?_map,cK B4];rfl) Y Y (tl Y) ?_;refine RT.qT .none Y (tl Y) (cs:=[az ((b.getD i (⟨⟨false,[]⟩,⟨false,[]⟩⟩:Qr)).num.neg),slc 1 ((b.getD i (⟨⟨false,[]⟩,⟨false,[]⟩⟩:Qr)).num.w.map aY),az ((b.getD i (⟨⟨false,[]⟩,⟨false,[]⟩⟩:Qr)).den.neg),slc 1 ((b.getD i (⟨⟨false,[]⟩,⟨false,[]⟩⟩:Qr)).den.w.map aY)]) Y Y ?_;refine RT.store .none Y Y Y Y Y ?_;refine RT.done ?_;refine aV.n ?_;refine bz ?_;refine aW ?_;refine RT.mv .none Y (tl Y) ?_;refine RT.load .none Y Y (.k4 Y Y Y Y) Y (tl Y) ?_;refine RT.load .none Y Y (.k4 Y Y Y Y) Y (tl Y) ?_;refine RT.yield .none hr Y (λ_ h=>h) Y (i) Y Y hi (by exact⟨(by show AV.sv _=AV.sv _;rw[dU we]),Y,aq⟩) (tl Y) (λyb=>?_);cases yb
  ·
   refine RT.not .none Y (tl Y) true Y ?_;refine RT.done ?_;refine aV.n ?_;refine cm Y ?_;refine bf ?_;refine bw.r ?_;refine aV.r ?_;refine aV.r ?_;refine bw.r ?_;exact⟨.inr rfl,(λh=>by cases h)⟩
  refine RT.not .none Y (tl Y) false Y ?_;refine RT.done ?_;refine aV.n ?_;refine dh Y ?_;refine bp ?_;refine bw.n ?_;refine aV.n ?_;refine aW ?_;refine RT.add .none (((i:Nat):Int)+1) Y Y (tl Y) (jx (by omega)) ?_;refine RT.mv .none Y (tl Y) ?_;refine RT.done ?_;refine aV.n ?_;refine⟨⟨i+1,by omega⟩,(by dsimp only;omega),?_⟩
  try dsimp only
  exact c8 id Y Y Y Y Y ⟨.sv (by first|exact au|exact SV.aX (by omega)|exact SV.aX (by push_cast;omega)|exact SV.aX (by dsimp only;omega)|exact SV.imp_eq (by simp)),.sv (by first|exact au|exact SV.aX (by omega)|exact SV.aX (by push_cast;omega)|exact SV.aX (by dsimp only;omega)|exact SV.imp_eq (by simp)),.sv (by first|exact au|exact SV.aX (by omega)|exact SV.aX (by push_cast;omega)|exact SV.aX (by dsimp only;omega)|exact SV.imp_eq (by simp)),.sv (by first|exact au|exact SV.aX (by omega)|exact SV.aX (by push_cast;omega)|exact SV.aX (by dsimp only;omega)|exact SV.imp_eq (by simp)),.sv (by first|exact au|exact SV.aX (by omega)|exact SV.aX (by push_cast;omega)|exact SV.aX (by dsimp only;omega)|exact SV.imp_eq (by simp)),aq⟩ trivial trivial (λ_ _=>Y)
 subst hi;refine bz ?_;refine aW ?_;refine RT.lss .none (false) Y Y (tl Y) (by simp) ?_;refine RT.done ?_;refine aV.n ?_;refine bz ?_;refine dh Y ?_;refine bP ?_;refine aV.x ?_;refine aV.x ?_;refine bw.x ?_;exact⟨.inl Y,(λ_=>Y)⟩
end
section
open Go.Fw Go.Fw.Z Go.RowKit
theorem A6{x0:Qr}{x1:Qr}{c0:Qr}{r:Qr}(h:kR x0 x1 c0=some r):HO ah 78 [.agg (eQ x0),.agg (eQ x1)] 36 (eQ c0) (.any) (eQ r):=by
 obtain⟨⟨bu,bt⟩,⟨bM,bR⟩⟩:=x0;obtain⟨⟨b7,bX⟩,⟨gZ,g9⟩⟩:=x1;obtain⟨⟨IU,IV⟩,⟨IW,IX⟩⟩:=c0;refine xo Tryz.func78 Y (af Y) (λdD M β=>?_);unfold kR at h;refine sr<|bx Y<|bx Y<|dn<|qq ?_;refine bC h (λj3=>AS.ct 18 [(2,.ptr 1000 0),(3,.ptr 3 0),(4,.ptr 4 0),(12,aj j3)] [(4,⟨36,[aj b7,.sv (slc 1 (List.map aY bX)),aj gZ,.sv (slc 1 (List.map aY g9))]⟩),(3,⟨36,[aj bu,.sv (slc 1 (List.map aY bt)),aj bM,.sv (slc 1 (List.map aY bR))]⟩),(1000,⟨36,[aj IU,.sv (slc 1 (List.map aY IV)),aj IW,.sv (slc 1 (List.map aY IX))]⟩)] []) (λh=>?_) (λxV h=>?_);refine aW<|ld Y Y (.k4 Y Y Y Y)<|bE h λx6 h6 h=>cl (og h6) ⟨Y,aq⟩<|lE h λx7 h7 h=>ne _ Y Y (Kx (p:=x6) (q:=0) h7)<|mv Y<|bE h λNC rZ h=>?_;cases x7;obtain rfl:=O (F rZ);exact ww<|ww<|ww<|pF Y<|dn<|⟨false,h,wR []⟩;refine gl Y Y (.k4 Y Y Y Y)<|bE (V rZ) λdJ fZ rZ=>gc (og fZ) ⟨Y,aq⟩<|lE rZ λfK lH rZ=>gq _ Y Y (Kx (p:=dJ) (q:=0) lH) ?_;obtain rfl:=O rZ;exact pT Y<|dn<|⟨fK,h,wR []⟩
 try dsimp only
 refine aV.n ?_;refine bC h (λj5=>AS.ct 18 [(2,.ptr 1000 0)] [(1000,⟨36,[aj j5.1,.sv (slc 1 (List.map aY j5.2.1)),aj j5.2.2.1,.sv (slc 1 (List.map aY j5.2.2.2))]⟩)] []) (λh=>?_) (λj5 h=>?_);cases xV;exact fs<|⟨(IU,IV,IW,IX),(F h),wR []⟩;refine cT<|bh mixed<|ld Y Y (.k4 Y Y Y Y)<|ld Y Y (.k4 Y Y Y Y)<|ld Y Y (.k4 Y Y Y Y) ?_;obtain⟨⟨⟨jg,jh⟩,⟨vS,vT⟩⟩,iY,h⟩:=bS (V h);refine cl (vP iY) ⟨Y,Y,aq⟩ ?_;obtain⟨⟨⟨ng,nh⟩,⟨oK,oL⟩⟩,kg,h⟩:=bS h;refine cl (CR kg) ⟨Y,Y,aq⟩<|so Y Y Y ?_;refine RT.done ⟨by kernel_rfl,?_⟩;exact aV.n<|⟨(ng,nh,oK,oL),h,wR []⟩;obtain⟨zW,zX,zY,zZ⟩:=j5
 try dsimp only
 obtain rfl:=O h;exact⟨.inl Y,lQ .nil (λ_ _ _=>trivial),Y⟩
theorem oh{x0:Qr}{x1:List Qr}{r:List Qr}(h:ig x0 x1=some r):Pure ah 55 [.agg (eQ x0),slc 4 (List.map eQ x1)] (slc 4 (List.map eQ r)):=by
 obtain⟨⟨bu,bt⟩,⟨bM,bR⟩⟩:=x0;refine aZ Tryz.func55 Y (af Y) (λdD M vs hvs=>?_);unfold ig at h;refine sr<|bx Y<|aI Y (aB (n:=4) (e:=eQ))<|dn<|sr<|mv Y<|lE h λx9 h9 h=>ln Y h9<|bE h λdJ fZ h=>RT.qY (n:=4) (e:=eQ) .none Y Y T Y T (by rfl) (by decide) (by exact⟨au,aB,au,aB,aq⟩) fZ<|an (s:=.row _) Y<|dn<|qq<|sr<|mv Y<|lE h λdj fW h=>ln Y fW<|mv Y<|dn<|bE h λe8 Cz tB=>?_;refine bK (λ(ij:(List Qr))=>AS.ct 26 [(5,.row 10)] [] [(10,TR 36 4 eQ ij)]) (λij=>ij=e8) ?_ (λij CA=>?_);refine bj ?_;refine bL Cz (λs8=>AS.ct 26 [(2,.ptr 2 0),(5,.row 10),(11,.sv (slc 4 (List.map eQ x1))),(12,ai dj),(13,ai s8.1)] [(2,⟨36,[aj bu,.sv (slc 1 (List.map aY bt)),aj bM,.sv (slc 1 (List.map aY bR))]⟩)] [(10,TR 36 4 eQ s8.2)]) (wR []) (λs8 y8 G8 h CB CC=>?_);obtain⟨kS,kT⟩:=s8
 try dsimp only
 refine sr<|lE h λdV iJ h=>ls _ Y Y iJ<|dn<|qq ?_;cases dV;refine cF<|bP<|aV.x<|aV.x<|bw.x<|aV.n ?_;obtain rfl:=O (F h);exact⟨kT,CC _ Y,wR []⟩;refine cT<|bp<|aV.n<|qq<|bj<|sr<|mv Y ?_;obtain⟨⟨⟨jg,jh⟩,⟨vS,vT⟩⟩,iY,h⟩:=bS (V h);refine ix Y Y iY<|RT.qT (cs:=[_,_,_,_]) .none Y T Y Y<|al (cs:=[az false,ax,az false,ax]) (by exact⟨au,aB,au,aB,aq⟩) Y<|ag Y<|so Y Y Y<|dn<|aW<|mo (s:=.row _) Y<|mv Y<|ld Y Y (.k4 Y Y Y Y)<|ld Y Y (.k4 Y Y Y Y) ?_;obtain⟨⟨⟨rA,rB⟩,⟨rC,rD⟩⟩,nw,h⟩:=bS h;refine cl (vP nw) ⟨Y,Y,aq⟩<|bE h λgM oc h=>iR Y Y Y oc<|bE h λxC pD h=>sA ⟨⟨rA,rB⟩,⟨rC,rD⟩⟩ Y Y Y pD<|RT.done<|bw.n<|aV.n<|aW<|lE h λgO oT h=>ad _ Y Y oT<|mv Y<|RT.done ?_;obtain rfl:=O h;exact aV.n ⟨(gO,xC),CB _ Y,wR []⟩;subst CA
 try dsimp only
 refine aV.n<|sr<|mo (s:=.row _) Y<|an (s:=.row _) Y<|dn<|bQ (cC (i:=10) (E1:=36) (n:=4) (e:=eQ) (l:=ij) Y)<|bf ?_;obtain rfl:=O tB;exact R1 Y
theorem r9{x0:List Qr}{x1:List Qr}{r:Qr}(h:gD x0 x1=some r):Pure ah 32 [slc 4 (List.map eQ x0),slc 4 (List.map eQ x1)] (.agg (eQ r)):=by
 refine aZ Tryz.func32 Y (af Y) (λdD M vs hvs=>?_);unfold gD at h;refine sr<|al (cs:=[az false,ax,az false,ax]) (by exact⟨au,aB,au,aB,aq⟩) Y<|dn<|sr<|al (cs:=[az false,ax,az false,ax]) (by exact⟨au,aB,au,aB,aq⟩) Y<|dn<|sr<|RT.makeFunc .none (.box Y (.nil)) T<|RT.alloc .none T Y Y<|RT.mm (cells:=[_]) .none (s:=.eT _ _) Y Y Y T Y ?_;refine dn<|sr<|mv Y<|lE h λdj fW h=>ln Y fW<|mv Y<|lE h λdV iJ h=>ln Y iJ<|lE h λeN jy h=>RT.min .none _ Y Y T (RO (p:=dj) (q:=dV) jy)<|ag Y<|dn<|qq<|qq<|bh mixed<|mv Y<|mv Y<|bE h λfj jT h=>RT.rP .none 0 eN Y Y ⟨_,Y⟩ T jT<|mv Y<|mv Y<|bE h λgi mU h=>RT.rP .none 0 eN Y Y ⟨_,Y⟩ T mU<|cl (tD fj gi) ⟨Y,Y,aq⟩ ?_;refine RT.done ⟨by kernel_rfl,?_⟩;refine aV.n<|bj<|bE h λe7 Sw Ls=>?_;obtain⟨Gu,Sx,Sy,SA⟩:=nJ Sw
 refine lS (tF fj gi) (λ_ _ _ _ _=>trivial) Y (λk=>AS.ct 30 [(4,.ptr 4 0),(5,.ptr 5 0),(6,.ptr 6 0),(22,.sv (nZ 112 [ref [slc 4 (List.map eQ fj)],ref [slc 4 (List.map eQ gi)]]))] [(6,⟨91,[.eT 78 [.box 5]]⟩),(5,⟨36,[aj ((Gu k).1),.sv (slc 1 (List.map aY (Gu k).2.1)),aj ((Gu k).2.2.1),.sv (slc 1 (List.map aY (Gu k).2.2.2))]⟩),(4,⟨36,[aj false,.sv ax,aj false,.sv ax]⟩)] []) [6,5,4] Y (λ_=>⟨Y,Y⟩) (rK Y) (λ_=>Y) (rL Y) (by(try dsimp only);rw[Sx];(try dsimp only);exact c8 id Y Y Y Y Y ⟨.ptr,.ptr,.ptr,.sv au,aq⟩ ⟨⟨_,Y,⟨.eT,aq⟩⟩,⟨_,Y,⟨.sv au,.sv au,.sv au,.sv au,aq⟩⟩,⟨_,Y,⟨.sv au,.sv au,.sv au,.sv au,aq⟩⟩,aq⟩ trivial (λ_ _=>Y)) (λk hk D hD=>?_) ?_;have h:=Sy k hk;obtain⟨sk,Pu⟩:∃q,Gu k=q:=⟨_,Y⟩;rw[Pu]at h⊢;obtain⟨xW,xX,xY,xZ⟩:=sk;dsimp only[AS.KZ,qX]
 try dsimp only at h
 obtain⟨⟨⟨ND,NF⟩,⟨NG,NH⟩⟩,Xv,h⟩:=bS h;rw[Option.some.inj Xv];obtain⟨⟨⟨NI,NJ⟩,⟨NK,NL⟩⟩,Xw,h⟩:=bS h;rw[Option.some.inj Xw];refine sr<|al (cs:=[az false,ax,az false,ax]) (by exact⟨au,aB,au,aB,aq⟩) Y<|so Y Y Y<|dn<|aW<|al (cs:=[az false,ax,az false,ax]) (by exact⟨au,aB,au,aB,aq⟩) Y<|so Y Y Y<|RT.done ?_;refine aV.n ⟨Y,?_⟩;dsimp only[AS.Ax];refine bj<|aW<|RT.nH .none (s:=.eT _ _) Y Y Y T<|ld Y Y (.k4 Y Y Y Y)<|ld Y Y (.k4 Y Y Y Y) ?_;obtain⟨⟨⟨SP,SQ⟩,⟨SR,SS⟩⟩,tv,h⟩:=bS h;refine cB (A6 tv) 5 Y ⟨Y,Y,aq⟩<|RT.done<|bw.n ?_;replace h:=Option.some.inj h;refine⟨aq,Y,Y,?_⟩
 try dsimp only
 rw[<-h]
 try dsimp only
 exact wR [];rw[SA];obtain⟨xW,xX,xY,xZ⟩:=e7
 try dsimp only
 refine bw.n<|aV.n<|sr<|ld Y Y (.k4 Y Y Y Y)<|so Y Y Y<|dn<|bf ?_;obtain rfl:=O Ls;exact RZ (.agg Y Y (.k4 Y Y Y Y) Y (.nil))
theorem yc{x0:List Qr}{x1:List Qr}{r:Int}(h:iM x0 x1=some r):Pure ah 36 [slc 4 (List.map eQ x0),slc 4 (List.map eQ x1)] (ay r):=by
 refine aZ Tryz.func36 Y (af Y) (λdD M vs hvs=>?_);unfold iM at h;refine sr<|al (cs:=[ay 0]) (by exact⟨au,aq⟩) Y<|dn<|qq<|sr<|mv Y<|mv Y<|cl (tD x0 x1) ⟨Y,Y,aq⟩<|dn<|bj<|bE h λe3 OZ PS=>?_;obtain⟨m3,Xx,Uh,Xy,Xz⟩:=uK OZ;refine kD (tF x0 x1) (λ_ _ _ _ _=>trivial) Y (λk=>AS.ct 19 [(4,.ptr 4 0),(10,.sv (nZ 112 [ref [slc 4 (List.map eQ x0)],ref [slc 4 (List.map eQ x1)]]))] [(4,⟨3,[ai 0]⟩)] []) [4] Y (λ_=>⟨Y,Y⟩) (rK Y) (λ_=>Y) (rL Y) (by(try dsimp only);(try dsimp only);exact c8 id Y Y Y Y Y ⟨.ptr,.sv au,aq⟩ ⟨⟨_,Y,⟨.sv au,aq⟩⟩,aq⟩ trivial (λ_ _=>Y)) m3 (λk hk hkm D hD=>?_) (λhdn=>?_);obtain⟨y3,h,XA,XB⟩:=Xy k hk hkm;dsimp only[AS.KZ,qX]
 try dsimp only at h
 obtain⟨⟨⟨CT,CU⟩,⟨CV,CW⟩⟩,I0,h⟩:=bS h;rw[Option.some.inj I0];obtain⟨⟨⟨NM,NN⟩,⟨NO,NP⟩⟩,XC,h⟩:=bS h;rw[Option.some.inj XC];refine sr<|al (cs:=[az false,ax,az false,ax]) (by exact⟨au,aB,au,aB,aq⟩) Y<|so Y Y Y<|dn<|aW<|al (cs:=[az false,ax,az false,ax]) (by exact⟨au,aB,au,aB,aq⟩) Y<|so Y Y Y<|RT.done ?_;refine aV.n ⟨Y,?_⟩;dsimp only[AS.Ax];refine bj<|sr<|ld Y Y (.k4 Y Y Y Y)<|ld Y Y (.k4 Y Y Y Y)<|bE h λeN jy h=>cl (vR jy) ⟨Y,Y,aq⟩<|ag Y<|dn<|sr<|mv Y<|lE h λeM kg h=>ne _ Y Y (Kx (p:=eN) (q:=0) kg)<|dn ?_;cases eM;refine cF<|bp<|bw.n ?_;obtain rfl:=O (F h);obtain⟨XD,XE⟩:=XA _ Y;exact⟨XD,Y,Y,wR []⟩;refine cT<|sr<|mv Y<|RT.mm (cells:=[_]) .none (s:=.sv _) Y Y Y T Y<|dn<|bf<|bw.r ?_;obtain rfl:=O (V h);have XF:=XB _ Y;subst XF;refine⟨Y,Y,?_⟩;refine bw.r<|aV.r ?_;obtain rfl:=O PS;exact RZ (.one Y Y Y (.nil));have XG:=Xz hdn;subst XG;obtain⟨ee3,PT⟩:∃q,Xx (max x0.length x1.length)=q:=⟨_,Y⟩;rw[PT]at PS
 try dsimp only
 refine bw.n<|aV.n<|sr<|RT.mm (cells:=[_]) .none (s:=.sv _) Y Y Y T Y<|dn<|bf ?_;obtain rfl:=O PS;exact RZ (.one Y Y Y (.nil))
theorem jF{x0:List Qr}{x1:List Qr}{r:Bool}(h:dY x0 x1=some r):Pure ah 37 [slc 4 (List.map eQ x0),slc 4 (List.map eQ x1)] (az r):=by
 refine aZ Tryz.func37 Y (af Y) (λdD M vs hvs=>?_);unfold dY at h;refine sr<|ag Y<|dn<|sr<|mv Y<|mv Y<|bE h λx7 h7 h=>cl (yc h7) ⟨Y,Y,aq⟩<|lE h λx8 h8 h=>eq _ Y Y (vD (p:=x7) (q:=0) h8)<|ag Y<|dn<|bf ?_;obtain rfl:=O h;exact R1 Y
theorem eu{x0:List Int}{r:List Qr}(h:cP x0=some r):Pure ah 42 [slc 1 (List.map bG x0)] (slc 4 (List.map eQ r)):=by
 refine aZ Tryz.func42 Y (af Y) (λdD M vs hvs=>?_);unfold cP at h;refine sr<|aI Y (aB (n:=4) (e:=eQ))<|dn<|sr<|mv Y<|lE h λx7 h7 h=>ln Y h7<|bE h λx8 h8 h=>RT.qY (n:=4) (e:=eQ) .none Y Y T Y T (by rfl) (by decide) (by exact⟨au,aB,au,aB,aq⟩) h8<|an (s:=.row _) Y<|dn<|qq<|sr<|mv Y<|lE h λdJ fZ h=>ln Y fZ<|mv Y<|dn<|bE h λe8 Cz tB=>?_;refine bK (λ(r8:(List Qr))=>AS.ct 23 [(3,.row 8)] [] [(8,TR 36 4 eQ r8)]) (λr8=>r8=e8) ?_ (λr8 CA=>?_);refine bj ?_;refine bL Cz (λs8=>AS.ct 23 [(3,.row 8),(9,.sv (slc 1 (List.map bG x0))),(10,ai dJ),(11,ai s8.1)] [] [(8,TR 36 4 eQ s8.2)]) (wR []) (λs8 y8 G8 h CB CC=>?_);obtain⟨pU,ya⟩:=s8
 try dsimp only
 refine sr<|lE h λdj fW h=>ls _ Y Y fW<|dn<|qq ?_;cases dj;refine cF<|bP<|aV.x<|aV.x<|bw.x<|aV.n ?_;obtain rfl:=O (F h);exact⟨ya,CC _ Y,wR []⟩;refine cT<|bp<|aV.n<|qq<|bj<|sr<|mv Y<|bE (V h) λdV iJ h=>ix Y Y iJ<|lr Y Y<|ag Y<|ag Y<|dn<|aW<|mo (s:=.row _) Y<|mv Y<|mv Y ?_;obtain⟨⟨⟨oI,oJ⟩,⟨IY,IZ⟩⟩,mz,h⟩:=bS h;refine cl (jE mz) ⟨Y,aq⟩<|bE h λju oQ h=>iR Y Y Y oQ<|bE h λxC pD h=>sA ⟨⟨oI,oJ⟩,⟨IY,IZ⟩⟩ Y Y Y pD<|RT.done<|bw.n<|aV.n<|aW<|lE h λgi mU h=>ad _ Y Y mU<|mv Y<|RT.done ?_;obtain rfl:=O h;exact aV.n ⟨(gi,xC),CB _ Y,wR []⟩;subst CA
 try dsimp only
 refine aV.n<|sr<|mo (s:=.row _) Y<|an (s:=.row _) Y<|dn<|bQ (cC (i:=8) (E1:=36) (n:=4) (e:=eQ) (l:=r8) Y)<|bf ?_;obtain rfl:=O tB;exact R1 Y
end
section
open Go.Fw
noncomputable def kq(x0:List (List Qr))(x1:Int):Option (List Qr):=cg (λ(xV:Bool)=>(bif xV then some []else(c9 x0 x1).bind λeN=>some eN)) λK3=>(some (decide ((x1:Int)<0))).bind λx6=>(bif x6 then some true else(some (x0.length:Int)).bind λdJ=>(some (decide ((dJ:Int)<=x1))).bind λfK=>some fK).bind λNQ=>K3 NQ
noncomputable def ku(x0:List (List Qr)):Option (Int):=(some (x0.length:Int)).bind λx7=>(b9 (λ(s6:Int×Int)=>match s6 with|⟨kU,Lu⟩=>(show Option ((Int×Int)⊕(Int))from(some (decide ((Lu:Int)<x7))).bind λx9=>(bif x9 then(c9 x0 Lu).bind λdJ=>(some (dJ.length:Int)).bind λdV=>(some (max (kU:Int) dV)).bind λeN=>(some (IntKind.i64.wrap (Lu+1))).bind λfE=>some (.inl (eN,fE))else some (.inr kU)))) (0,0)).bind λnK=>some nK
noncomputable def nL(x0:List (List Qr))(x1:Int)(x2:Int):Option (Qr):=(kq x0 x1).bind λdJ=>cg (λ(I1:Bool)=>(bif I1 then some ⟨⟨false,[]⟩,⟨false,[]⟩⟩else(c9 dJ x2).bind λ⟨⟨rA,rB⟩,⟨rC,rD⟩⟩=>(eR ⟨⟨rA,rB⟩,⟨rC,rD⟩⟩).bind λ⟨⟨CX,CY⟩,⟨CZ,C0⟩⟩=>some ⟨⟨CX,CY⟩,⟨CZ,C0⟩⟩)) λK3=>(some (decide ((x2:Int)<0))).bind λdj=>(bif dj then some true else(some (dJ.length:Int)).bind λfE=>(some (decide ((fE:Int)<=x2))).bind λeM=>some eM).bind λNR=>K3 NR
noncomputable def jG(x0:List (List Qr))(x1:List Qr):Option (List Qr):=(some (x0.length:Int)).bind λx9=>(Ca 64 x9 (⟨⟨false,[]⟩,⟨false,[]⟩⟩:Qr)).bind λdJ=>(some (x0.length:Int)).bind λdj=>(b9 (λ(s8:Int×(List Qr))=>match s8 with|⟨kS,kT⟩=>(show Option ((Int×(List Qr))⊕((List Qr)))from(some (decide ((kS:Int)<dj))).bind λdV=>(bif dV then(c9 x0 kS).bind λfE=>(gD fE x1).bind λ⟨⟨rA,rB⟩,⟨rC,rD⟩⟩=>(uy kT kS).bind λgM=>(stM kT gM ⟨⟨rA,rB⟩,⟨rC,rD⟩⟩).bind λxC=>(some (IntKind.i64.wrap (kS+1))).bind λgO=>some (.inl (gO,xC))else some (.inr kT)))) (0,dJ)).bind λij=>some ij
noncomputable def jl(x0:Qr)(x1:List (List Qr)):Option (List (List Qr)):=match x0 with|⟨⟨bu,bt⟩,⟨bM,bR⟩⟩=>(some (x1.length:Int)).bind λx9=>(Ca 24 x9 ([]:List Qr)).bind λdJ=>(some (x1.length:Int)).bind λdj=>(b9 (λ(s8:Int×(List (List Qr)))=>match s8 with|⟨kS,kT⟩=>(show Option ((Int×(List (List Qr)))⊕((List (List Qr))))from(some (decide ((kS:Int)<dj))).bind λdV=>(bif dV then(c9 x1 kS).bind λfE=>(ig ⟨⟨bu,bt⟩,⟨bM,bR⟩⟩ fE).bind λgQ=>(uy kT kS).bind λgM=>(stM kT gM gQ).bind λxC=>(some (IntKind.i64.wrap (kS+1))).bind λgO=>some (.inl (gO,xC))else some (.inr kT)))) (0,dJ)).bind λij=>some ij
noncomputable def ik(x0:List (List Qr))(x1:List (List Qr)):Option (Bool):=(lD (λ(k:Nat) (s3:Unit)=>(show Option ((Unit)⊕(Bool))from(some (x0.getD k [])).bind λO9=>(some (x1.getD k [])).bind λp11=>(dY O9 p11).bind λdV=>(some (!dV)).bind λeN=>(bif eN then some (.inr false)else some (.inl ())))) (max x0.length x1.length) ()).bind λe3=>match e3 with|.inr v3=>some v3|.inl _=>some true
noncomputable def dZ(x0:List (List Int)):Option (List (List Qr)):=(some (x0.length:Int)).bind λx7=>(Ca 24 x7 ([]:List Qr)).bind λx8=>(some (x0.length:Int)).bind λdJ=>(b9 (λ(s8:Int×(List (List Qr)))=>match s8 with|⟨pU,ya⟩=>(show Option ((Int×(List (List Qr)))⊕((List (List Qr))))from(some (decide ((pU:Int)<dJ))).bind λdj=>(bif dj then(c9 x0 pU).bind λdV=>(cP dV).bind λjZ=>(uy ya pU).bind λju=>(stM ya ju jZ).bind λxC=>(some (IntKind.i64.wrap (pU+1))).bind λgi=>some (.inl (gi,xC))else some (.inr ya)))) (0,x8)).bind λr8=>some r8
end
section
open Go.Fw Go.Fw.Z Go.RowKit
theorem sg{x0:List (List Qr)}{x1:Int}{r:List Qr}(h:kq x0 x1=some r):Pure ah 96 [slc 1 (List.map (eS 4 eQ) x0),.v (.int .i64 x1)] (slc 4 (List.map eQ r)):=by
 refine aZ Tryz.func96 Y (af Y) (λdD M vs hvs=>?_);unfold kq at h;refine sr<|aI Y (aB (n:=4) (e:=eQ))<|dn<|qq<|qq ?_;refine bC h (λj3=>AS.ct 17 [(0,.sv (slc 1 (List.map (eS 4 eQ) x0))),(1,.sv (.v (.int .i64 x1))),(12,.sv (.v (.bool j3)))] [] []) (λh=>?_) (λxV h=>?_);refine aW<|mv Y<|lE h λx6 h6 h=>ls _ Y Y h6<|mv Y<|bE h λNQ qt h=>?_;cases x6;refine gm Y<|gm Y<|lE (F qt) λdJ fZ qt=>gn Y fZ<|lE qt λfK lH qt=>RT.geq (.some Y Y) _ Y Y T lH ?_;obtain rfl:=O qt;exact pF Y<|dn<|⟨fK,h,wR []⟩;obtain rfl:=O (V qt);exact ww<|ww<|ww<|ww<|pT Y<|dn<|⟨true,h,wR []⟩
 try dsimp only
 refine aV.n ?_;cases xV;refine fs<|sr<|mv Y<|mv Y<|bE (F h) λeN jy h=>ix Y Y jy<|lr Y Y<|ag Y<|dn<|bf ?_;obtain rfl:=O h;exact R1 Y;refine cT<|sr<|aI Y (aB (n:=4) (e:=eQ))<|dn<|bf<|aV.r ?_;obtain rfl:=O (V h);exact R1 Y
theorem yd(a:List (List Qr))(i:Nat):kq a (i:Int)=some (a.getD i []):=by
 unfold kq;unfold cg;by_cases h:i<a.length;simp[c9,h,show ¬((i:Int)<0) by omega,show ¬((a.length:Int)<=(i:Int)) by omega,List.getD];simp[h,show ¬((i:Int)<0) by omega,show((a.length:Int)<=(i:Int)) by omega,dU (Nat.not_lt.1 h)]
theorem wB(a b:List (List Qr)):Pure ah 90 [(slc 1 (List.map (eS 4 eQ) a)),(slc 1 (List.map (eS 4 eQ) b))] (nZ 120 [ref [(slc 1 (List.map (eS 4 eQ) a))],ref [(slc 1 (List.map (eS 4 eQ) b))]]):=by
 refine aZ Tryz.func90 Y (af Y) (λdD M vs hvs=>?_);refine sr<|RT.Ap .none (s:=.sv _) Y T Y Y<|RT.Ap .none (s:=.sv _) Y T Y Y<|ag Y<|dn<|sr<|RT.makeFunc .none (.box Y (.box Y (.nil))) T<|an (s:=.eT _ _) Y<|dn<|bQ (ke (i:=2) Y [(slc 1 (List.map (eS 4 eQ) a))] (.cons Y .nil) .any 0 [(4,.eT 120 [.val (ref [(slc 1 (List.map (eS 4 eQ) a))]),.box 3])] (λ_ _ _=>trivial) (rF.h (l:=[(slc 1 (List.map (eS 4 eQ) a))])) ⟨@FT.eT _ _ _ _ _ 4 120 [.box 2,.box 3] Y,aq⟩) ?_;exact bQ (ke (i:=3) Y [(slc 1 (List.map (eS 4 eQ) b))] (.cons Y .nil) .any 0 [(4,.eT 120 [.val (ref [(slc 1 (List.map (eS 4 eQ) a))]),.val (ref [(slc 1 (List.map (eS 4 eQ) b))])])] (λ_ _ _=>trivial) (rF.h (l:=[(slc 1 (List.map (eS 4 eQ) b))])) ⟨@FT.eT _ _ _ _ _ 4 120 [.val (ref [(slc 1 (List.map (eS 4 eQ) a))]),.box 3] Y,aq⟩)<|bQ (Ay 4 (nZ 120 [ref [(slc 1 (List.map (eS 4 eQ) a))],ref [(slc 1 (List.map (eS 4 eQ) b))]]) (λ_ _ h=>Az h))<|bf<|⟨.inr Y,Au (.tmp Y (.nil)) Y⟩
theorem wC(a b:List (List Qr)):Iter ah 120 [ref [(slc 1 (List.map (eS 4 eQ) a))],ref [(slc 1 (List.map (eS 4 eQ) b))]] (max a.length b.length) (λk=>[(slc 4 (List.map eQ (a.getD k []))),(slc 4 (List.map eQ (b.getD k [])))]):=by
 refine n6 Tryz.func120 Y Y (af Y) (λdD M O l J hJ uz hr=>?_);obtain⟨oN,uz⟩:=uz;have hla:a.length<=9223372036854775807:=by cases oN with|nil=>exact uz.elim|cons _ oN=>exact qm uz.1
 have hlb:b.length<=9223372036854775807:=by cases oN with|nil=>exact uz.elim|cons _ oN=>cases oN with|nil=>exact uz.2.elim|cons _ _=>exact qm uz.2.1
 refine bz ?_;refine aW ?_;refine RT.cw .none Y Y (tl Y) ?_;refine RT.len .none Y (tl Y) ?_;refine RT.cw .none Y Y (tl Y) ?_;refine RT.len .none Y (tl Y) ?_;refine RT.max .none (((max a.length b.length:Nat):Int)) Y Y (tl Y) (by simp only[List.length_map];split<;>omega) ?_;refine RT.mv .none Y (tl Y) ?_;refine RT.done ?_;refine aV.n ?_;refine bj ?_
 refine sF (I:=λx:{i:Nat//i<=max a.length b.length}=>AS.ct 23 [(0,.sv (.v (.func (.yield l) #[] #[]))),(1,.sv (ref [(slc 1 (List.map (eS 4 eQ) a))])),(2,.sv (ref [(slc 1 (List.map (eS 4 eQ) b))])),(9,.sv (.v (.int .i64 ((max a.length b.length:Nat):Int)))),(10,.sv (.v (.int .i64 ((x.1:Nat):Int))))] [] [] (x.1)) (μ:=λx=>max a.length b.length-x.1) ⟨0,by omega⟩ (by(try dsimp only);exact c8 id rfl rfl rfl rfl rfl ⟨.sv (by first|exact au|exact SV.aX (by omega)|exact SV.aX (by push_cast;omega)|exact SV.aX (by dsimp only;omega)|exact SV.imp_eq (by simp)),.sv (by first|exact au|exact SV.aX (by omega)|exact SV.aX (by push_cast;omega)|exact SV.aX (by dsimp only;omega)|exact SV.imp_eq (by simp)),.sv (by first|exact au|exact SV.aX (by omega)|exact SV.aX (by push_cast;omega)|exact SV.aX (by dsimp only;omega)|exact SV.imp_eq (by simp)),.sv (by first|exact au|exact SV.aX (by omega)|exact SV.aX (by push_cast;omega)|exact SV.aX (by dsimp only;omega)|exact SV.imp_eq (by simp)),.sv (by first|exact au|exact SV.aX (by omega)|exact SV.aX (by push_cast;omega)|exact SV.aX (by dsimp only;omega)|exact SV.imp_eq (by simp)),aq⟩ trivial trivial (λ_ _=>rfl)) ?_;rintro⟨i,MX⟩
 try dsimp only
 rcases Nat.lt_or_eq_of_le MX with hi|hi
 ·
  refine bz ?_;refine aW ?_;refine RT.lss .none (true) Y Y (tl Y) (by simp;omega) ?_;refine RT.done ?_;refine aV.n ?_;refine bz ?_;refine cm Y ?_;refine bp ?_;refine aV.n ?_;refine bz ?_;refine bj ?_;refine bz ?_;refine aW ?_;refine RT.mv .none Y (tl Y) ?_;refine RT.xj .none Y (tl Y) ?_;refine RT.done ?_;refine aV.n ?_;refine bz ?_;refine xB 7 mixed ?_;refine RT.mv .none Y (tl Y) ?_;refine RT.cw .none Y Y (tl Y) ?_;refine RT.mv .none Y (tl Y) ?_;refine RT.call .none (sg (yd a i)) Y ⟨Y,Y,aq⟩ (tl Y) ?_;refine RT.cw .none Y Y (tl Y) ?_;refine RT.mv .none Y (tl Y) ?_;refine RT.call .none (sg (yd b i)) Y ⟨Y,Y,aq⟩ (tl Y) ?_;refine RT.done ⟨by kernel_rfl,?_⟩;refine RT.yield .none hr Y (λ_ h=>h) Y (i) Y Y hi (by exact⟨Y,Y,aq⟩) (tl Y) (λyb=>?_);cases yb
  ·
   refine RT.not .none Y (tl Y) true Y ?_;refine RT.done ?_;refine aV.n ?_;refine cm Y ?_;refine bf ?_;refine bw.r ?_;refine aV.r ?_;refine aV.r ?_;refine bw.r ?_;exact⟨.inr rfl,(λh=>by cases h)⟩
  refine RT.not .none Y (tl Y) false Y ?_;refine RT.done ?_;refine aV.n ?_;refine dh Y ?_;refine bp ?_;refine bw.n ?_;refine aV.n ?_;refine aW ?_;refine RT.add .none (((i:Nat):Int)+1) Y Y (tl Y) (jx (by omega)) ?_;refine RT.mv .none Y (tl Y) ?_;refine RT.done ?_;refine aV.n ?_;refine⟨⟨i+1,by omega⟩,(by dsimp only;omega),?_⟩
  try dsimp only
  exact c8 id rfl rfl rfl rfl rfl ⟨.sv (by first|exact au|exact SV.aX (by omega)|exact SV.aX (by push_cast;omega)|exact SV.aX (by dsimp only;omega)|exact SV.imp_eq (by simp)),.sv (by first|exact au|exact SV.aX (by omega)|exact SV.aX (by push_cast;omega)|exact SV.aX (by dsimp only;omega)|exact SV.imp_eq (by simp)),.sv (by first|exact au|exact SV.aX (by omega)|exact SV.aX (by push_cast;omega)|exact SV.aX (by dsimp only;omega)|exact SV.imp_eq (by simp)),.sv (by first|exact au|exact SV.aX (by omega)|exact SV.aX (by push_cast;omega)|exact SV.aX (by dsimp only;omega)|exact SV.imp_eq (by simp)),.sv (by first|exact au|exact SV.aX (by omega)|exact SV.aX (by push_cast;omega)|exact SV.aX (by dsimp only;omega)|exact SV.imp_eq (by simp)),aq⟩ trivial trivial (λ_ _=>rfl)
 subst hi;refine bz ?_;refine aW ?_;refine RT.lss .none (false) Y Y (tl Y) (by simp) ?_;refine RT.done ?_;refine aV.n ?_;refine bz ?_;refine dh Y ?_;refine bP ?_;refine aV.x ?_;refine aV.x ?_;refine bw.x ?_;exact⟨.inl rfl,(λ_=>rfl)⟩
theorem vU{x0:List (List Qr)}{r:Int}(h:ku x0=some r):Pure ah 58 [slc 1 (List.map (eS 4 eQ) x0)] (.v (.int .i64 r)):=by
 refine aZ Tryz.func58 Y (af Y) (λdD M vs hvs=>?_);unfold ku at h;refine sr<|ag Y<|dn<|sr<|ag Y<|dn<|qq<|sr<|mv Y<|lE h λx7 h7 h=>ln Y h7<|mv Y<|dn<|bE h λe6 ze jk=>?_;refine bK (λ(nK:Int)=>AS.ct 18 [(3,.sv (.v (.int .i64 nK)))] [] []) (λnK=>nK=e6) ?_ (λnK zf=>?_);refine bj ?_;refine bL ze (λs6=>AS.ct 18 [(3,.sv (.v (.int .i64 s6.1))),(6,.sv (slc 1 (List.map (eS 4 eQ) x0))),(7,.sv (.v (.int .i64 x7))),(8,.sv (.v (.int .i64 s6.2)))] [] []) (wR []) (λs6 y6 G6 h zg uT=>?_);obtain⟨kU,Lu⟩:=s6
 try dsimp only
 refine sr<|lE h λx9 h9 h=>ls _ Y Y h9<|dn<|qq ?_;cases x9;refine cF<|bP<|aV.x<|aV.x<|bw.x<|aV.n ?_;obtain rfl:=O (F h);exact⟨kU,uT _ Y,wR []⟩;refine cT<|bp<|aV.n<|qq<|bj<|sr<|bE (V h) λdJ fZ h=>ix Y Y fZ<|lr Y Y<|ag Y<|dn<|aW<|mv Y<|mv Y<|lE h λdV iJ h=>ln Y iJ<|lE h λeN jy h=>RT.max .none _ Y Y T (Lc (p:=kU) (q:=dV) jy)<|ag Y<|RT.done<|bw.n<|aV.n<|aW<|lE h λfE iY h=>ad _ Y Y iY<|mv Y<|RT.done ?_;obtain rfl:=O h;exact aV.n ⟨(eN,fE),zg _ Y,wR []⟩;subst zf
 try dsimp only
 refine aV.n<|sr<|mv Y<|ag Y<|dn<|bf ?_;obtain rfl:=O jk;exact R1 Y
theorem z4{x0:List (List Qr)}{x1:Int}{x2:Int}{r:Qr}(h:nL x0 x1 x2=some r):Pure ah 57 [slc 1 (List.map (eS 4 eQ) x0),.v (.int .i64 x1),.v (.int .i64 x2)] (.agg (eQ r)):=by
 refine aZ Tryz.func57 Y (af Y) (λdD M vs hvs=>?_);unfold nL at h;refine sr<|al (cs:=[.v (.bool false),slc 1 (List.map aY []),.v (.bool false),slc 1 (List.map aY [])]) (by exact⟨au,aB,au,aB,aq⟩) Y<|dn<|sr<|mv Y<|mv Y<|bE h λdJ fZ h=>cl (sg fZ) ⟨Y,Y,aq⟩<|ag Y<|dn<|qq<|qq ?_;refine bC h (λj3=>AS.ct 25 [(2,.sv (.v (.int .i64 x2))),(6,.ptr 6 0),(7,.sv (slc 4 (List.map eQ dJ))),(18,.sv (.v (.bool j3)))] [(6,⟨36,[.sv (.v (.bool false)),.sv (slc 1 (List.map aY [])),.sv (.v (.bool false)),.sv (slc 1 (List.map aY []))]⟩)] []) (λh=>?_) (λI1 h=>?_);refine aW<|mv Y<|lE h λdj fW h=>ls _ Y Y fW<|mv Y<|bE h λNR qt h=>?_;cases dj;refine gm Y<|gm Y<|lE (F qt) λfE iY qt=>gn Y iY<|lE qt λeM kg qt=>RT.geq (.some Y Y) _ Y Y T kg ?_;obtain rfl:=O qt;exact pF Y<|dn<|⟨eM,h,wR []⟩;obtain rfl:=O (V qt);exact ww<|ww<|ww<|ww<|pT Y<|dn<|⟨true,h,wR []⟩
 try dsimp only
 refine aV.n ?_;cases I1;refine fs<|sr<|mv Y<|mv Y ?_;obtain⟨⟨⟨rA,rB⟩,⟨rC,rD⟩⟩,nw,h⟩:=bS (F h);refine ix Y Y nw<|RT.qT (cs:=[_,_,_,_]) .none Y T Y Y ?_;obtain⟨⟨⟨CX,CY⟩,⟨CZ,C0⟩⟩,oT,h⟩:=bS h;refine cl (nj oT) ⟨Y,aq⟩<|so Y Y Y<|dn<|bf ?_;obtain rfl:=O h;exact RZ (.agg Y Y (.cons Y (.cons Y (.cons Y (.cons Y (.nil))))) Y (.nil));refine cT<|sr<|bI (cs:=[_,_,_,_]) (cs':=[.v (.bool false),slc 1 (List.map aY []),.v (.bool false),slc 1 (List.map aY [])]) (.nil) ⟨au,aB,au,aB,aq⟩<|so Y Y Y<|dn<|bf<|aV.r ?_;obtain rfl:=O (V h);exact RZ (.agg Y Y (.cons Y (.cons Y (.cons Y (.cons Y (.nil))))) Y (.nil))
theorem zw{x0:List (List Qr)}{x1:List Qr}{r:List Qr}(h:jG x0 x1=some r):Pure ah 63 [slc 1 (List.map (eS 4 eQ) x0),slc 4 (List.map eQ x1)] (slc 4 (List.map eQ r)):=by
 refine aZ Tryz.func63 Y (af Y) (λdD M vs hvs=>?_);unfold jG at h;refine sr<|aI Y (aB (n:=4) (e:=eQ))<|dn<|sr<|mv Y<|lE h λx9 h9 h=>ln Y h9<|bE h λdJ fZ h=>RT.qY (n:=4) (e:=eQ) .none Y Y T Y T (by rfl) (by decide) (by exact⟨au,aB,au,aB,aq⟩) fZ<|an (s:=.row _) Y<|dn<|qq<|sr<|mv Y<|lE h λdj fW h=>ln Y fW<|mv Y<|dn<|bE h λe8 Cz tB=>?_;refine bK (λ(ij:(List Qr))=>AS.ct 26 [(5,.row 10)] [] [(10,TR 36 4 eQ ij)]) (λij=>ij=e8) ?_ (λij CA=>?_);refine bj ?_;refine bL Cz (λs8=>AS.ct 26 [(1,.sv (slc 4 (List.map eQ x1))),(5,.row 10),(11,.sv (slc 1 (List.map (eS 4 eQ) x0))),(12,.sv (.v (.int .i64 dj))),(13,.sv (.v (.int .i64 s8.1)))] [] [(10,TR 36 4 eQ s8.2)]) (wR []) (λs8 y8 G8 h CB CC=>?_);obtain⟨kS,kT⟩:=s8
 try dsimp only
 refine sr<|lE h λdV iJ h=>ls _ Y Y iJ<|dn<|qq ?_;cases dV;refine cF<|bP<|aV.x<|aV.x<|bw.x<|aV.n ?_;obtain rfl:=O (F h);exact⟨kT,CC _ Y,wR []⟩;refine cT<|bp<|aV.n<|qq<|bj<|sr<|mv Y<|bE (V h) λfE iY h=>ix Y Y iY<|lr Y Y<|ag Y<|ag Y<|dn<|aW<|mo (s:=.row _) Y<|mv Y<|mv Y<|mv Y ?_;obtain⟨⟨⟨rA,rB⟩,⟨rC,rD⟩⟩,nw,h⟩:=bS h;refine cl (r9 nw) ⟨Y,Y,aq⟩<|bE h λgM oc h=>iR Y Y Y oc<|bE h λxC pD h=>sA ⟨⟨rA,rB⟩,⟨rC,rD⟩⟩ Y Y Y pD<|RT.done<|bw.n<|aV.n<|aW<|lE h λgO oT h=>ad _ Y Y oT<|mv Y<|RT.done ?_;obtain rfl:=O h;exact aV.n ⟨(gO,xC),CB _ Y,wR []⟩;subst CA
 try dsimp only
 refine aV.n<|sr<|mo (s:=.row _) Y<|an (s:=.row _) Y<|dn<|bQ (cC (i:=10) (E1:=36) (n:=4) (e:=eQ) (l:=ij) Y)<|bf ?_;obtain rfl:=O tB;exact R1 Y
theorem tG{x0:Qr}{x1:List (List Qr)}{r:List (List Qr)}(h:jl x0 x1=some r):Pure ah 88 [.agg (eQ x0),slc 1 (List.map (eS 4 eQ) x1)] (slc 1 (List.map (eS 4 eQ) r)):=by
 obtain⟨⟨bu,bt⟩,⟨bM,bR⟩⟩:=x0;refine aZ Tryz.func88 Y (af Y) (λdD M vs hvs=>?_);unfold jl at h;refine sr<|bx Y<|aI Y (aB (n:=1) (e:=(eS 4 eQ)))<|dn<|sr<|mv Y<|lE h λx9 h9 h=>ln Y h9<|bE h λdJ fZ h=>RT.qY (n:=1) (e:=(eS 4 eQ)) .none Y Y T Y T (by rfl) (by decide) (by exact⟨aB,aq⟩) fZ<|an (s:=.row _) Y<|dn<|qq<|sr<|mv Y<|lE h λdj fW h=>ln Y fW<|mv Y<|dn<|bE h λe8 Cz tB=>?_;refine bK (λ(ij:(List (List Qr)))=>AS.ct 26 [(5,.row 10)] [] [(10,TR 24 1 (eS 4 eQ) ij)]) (λij=>ij=e8) ?_ (λij CA=>?_);refine bj ?_;refine bL Cz (λs8=>AS.ct 26 [(2,.ptr 2 0),(5,.row 10),(11,.sv (slc 1 (List.map (eS 4 eQ) x1))),(12,.sv (.v (.int .i64 dj))),(13,.sv (.v (.int .i64 s8.1)))] [(2,⟨36,[.sv (.v (.bool bu)),.sv (slc 1 (List.map aY bt)),.sv (.v (.bool bM)),.sv (slc 1 (List.map aY bR))]⟩)] [(10,TR 24 1 (eS 4 eQ) s8.2)]) (wR []) (λs8 y8 G8 h CB CC=>?_);obtain⟨kS,kT⟩:=s8
 try dsimp only
 refine sr<|lE h λdV iJ h=>ls _ Y Y iJ<|dn<|qq ?_;cases dV;refine cF<|bP<|aV.x<|aV.x<|bw.x<|aV.n ?_;obtain rfl:=O (F h);exact⟨kT,CC _ Y,wR []⟩;refine cT<|bp<|aV.n<|qq<|bj<|sr<|mv Y<|bE (V h) λfE iY h=>ix Y Y iY<|lr Y Y<|ag Y<|ag Y<|dn<|aW<|mo (s:=.row _) Y<|mv Y<|ld Y Y (.cons Y (.cons Y (.cons Y (.cons Y (.nil)))))<|mv Y<|bE h λgQ nw h=>cl (oh nw) ⟨Y,Y,aq⟩<|bE h λgM oc h=>iR Y Y Y oc<|bE h λxC pD h=>sR gQ Y Y Y Y pD ?_;refine RT.done<|bw.n<|aV.n<|aW<|lE h λgO oT h=>ad _ Y Y oT<|mv Y<|RT.done ?_;obtain rfl:=O h;exact aV.n ⟨(gO,xC),CB _ Y,wR []⟩;subst CA
 try dsimp only
 refine aV.n<|sr<|mo (s:=.row _) Y<|an (s:=.row _) Y<|dn<|bQ (cC (i:=10) (E1:=24) (n:=1) (e:=(eS 4 eQ)) (l:=ij) Y)<|bf ?_;obtain rfl:=O tB;exact R1 Y
theorem tH{x0:List (List Qr)}{x1:List (List Qr)}{r:Bool}(h:ik x0 x1=some r):Pure ah 51 [slc 1 (List.map (eS 4 eQ) x0),slc 1 (List.map (eS 4 eQ) x1)] (.v (.bool r)):=by
 refine aZ Tryz.func51 Y (af Y) (λdD M vs hvs=>?_);unfold ik at h;refine sr<|al (cs:=[.v (.bool false)]) (by exact⟨au,aq⟩) Y<|dn<|qq<|sr<|mv Y<|mv Y<|cl (wB x0 x1) ⟨Y,Y,aq⟩<|dn<|bj<|bE h λe3 OZ PS=>?_;obtain⟨m3,Xx,Uh,Xy,Xz⟩:=uK OZ;refine kD (wC x0 x1) (λ_ _ _ _ _=>trivial) rfl (λk=>AS.ct 16 [(4,.ptr 4 0),(9,.sv (nZ 120 [ref [slc 1 (List.map (eS 4 eQ) x0)],ref [slc 1 (List.map (eS 4 eQ) x1)]]))] [(4,⟨4,[.sv (.v (.bool false))]⟩)] []) [4] rfl (λ_=>⟨rfl,rfl⟩) (rK rfl) (λ_=>rfl) (rL rfl) (by(try dsimp only);(try dsimp only);exact c8 id rfl rfl rfl rfl rfl ⟨.ptr,.sv au,aq⟩ ⟨⟨_,rfl,⟨.sv au,aq⟩⟩,aq⟩ trivial (λ_ _=>rfl)) m3 (λk hk hkm D hD=>?_) (λhdn=>?_);obtain⟨y3,h,XA,XB⟩:=Xy k hk hkm;dsimp only[AS.KZ,qX]
 try dsimp only at h
 refine lE h λO9 PU h=>?_;rw[PU];refine lE h λp11 I0 h=>?_;rw[I0];refine sr<|ag Y<|dn<|aW<|ag Y<|RT.done ?_;refine aV.n ⟨Y,?_⟩;dsimp only[AS.Ax];refine bj<|sr<|mv Y<|mv Y<|bE h λdV iJ h=>cl (jF iJ) ⟨Y,Y,aq⟩<|lE h λeN jy h=>nt Y _ jy<|dn ?_;cases eN;refine cF<|bp<|bw.n ?_;obtain rfl:=O (F h);obtain⟨XD,XE⟩:=XA _ Y;exact⟨XD,Y,Y,wR []⟩;refine cT<|sr<|RT.mm (cells:=[_]) .none (s:=.sv _) Y Y Y T Y<|dn<|bf<|bw.r ?_;obtain rfl:=O (V h);have XF:=XB _ Y;subst XF;refine⟨Y,Y,?_⟩;refine bw.r<|aV.r ?_;obtain rfl:=O PS;exact RZ (.one Y Y Y (.nil));have XG:=Xz hdn;subst XG;obtain⟨ee3,PT⟩:∃q,Xx (max x0.length x1.length)=q:=⟨_,Y⟩;rw[PT]at PS
 try dsimp only
 refine bw.n<|aV.n<|sr<|RT.mm (cells:=[_]) .none (s:=.sv _) Y Y Y T Y<|dn<|bf ?_;obtain rfl:=O PS;exact RZ (.one Y Y Y (.nil))
theorem iU{x0:List (List Int)}{r:List (List Qr)}(h:dZ x0=some r):Pure ah 41 [slc 1 (List.map (eS 1 bG) x0)] (slc 1 (List.map (eS 4 eQ) r)):=by
 refine aZ Tryz.func41 Y (af Y) (λdD M vs hvs=>?_);unfold dZ at h;refine sr<|aI Y (aB (n:=1) (e:=(eS 4 eQ)))<|dn<|sr<|mv Y<|lE h λx7 h7 h=>ln Y h7<|bE h λx8 h8 h=>RT.qY (n:=1) (e:=(eS 4 eQ)) .none Y Y T Y T (by rfl) (by decide) (by exact⟨aB,aq⟩) h8<|an (s:=.row _) Y<|dn<|qq<|sr<|mv Y<|lE h λdJ fZ h=>ln Y fZ<|mv Y<|dn<|bE h λe8 Cz tB=>?_;refine bK (λ(r8:(List (List Qr)))=>AS.ct 23 [(3,.row 8)] [] [(8,TR 24 1 (eS 4 eQ) r8)]) (λr8=>r8=e8) ?_ (λr8 CA=>?_);refine bj ?_;refine bL Cz (λs8=>AS.ct 23 [(3,.row 8),(9,.sv (slc 1 (List.map (eS 1 bG) x0))),(10,.sv (.v (.int .i64 dJ))),(11,.sv (.v (.int .i64 s8.1)))] [] [(8,TR 24 1 (eS 4 eQ) s8.2)]) (wR []) (λs8 y8 G8 h CB CC=>?_);obtain⟨pU,ya⟩:=s8
 try dsimp only
 refine sr<|lE h λdj fW h=>ls _ Y Y fW<|dn<|qq ?_;cases dj;refine cF<|bP<|aV.x<|aV.x<|bw.x<|aV.n ?_;obtain rfl:=O (F h);exact⟨ya,CC _ Y,wR []⟩;refine cT<|bp<|aV.n<|qq<|bj<|sr<|mv Y<|bE (V h) λdV iJ h=>ix Y Y iJ<|lr Y Y<|ag Y<|ag Y<|dn<|aW<|mo (s:=.row _) Y<|mv Y<|mv Y<|bE h λjZ mz h=>cl (eu mz) ⟨Y,aq⟩<|bE h λju oQ h=>iR Y Y Y oQ<|bE h λxC pD h=>sR jZ Y Y Y Y pD<|RT.done<|bw.n<|aV.n<|aW<|lE h λgi mU h=>ad _ Y Y mU ?_;refine mv Y<|RT.done ?_;obtain rfl:=O h;exact aV.n ⟨(gi,xC),CB _ Y,wR []⟩;subst CA
 try dsimp only
 refine aV.n<|sr<|mo (s:=.row _) Y<|an (s:=.row _) Y<|dn<|bQ (cC (i:=8) (E1:=24) (n:=1) (e:=(eS 4 eQ)) (l:=r8) Y)<|bf ?_;obtain rfl:=O tB;exact R1 Y
end
end Go.Proofs.YtfoldppidpmchaaGreat
namespace Go.Fw
section
open Go.RowKit
theorem I2{α:Type}{e:α->List SV}{l:List α}{n:Nat}{s t:SV}{r:List SV}{M:Mem}{v:Value}(h:(ref (s::t::slc n (l.map e)::r)).h M v):l.length<=9223372036854775807:=by
 obtain⟨b,o,_,h⟩:=h;obtain⟨y,_,_,h⟩:=h 2 _ Y;exact Fj h
theorem Ek{α β:Type}(a:List α)(b:List β)(i:Nat)(h:i<=a.length):(i<a.length/\i<b.length)\/(i<a.length/\b.length<=i)\/i=a.length:=by omega
class SU (P:Program) (T:TypeId) (I:outParam TypeId):Prop where
 fs:(match P.underlying T with|some (.struct fs)=>(match fs.toList with|[f1,f2,f3,f4]=>(decide (f1.type=I)&&decide (f1.offset=0)&&decide (f1.name≠ "_"))&&(decide (f2.type=I)&&decide (f2.offset=1)&&decide (f2.name≠ "_"))&&(decide (f3.type=I)&&decide (f3.offset=2)&&decide (f3.name≠ "_"))&&(decide (f4.type=I)&&decide (f4.offset=3)&&decide (f4.name≠ "_"))|_=>false)|_=>false)=true
 hp:P.stoodInHeld T=false
 hI:P.underlying I=some (.int .i64)
 hg:P.eqGuardType P.depth T=false
theorem SU.ex{P:Program}{T I:TypeId}(h:SU P T I):∃f1 f2 f3 f4:Field,P.underlying T=some (.struct #[f1,f2,f3,f4])/\(f1.type=I/\f1.offset=0/\f1.name≠ "_")/\(f2.type=I/\f2.offset=1/\f2.name≠ "_")/\(f3.type=I/\f3.offset=2/\f3.name≠ "_")/\(f4.type=I/\f4.offset=3/\f4.name≠ "_"):=by
 have h1:=h.fs;cases hu:P.underlying T with
 |none=>rw[hu]at h1;cases h1
 |some d=>
  rw[hu]at h1;cases d with
  |struct fs=>
   obtain⟨l⟩:=fs
   match l,h1 with
   |[f1,f2,f3,f4],h1=>
    simp only[Bool.and_eq_true,decide_eq_true_eq]at h1;obtain⟨⟨⟨⟨⟨a1,a2⟩,a3⟩,⟨⟨b1,b2⟩,b3⟩⟩,⟨⟨c1,c2⟩,c3⟩⟩,⟨⟨d1,d2⟩,d3⟩⟩:=h1;exact⟨f1,f2,f3,f4,Y,⟨a1,a2,a3⟩,⟨b1,b2,b3⟩,⟨c1,c2,c3⟩,⟨d1,d2,d3⟩⟩
  |_=>cases h1
theorem PV{P:Program}{T I:TypeId}[tI:nU P I][t4:SU P T I](w:World)(a1 a2 a3 a4 b1 b2 b3 b4:Int):
  (binOp .neq T (.agg #[.int .i64 a1,.int .i64 a2,.int .i64 a3,.int .i64 a4]) (.agg #[.int .i64 b1,.int .i64 b2,.int .i64 b3,.int .i64 b4])).run P w=.ok (.bool (!(a1==b1&&(a2==b2&&(a3==b3&&a4==b4))))) w:=by
 obtain⟨f1,f2,f3,f4,hT,h1,h2,h3,h4⟩:=t4.ex;have hf:P.fieldsOf T=#[f1,f2,f3,f4]:=by simp[Program.fieldsOf,hT]
 rw[run_neq_struct,run_equalIn_struct w 9999 T _ _ (by rw[hf];exact hT) t4.hp,hf];have hpt:∀(xs:Array Value) (o:Nat) (v:Value),xs[o]? =some v->(part I xs o).run P w=.ok v w:=by
  intro xs o v h;simp[part,nU.isAgg,h]
 have step:∀(f:Field) (l:List Field) (o:Nat) (xs ys:Array Value) (a b:Int),(f.type=I/\f.offset=o/\f.name≠ "_")->xs[o]? =some (.int .i64 a)->ys[o]? =some (.int .i64 b)->
   ∀r,(Op.eqFields 9999 xs ys l).run P w=.ok r w->(Op.eqFields 9999 xs ys (f::l)).run P w=.ok (a==b&&r) w:=by
  intro f l o xs ys a b ⟨q1,q2,q3⟩ hx hy r hr;simp only[Op.eqFields,q1,q2,q3,ne_eq,not_false_eq_true,if_true,Sem.run_bind];rw[hpt _ o _ hx,Result.andThen_ok,hpt _ o _ hy,Result.andThen_ok,run_equalIn_int w _ I .i64 .i64 _ _ t4.hI,Result.andThen_ok];cases e:(a==b)
  ·simp
  simpa using hr
 have nil:∀(xs ys:Array Value),(Op.eqFields 9999 xs ys []).run P w=.ok true w:=λ_ _=>by simp[Op.eqFields]
 have:=step f1 [f2,f3,f4] 0 #[.int .i64 a1,.int .i64 a2,.int .i64 a3,.int .i64 a4] #[.int .i64 b1,.int .i64 b2,.int .i64 b3,.int .i64 b4] a1 b1 h1 Y Y _
  (step f2 [f3,f4] 1 _ _ a2 b2 h2 Y Y _ (step f3 [f4] 2 _ _ a3 b3 h3 Y Y _ (step f4 [] 3 _ _ a4 b4 h4 Y Y _ (nil _ _))))
 rw[this,Result.andThen_ok];simp
section steps
variable {P:Program}{C:Ctx}{ops:Array Oper}{S:AS}{nd:Bool}{K:List Ac->AS->Prop}{rest:List Oper}{acc:List Ac}
variable {gd:Option (Nat×Bool)}{rg:List Nat}{d:Nat}{ty:TypeId}{pos:String}{aft:Array Edge}{x y z:Operand}{T U E0:TypeId}
theorem SW{M:Mem}{v:Value}{a b c d:Int}(h:(SV.agg [.v (.int .i64 a),.v (.int .i64 b),.v (.int .i64 c),.v (.int .i64 d)]).h M v):v=.agg #[.int .i64 a,.int .i64 b,.int .i64 c,.int .i64 d]:=by
 obtain⟨vs,rfl,h⟩:=h
 match vs,h with
 |[_,_,_,_],⟨h1,h2,h3,h4,_⟩=>
  have e1:_=_:=h1;have e2:_=_:=h2;have e3:_=_:=h3;have e4:_=_:=h4;rw[e1,e2,e3,e4]
theorem RT.PV(hg:Gd ops S gd rg){I:TypeId}[tI:nU P I][t4:SU P T I]{a1 a2 a3 a4 b1 b2 b3 b4:Int}{c:Bool}(hx:S.ev x=.sv (.agg [.v (.int .i64 a1),.v (.int .i64 a2),.v (.int .i64 a3),.v (.int .i64 a4)]))(hy:S.ev y=.sv (.agg [.v (.int .i64 b1),.v (.int .i64 b2),.v (.int .i64 b3),.v (.int .i64 b4)]))(hd:d<S.n)
  (hc:(!(a1==b1&&(a2==b2&&(a3==b3&&a4==b4))))=c)
  (next:RunT P C ops nd K rest (⟨rg++(bg x++bg y),[],[],⟨some (d,.sv (.v (.bool c))),[],[]⟩⟩::acc) (S.set d (.sv (.v (.bool c))))):RunT P C ops nd K (⟨some d,.binOp .neq T x y U,ty,pos,aft,gd⟩::rest) acc S:=
 RT.value hg (bg x++bg y) [] [] (.sv (.v (.bool c))) hd (by intro c h;cases h) (λS' ht _ _ E a w h=>by
  have h1:=h.ev x;rw[bA (λ_ h=>List.mem_append_left _ h) ht,hx]at h1;have h2:=h.ev y;rw[bA (λ_ h=>List.mem_append_right _ h) ht,hy]at h2;refine⟨.bool c,?_,Y,fT⟩;have e:=Fw.PV (P:=P) (T:=T) (I:=I) w a1 a2 a3 a4 b1 b2 b3 b4;rw[hc]at e;simp only[execOp,SW h1,SW h2,Sem.run_bind,run_eqGuard_agg w .neq T x y _ _ t4.hg,Result.andThen_ok,e];rfl) next
end steps
end
end Go.Fw
namespace Go.Proofs.YtfoldppidpmchaaGreat
section
open Go.Fw
noncomputable def gw(x0:Lr):Option (Sz):=match x0 with|⟨bu,bt,bM,bR⟩=>(some (bt.length:Int)).bind λx7=>(some (bM.length:Int)).bind λdJ=>(some (bR.length:Int)).bind λkE=>some ⟨bu,x7,dJ,kE⟩
noncomputable def gx(x0:Lr):Option (Bool):=match x0 with|⟨bu,bt,bM,bR⟩=>(gw ⟨bu,bt,bM,bR⟩).bind λ⟨zq,CQ,zu,A4⟩=>cg (λ(I3:Bool)=>(bif I3 then some false else cg (λ(El:Bool)=>(bif El then some false else cg (λ(NS:Bool)=>some NS) λVY=>(ku bt).bind λsD=>(some (decide ((sD:Int)<=zq))).bind λoP=>(bif oP then(ku bM).bind λDF=>(some (decide ((DF:Int)<=zq))).bind λo9=>some o9 else some false).bind λI4=>VY I4)) λIe=>(some (decide ((128:Int)<zu))).bind λkN=>(bif kN then some true else(some (decide ((A4:Int)≠zu))).bind λiF=>some iF).bind λI5=>Ie I5)) λUi=>(some (decide ((zq:Int)<0))).bind λx8=>(bif x8 then some true else(some (decide ((64:Int)<zq))).bind λdj=>some dj).bind λI6=>(bif I6 then some true else(some (decide ((CQ:Int)<1))).bind λeM=>some eM).bind λPW=>(bif PW then some true else(some (decide ((4:Int)<CQ))).bind λgQ=>some gQ).bind λPX=>Ui PX
noncomputable def gE(x0:Lr)(x1:List Qr):Option (Bool):=match x0 with|⟨bu,bt,bM,bR⟩=>cg (λ(I7:Bool)=>(bif I7 then some false else(some (x1.length:Int)).bind λgi=>(b9 (λ(Fp:Int)=>(show Option ((Int)⊕((Unit)⊕(Bool)))from(some (decide ((Fp:Int)<gi))).bind λgM=>(bif gM then(c9 x1 Fp).bind λ⟨⟨CX,CY⟩,⟨CZ,C0⟩⟩=>(ic ⟨⟨CX,CY⟩,⟨CZ,C0⟩⟩).bind λgN=>(some (decide ((gN:Int)<0))).bind λmR=>(bif mR then some (.inr (.inr false))else(some (IntKind.i64.wrap (Fp+1))).bind λgR=>some (.inl gR))else some (.inr (.inl ()))))) 0).bind λe9=>match e9 with|.inr v9=>some v9|.inl _=>(lD (λ(k:Nat) (DH:Unit)=>(show Option ((Unit)⊕(Bool))from(some ((Lr.rows ⟨bu,bt,bM,bR⟩).getD k [])).bind λp32=>(some ((Lr.bounds ⟨bu,bt,bM,bR⟩).getD k (⟨⟨false,[]⟩,⟨false,[]⟩⟩:Qr))).bind λ⟨⟨NT,NU⟩,⟨NV,NW⟩⟩=>(gD p32 x1).bind λ⟨⟨pz,pA⟩,⟨CO,CP⟩⟩=>(kp ⟨⟨pz,pA⟩,⟨CO,CP⟩⟩ ⟨⟨NT,NU⟩,⟨NV,NW⟩⟩).bind λsy=>(some (decide ((sy:Int)=1))).bind λlT=>(bif lT then some (.inr false)else some (.inl ())))) ((Lr.rows ⟨bu,bt,bM,bR⟩).length) ()).bind λKz=>match Kz with|.inr v12=>some v12|.inl _=>some true)) λK3=>(gx ⟨bu,bt,bM,bR⟩).bind λfK=>(some (!fK)).bind λdj=>(bif dj then some true else(some (x1.length:Int)).bind λeN=>(some (decide ((bu:Int)<eN))).bind λfj=>some fj).bind λI8=>K3 I8
noncomputable def iN(x0:Lr)(x1:List Qr):Option (List Qr):=match x0 with|⟨bu,bt,bM,bR⟩=>(jG bt x1).bind λx8=>some x8
noncomputable def mE(x0:Lr)(x1:List Qr):Option (List Qr):=match x0 with|⟨bu,bt,bM,bR⟩=>(nr (λ(k:Nat) (va:(List Qr))=>(show Option ((List Qr))from(some ((Lr.rows ⟨bu,bt,bM,bR⟩).getD k [])).bind λO9=>(some ((Lr.bounds ⟨bu,bt,bM,bR⟩).getD k (⟨⟨false,[]⟩,⟨false,[]⟩⟩:Qr))).bind λ⟨⟨CT,CU⟩,⟨CV,CW⟩⟩=>(gD O9 x1).bind λ⟨⟨jg,jh⟩,⟨vS,vT⟩⟩=>(mD ⟨⟨CT,CU⟩,⟨CV,CW⟩⟩ ⟨⟨jg,jh⟩,⟨vS,vT⟩⟩).bind λ⟨⟨ng,nh⟩,⟨oK,oL⟩⟩=>(sN 64 va [⟨⟨ng,nh⟩,⟨oK,oL⟩⟩]).bind λjZ=>some jZ)) ((Lr.rows ⟨bu,bt,bM,bR⟩).length) []).bind λva=>some va
noncomputable def iz(x0:Lr):Option (Lr×Int):=match x0 with|⟨bu,bt,bM,bR⟩=>cg (λ(I9:Bool)=>(bif I9 then some (⟨0,[],[],[]⟩,1)else(some (bM.length:Int)).bind λgN=>(di (-1)).bind λ⟨⟨NX,NY⟩,⟨NZ,N0⟩⟩=>(ig ⟨⟨NX,NY⟩,⟨NZ,N0⟩⟩ bR).bind λl7=>(b9 (λ(PY:Int×(List (List Qr))×(List Qr))=>match PY with|⟨om,qu,qw⟩=>(show Option ((Int×(List (List Qr))×(List Qr))⊕((List (List Qr))×(List Qr)))from(some (decide ((om:Int)<bu))).bind λoP=>(bif oP then(Ca 64 gN (⟨⟨false,[]⟩,⟨false,[]⟩⟩:Qr)).bind λo8=>(some (o8.length:Int)).bind λza=>(b9 (λ(Rh:Int×(List Qr))=>match Rh with|⟨ye,yf⟩=>(show Option ((Int×(List Qr))⊕((List Qr)))from(some (decide ((ye:Int)<za))).bind λo9=>(bif o9 then(nL bM ye om).bind λ⟨⟨N1,N2⟩,⟨N3,N4⟩⟩=>(iZ ⟨⟨N1,N2⟩,⟨N3,N4⟩⟩).bind λ⟨⟨Ja,Jb⟩,⟨Jc,Jd⟩⟩=>(uy yf ye).bind λMZ=>(stM yf MZ ⟨⟨Ja,Jb⟩,⟨Jc,Jd⟩⟩).bind λXH=>(some (IntKind.i64.wrap (ye+1))).bind λLn=>some (.inl (Ln,XH))else some (.inr yf)))) (0,o8)).bind λoq=>(sN 24 qu [oq]).bind λXI=>(nL bt 0 om).bind λ⟨⟨N5,N6⟩,⟨N7,N8⟩⟩=>(iZ ⟨⟨N5,N6⟩,⟨N7,N8⟩⟩).bind λ⟨⟨Fq,Fs⟩,⟨Ft,Fu⟩⟩=>(sN 64 qw [⟨⟨Fq,Fs⟩,⟨Ft,Fu⟩⟩]).bind λIp=>(some (IntKind.i64.wrap (om+1))).bind λLq=>some (.inl (Lq,XI,Ip))else some (.inr (qu,qw))))) (0,[],[])).bind λXJ=>match XJ with|⟨A7,A8⟩=>some (⟨gN,[l7],A7,A8⟩,0))) λK6=>(gx ⟨bu,bt,bM,bR⟩).bind λfK=>(some (!fK)).bind λdj=>(bif dj then some true else(some (bM.length:Int)).bind λfE=>(some (decide ((64:Int)<fE))).bind λeM=>some eM).bind λJe=>(bif Je then some true else(some (decide ((128:Int)<bu))).bind λgQ=>some gQ).bind λPZ=>K6 PZ
noncomputable def kV(x0:Lr):Option (Lr):=match x0 with|⟨bu,bt,bM,bR⟩=>(di 1).bind λ⟨⟨r5,r6⟩,⟨Lv,Lw⟩⟩=>(jl ⟨⟨r5,r6⟩,⟨Lv,Lw⟩⟩ bt).bind λdJ=>(jl ⟨⟨r5,r6⟩,⟨Lv,Lw⟩⟩ bM).bind λdV=>(ig ⟨⟨r5,r6⟩,⟨Lv,Lw⟩⟩ bR).bind λfj=>some ⟨bu,dJ,dV,fj⟩
noncomputable def cA(x0:Lr)(x1:Int):Option (Lr×Int):=match x0 with|⟨bu,bt,bM,bR⟩=>cg (λ(Jf:Bool)=>(bif Jf then some (⟨0,[],[],[]⟩,1)else(some (IntKind.i64.wrap (x1+1))).bind λlO=>(sM bt x1 lO).bind λkN=>(kV ⟨bu,kN,bM,bR⟩).bind λ⟨N9,Oa,Ob,Oc⟩=>some (⟨N9,Oa,Ob,Oc⟩,0))) λK6=>(gx ⟨bu,bt,bM,bR⟩).bind λx7=>(some (!x7)).bind λx8=>(bif x8 then some true else(some (decide ((x1:Int)<0))).bind λfK=>some fK).bind λOd=>(bif Od then some true else(some (bt.length:Int)).bind λeM=>(some (decide ((eM:Int)<=x1))).bind λfj=>some fj).bind λP0=>K6 P0
noncomputable def kx(x0:Lr)(x1:Lr):Option (Bool):=match x0 with|⟨bu,bt,bM,bR⟩=>match x1 with|⟨b7,bX,gZ,g9⟩=>(gw ⟨bu,bt,bM,bR⟩).bind λ⟨wD,wE,SX,SY⟩=>(gw ⟨b7,bX,gZ,g9⟩).bind λ⟨uY,uZ,SZ,S0⟩=>(some (!(((wD:Int)==uY)&&(((wE:Int)==uZ)&&(((SX:Int)==SZ)&&((SY:Int)==S0)))))).bind λx9=>(bif x9 then some false else cg (λ(S3:Bool)=>some S3) λK6=>(ik bt bX).bind λdV=>(bif dV then(ik bM gZ).bind λju=>some ju else some false).bind λOe=>(bif Oe then(dY bR g9).bind λgN=>some gN else some false).bind λP1=>K6 P1)
end
section
open Go.Fw Go.Fw.Z Go.RowKit
instance:SU ah 71 3:=⟨by kernel_rfl,by kernel_rfl,by kernel_rfl,by kernel_rfl⟩
theorem nk(p:Lr):Pure ah 62 [.agg (AD p)] (nZ 98 [ref [ay p.vars,(slc 1 (List.map (eS 4 eQ) p.sP)),(slc 1 (List.map (eS 4 eQ) p.rows)),(slc 4 (List.map eQ p.bounds))]]):=by
 refine aZ Tryz.func62 Y (af Y) (λdD M vs hvs=>?_);refine sr<|bx Y<|ag Y<|dn<|sr<|RT.makeFunc .none (.box Y (.nil)) T<|an (s:=.eT _ _) Y<|dn ?_;refine bQ (ke (i:=1) Y [ay p.vars,(slc 1 (List.map (eS 4 eQ) p.sP)),(slc 1 (List.map (eS 4 eQ) p.rows)),(slc 4 (List.map eQ p.bounds))] (.cons Y (.cons Y (.cons Y (.cons Y .nil)))) .any 0 [(2,.eT 98 [.val (ref [ay p.vars,(slc 1 (List.map (eS 4 eQ) p.sP)),(slc 1 (List.map (eS 4 eQ) p.rows)),(slc 4 (List.map eQ p.bounds))])])] (λ_ _ _=>trivial) (rF.h (l:=[ay p.vars,(slc 1 (List.map (eS 4 eQ) p.sP)),(slc 1 (List.map (eS 4 eQ) p.rows)),(slc 4 (List.map eQ p.bounds))])) ⟨@FT.eT _ _ _ _ _ 2 98 [.box 1] Y,aq⟩)<|bQ (Ay 2 (nZ 98 [ref [ay p.vars,(slc 1 (List.map (eS 4 eQ) p.sP)),(slc 1 (List.map (eS 4 eQ) p.rows)),(slc 4 (List.map eQ p.bounds))]]) (λ_ _ h=>Az h)) ?_;exact bf<|⟨.inr Y,Au (.tmp Y (.nil)) Y⟩
theorem nm(p:Lr):Iter ah 98 [ref [ay p.vars,(slc 1 (List.map (eS 4 eQ) p.sP)),(slc 1 (List.map (eS 4 eQ) p.rows)),(slc 4 (List.map eQ p.bounds))]] p.rows.length (λk=>[(slc 4 (List.map eQ (p.rows.getD k []))),.agg (eQ (p.bounds.getD k (⟨⟨false,[]⟩,⟨false,[]⟩⟩:Qr)))]):=by
 refine n6 Tryz.func98 Y Y (af Y) (λdD M O l J hJ uz hr=>?_);obtain⟨oN,uz⟩:=uz;have hla:p.rows.length<=9223372036854775807:=by cases oN with|nil=>exact uz.elim|cons _ oN=>exact I2 uz.1
 refine bz ?_;refine aW ?_;refine RT.eU .none Y (tl Y) Y ?_;refine RT.cw .none Y Y (tl Y) ?_;refine RT.len .none Y (tl Y) ?_;refine RT.mv .none Y (tl Y) ?_;refine RT.done ?_;refine aV.n ?_;refine bj ?_
 refine sF (I:=λx:{i:Nat//i<=p.rows.length}=>AS.ct 30 [(0,.sv (.v (.func (.yield l) #[] #[]))),(1,.sv (ref [ay p.vars,(slc 1 (List.map (eS 4 eQ) p.sP)),(slc 1 (List.map (eS 4 eQ) p.rows)),(slc 4 (List.map eQ p.bounds))])),(7,.sv ((slc 1 (List.map (eS 4 eQ) p.rows)))),(8,ai ((p.rows.length:Nat):Int)),(9,ai ((x.1:Nat):Int))] [] [] (x.1)) (μ:=λx=>p.rows.length-x.1) ⟨0,by omega⟩ (by(try dsimp only);exact c8 id Y Y Y Y Y ⟨.sv (by first|exact au|exact SV.aX (by omega)|exact SV.aX (by push_cast;omega)|exact SV.aX (by dsimp only;omega)|exact SV.imp_eq (by simp)),.sv (by first|exact au|exact SV.aX (by omega)|exact SV.aX (by push_cast;omega)|exact SV.aX (by dsimp only;omega)|exact SV.imp_eq (by simp)),.sv (by first|exact au|exact SV.aX (by omega)|exact SV.aX (by push_cast;omega)|exact SV.aX (by dsimp only;omega)|exact SV.imp_eq (by simp)),.sv (SV.aX (by simp)),.sv (by first|exact au|exact SV.aX (by omega)|exact SV.aX (by push_cast;omega)|exact SV.aX (by dsimp only;omega)|exact SV.imp_eq (by simp)),aq⟩ trivial trivial (λ_ _=>Y)) ?_;rintro⟨i,MX⟩
 try dsimp only
 rcases Ek p.rows p.bounds i MX with⟨hi,hb⟩|⟨hi,hb⟩|hi
 ·
  refine bz ?_;refine aW ?_;refine RT.lss .none (true) Y Y (tl Y) (by simp;omega) ?_;refine RT.done ?_;refine aV.n ?_;refine bz ?_;refine cm Y ?_;refine bp ?_;refine aV.n ?_;refine bz ?_;refine bj ?_;refine bz ?_;refine aW ?_;refine RT.mv .none Y (tl Y) ?_;refine RT.HG .none [(slc 4 (List.map eQ (p.rows.getD i [])))] (Int.natCast_nonneg i) (by rw[Int.toNat_natCast,List.getElem?_map,cK hi];rfl) Y Y (tl Y) ?_;refine RT.cw .none Y Y (tl Y) ?_;refine RT.xj .none Y (tl Y) ?_;refine RT.xj .none Y (tl Y) ?_;refine RT.done ?_;refine aV.n ?_;refine bz ?_;refine aW ?_;refine RT.n7 .none (cs:=eQ ⟨⟨false,[]⟩,⟨false,[]⟩⟩) (by exact⟨au,aB,au,aB,aq⟩) Y (tl Y) Y Y ?_;refine RT.done ?_;refine aV.n ?_;refine bz ?_;refine bz ?_;refine aW ?_;refine RT.mv .none Y (tl Y) ?_;refine RT.eU .none Y (tl Y) Y ?_;refine RT.cw .none Y Y (tl Y) ?_;refine RT.len .none Y (tl Y) ?_;refine RT.lss .none (true) Y Y (tl Y) (by simp only[List.length_map];simp;omega) ?_;refine RT.done ?_;refine aV.n ?_;refine cm Y ?_;refine aW ?_;refine RT.eU .none Y (tl Y) Y ?_;refine RT.cw .none Y Y (tl Y) ?_;refine RT.mv .none Y (tl Y) ?_
  refine RT.HG .none [az ((p.bounds.getD i (⟨⟨false,[]⟩,⟨false,[]⟩⟩:Qr)).num.neg),slc 1 ((p.bounds.getD i (⟨⟨false,[]⟩,⟨false,[]⟩⟩:Qr)).num.w.map aY),az ((p.bounds.getD i (⟨⟨false,[]⟩,⟨false,[]⟩⟩:Qr)).den.neg),slc 1 ((p.bounds.getD i (⟨⟨false,[]⟩,⟨false,[]⟩⟩:Qr)).den.w.map aY)] (Int.natCast_nonneg i) (by rw[Int.toNat_natCast,List.getElem?_map,cK hb];rfl) Y Y (tl Y) ?_;refine RT.qT .none Y (tl Y) (cs:=[az ((p.bounds.getD i (⟨⟨false,[]⟩,⟨false,[]⟩⟩:Qr)).num.neg),slc 1 ((p.bounds.getD i (⟨⟨false,[]⟩,⟨false,[]⟩⟩:Qr)).num.w.map aY),az ((p.bounds.getD i (⟨⟨false,[]⟩,⟨false,[]⟩⟩:Qr)).den.neg),slc 1 ((p.bounds.getD i (⟨⟨false,[]⟩,⟨false,[]⟩⟩:Qr)).den.w.map aY)]) Y Y ?_;refine RT.store .none Y Y Y Y Y ?_;refine RT.done ?_;refine aV.n ?_;refine bz ?_;refine aW ?_;refine RT.mv .none Y (tl Y) ?_;refine RT.mv .none Y (tl Y) ?_;refine RT.load .none Y Y (.k4 Y Y Y Y) Y (tl Y) ?_;refine RT.yield .none hr Y (λ_ h=>h) Y (i) Y Y hi (by exact⟨Y,Y,aq⟩) (tl Y) (λyb=>?_);cases yb
  ·
   refine RT.not .none Y (tl Y) true Y ?_;refine RT.done ?_;refine aV.n ?_;refine cm Y ?_;refine bf ?_;refine bw.r ?_;refine aV.r ?_;refine aV.r ?_;refine bw.r ?_;exact⟨.inr rfl,(λh=>by cases h)⟩
  refine RT.not .none Y (tl Y) false Y ?_;refine RT.done ?_;refine aV.n ?_;refine dh Y ?_;refine bp ?_;refine bw.n ?_;refine aV.n ?_;refine aW ?_;refine RT.add .none (((i:Nat):Int)+1) Y Y (tl Y) (jx (by omega)) ?_;refine RT.mv .none Y (tl Y) ?_;refine RT.done ?_;refine aV.n ?_;refine⟨⟨i+1,by omega⟩,(by dsimp only;omega),?_⟩
  try dsimp only
  exact c8 id Y Y Y Y Y ⟨.sv (by first|exact au|exact SV.aX (by omega)|exact SV.aX (by push_cast;omega)|exact SV.aX (by dsimp only;omega)|exact SV.imp_eq (by simp)),.sv (by first|exact au|exact SV.aX (by omega)|exact SV.aX (by push_cast;omega)|exact SV.aX (by dsimp only;omega)|exact SV.imp_eq (by simp)),.sv (by first|exact au|exact SV.aX (by omega)|exact SV.aX (by push_cast;omega)|exact SV.aX (by dsimp only;omega)|exact SV.imp_eq (by simp)),.sv (by first|exact au|exact SV.aX (by omega)|exact SV.aX (by push_cast;omega)|exact SV.aX (by dsimp only;omega)|exact SV.imp_eq (by simp)),.sv (by first|exact au|exact SV.aX (by omega)|exact SV.aX (by push_cast;omega)|exact SV.aX (by dsimp only;omega)|exact SV.imp_eq (by simp)),aq⟩ trivial trivial (λ_ _=>Y)
 ·
  refine bz ?_;refine aW ?_;refine RT.lss .none (true) Y Y (tl Y) (by simp;omega) ?_;refine RT.done ?_;refine aV.n ?_;refine bz ?_;refine cm Y ?_;refine bp ?_;refine aV.n ?_;refine bz ?_;refine bj ?_;refine bz ?_;refine aW ?_;refine RT.mv .none Y (tl Y) ?_;refine RT.HG .none [(slc 4 (List.map eQ (p.rows.getD i [])))] (Int.natCast_nonneg i) (by rw[Int.toNat_natCast,List.getElem?_map,cK hi];rfl) Y Y (tl Y) ?_;refine RT.cw .none Y Y (tl Y) ?_;refine RT.xj .none Y (tl Y) ?_;refine RT.xj .none Y (tl Y) ?_;refine RT.done ?_;refine aV.n ?_;refine bz ?_;refine aW ?_;refine RT.n7 .none (cs:=eQ ⟨⟨false,[]⟩,⟨false,[]⟩⟩) (by exact⟨au,aB,au,aB,aq⟩) Y (tl Y) Y Y ?_;refine RT.done ?_;refine aV.n ?_;refine bz ?_;refine bz ?_;refine aW ?_;refine RT.mv .none Y (tl Y) ?_;refine RT.eU .none Y (tl Y) Y ?_;refine RT.cw .none Y Y (tl Y) ?_;refine RT.len .none Y (tl Y) ?_;refine RT.lss .none (false) Y Y (tl Y) (by simp only[List.length_map];simp;omega) ?_;refine RT.done ?_;refine aV.n ?_;refine dh Y ?_;refine bp ?_;refine aV.n ?_;refine bz ?_;refine aW ?_;refine RT.mv .none Y (tl Y) ?_;refine RT.mv .none Y (tl Y) ?_;refine RT.load .none Y Y (.k4 Y Y Y Y) Y (tl Y) ?_
  refine RT.yield .none hr Y (λ_ h=>h) Y (i) Y Y hi (by exact⟨Y,(by show AV.sv _=AV.sv _;rw[dU hb]),aq⟩) (tl Y) (λyb=>?_);cases yb
  ·
   refine RT.not .none Y (tl Y) true Y ?_;refine RT.done ?_;refine aV.n ?_;refine cm Y ?_;refine bf ?_;refine bw.r ?_;refine aV.r ?_;refine aV.r ?_;refine bw.r ?_;exact⟨.inr rfl,(λh=>by cases h)⟩
  refine RT.not .none Y (tl Y) false Y ?_;refine RT.done ?_;refine aV.n ?_;refine dh Y ?_;refine bp ?_;refine bw.n ?_;refine aV.n ?_;refine aW ?_;refine RT.add .none (((i:Nat):Int)+1) Y Y (tl Y) (jx (by omega)) ?_;refine RT.mv .none Y (tl Y) ?_;refine RT.done ?_;refine aV.n ?_;refine⟨⟨i+1,by omega⟩,(by dsimp only;omega),?_⟩
  try dsimp only
  exact c8 id Y Y Y Y Y ⟨.sv (by first|exact au|exact SV.aX (by omega)|exact SV.aX (by push_cast;omega)|exact SV.aX (by dsimp only;omega)|exact SV.imp_eq (by simp)),.sv (by first|exact au|exact SV.aX (by omega)|exact SV.aX (by push_cast;omega)|exact SV.aX (by dsimp only;omega)|exact SV.imp_eq (by simp)),.sv (by first|exact au|exact SV.aX (by omega)|exact SV.aX (by push_cast;omega)|exact SV.aX (by dsimp only;omega)|exact SV.imp_eq (by simp)),.sv (by first|exact au|exact SV.aX (by omega)|exact SV.aX (by push_cast;omega)|exact SV.aX (by dsimp only;omega)|exact SV.imp_eq (by simp)),.sv (by first|exact au|exact SV.aX (by omega)|exact SV.aX (by push_cast;omega)|exact SV.aX (by dsimp only;omega)|exact SV.imp_eq (by simp)),aq⟩ trivial trivial (λ_ _=>Y)
 subst hi;refine bz ?_;refine aW ?_;refine RT.lss .none (false) Y Y (tl Y) (by simp) ?_;refine RT.done ?_;refine aV.n ?_;refine bz ?_;refine dh Y ?_;refine bP ?_;refine aV.x ?_;refine aV.x ?_;refine bw.x ?_;exact⟨.inl Y,(λ_=>Y)⟩
theorem ny{x0:Lr}{r:Sz}(h:gw x0=some r):Pure ah 50 [.agg (AD x0)] (.agg (eSz r)):=by
 obtain⟨bu,bt,bM,bR⟩:=x0;refine aZ Tryz.func50 Y (af Y) (λdD M vs hvs=>?_);unfold gw at h;refine sr<|bx Y<|al (cs:=[ay 0,ay 0,ay 0,ay 0]) (by exact⟨au,au,au,au,aq⟩) Y<|dn<|sr<|fa Y Y<|lV Y Y Y<|fa Y Y<|lV Y Y Y<|lE h λx7 h7 h=>ln Y h7<|fa Y Y<|lV Y Y Y<|lE h λdJ fZ h=>ln Y fZ<|fa Y Y ?_;refine lV Y Y Y<|lE h λkE mS h=>ln Y mS<|bI (cs:=[_,_,_,_]) (cs':=[ay bu,ay x7,ay dJ,ay kE]) (.one Y (.one Y (.one Y (.one Y (.nil))))) ⟨au,au,au,au,aq⟩<|so Y Y Y<|dn<|bf ?_;obtain rfl:=O h;exact RZ (.agg Y Y (.k4 Y Y Y Y) Y (.nil))
theorem kW{x0:Lr}{r:Bool}(h:gx x0=some r):Pure ah 17 [.agg (AD x0)] (az r):=by
 obtain⟨bu,bt,bM,bR⟩:=x0;refine aZ Tryz.func17 Y (af Y) (λdD M vs hvs=>?_);unfold gx at h;refine sr<|bx Y<|ag Y<|dn<|sr<|ld Y Y (.k4 Y Y Y Y) ?_;obtain⟨⟨zq,CQ,zu,A4⟩,h5,h⟩:=bS h;refine cl (ny h5) ⟨Y,aq⟩<|al (cs:=[ay 0,ay 0,ay 0,ay 0]) (by exact⟨au,au,au,au,aq⟩) Y<|so Y Y Y<|dn<|qq<|qq ?_;refine bC h (λOf=>AS.ct 48 [(1,.ptr 1 0),(3,.ptr 3 0),(23,aj Of)] [(3,⟨71,[ai zq,ai CQ,ai zu,ai A4]⟩),(1,⟨26,[ai bu,.sv (slc 1 (List.map (eS 4 eQ) bt)),.sv (slc 1 (List.map (eS 4 eQ) bM)),.sv (slc 4 (List.map eQ bR))]⟩)] []) (λh=>?_) (λI3 h=>?_);refine aW<|fa Y Y<|lV Y Y Y<|lE h λx8 h8 h=>ls _ Y Y h8<|mv Y<|bE h λI6 Lx h=>?_;cases x8;refine RT.fieldAddr (.some Y Y) Y T Y<|RT.qJ (.some Y Y) Y Y Y T<|lE (F Lx) λdj fW Lx=>gg _ Y Y fW ?_;obtain rfl:=O Lx;refine pF Y<|mv Y<|bE h λXK Ly h=>?_;cases dj;refine RT.fieldAddr (.some Y Y) Y T Y<|RT.qJ (.some Y Y) Y Y Y T<|lE (F Ly) λeM kg Ly=>RT.lss (.some Y Y) _ Y Y T kg ?_;obtain rfl:=O Ly;refine pF Y<|mv Y<|bE h λXL Lz h=>?_;cases eM;refine RT.fieldAddr (.some Y Y) Y T Y<|RT.qJ (.some Y Y) Y Y Y T<|lE (F Lz) λgQ nw Lz=>gg _ Y Y nw ?_;obtain rfl:=O Lz;exact pF Y<|dn<|⟨gQ,h,wR []⟩;obtain rfl:=O (V Lz);exact ww<|ww<|ww<|pT Y<|dn<|⟨true,h,wR []⟩
 obtain rfl:=O (V Ly);refine ww<|ww<|ww<|pT Y<|mv Y<|bE h λXM GM h=>?_;obtain rfl:=O (V GM);exact ww<|ww<|ww<|pT Y<|dn<|⟨true,h,wR []⟩;obtain rfl:=O (V Lx);refine ww<|ww<|ww<|pT Y<|mv Y<|bE h λEm jb h=>?_;obtain rfl:=O (V jb);refine ww<|ww<|ww<|pT Y<|mv Y<|bE h λXN kz h=>?_;obtain rfl:=O (V kz);exact ww<|ww<|ww<|pT Y<|dn<|⟨true,h,wR []⟩
 try dsimp only
 refine aV.n ?_;cases I3;refine fs<|qq<|qq ?_;refine bC (F h) (λIA=>AS.ct 48 [(1,.ptr 1 0),(3,.ptr 3 0),(33,aj IA)] [(3,⟨71,[ai zq,ai CQ,ai zu,ai A4]⟩),(1,⟨26,[ai bu,.sv (slc 1 (List.map (eS 4 eQ) bt)),.sv (slc 1 (List.map (eS 4 eQ) bM)),.sv (slc 4 (List.map eQ bR))]⟩)] []) (λh=>?_) (λEl h=>?_);refine aW<|fa Y Y<|lV Y Y Y<|lE h λkN rW h=>gt _ Y Y rW<|mv Y<|bE h λI5 xK h=>?_;cases kN;refine RT.fieldAddr (.some Y Y) Y T Y<|RT.qJ (.some Y Y) Y Y Y T<|RT.fieldAddr (.some Y Y) Y T Y<|RT.qJ (.some Y Y) Y Y Y T<|lE (F xK) λiF nx xK=>gq _ Y Y (Kx (p:=A4) (q:=zu) nx) ?_;obtain rfl:=O xK;exact pF Y<|dn<|⟨iF,h,wR []⟩;obtain rfl:=O (V xK);exact ww<|ww<|ww<|ww<|ww<|pT Y<|dn<|⟨true,h,wR []⟩
 try dsimp only
 refine aV.n ?_;cases El;refine fs<|qq ?_;refine bC (F h) (λW0=>AS.ct 48 [(2,aj W0)] [] []) (λh=>?_) (λNS h=>?_);refine bh mixed<|fa Y Y<|lV Y Y Y<|bE h λsD wj h=>cl (vU wj) ⟨Y,aq⟩<|fa Y Y<|lV Y Y Y<|lE h λoP CD h=>RT.leq .none _ Y Y T CD<|mv Y<|bE h λI4 qN h=>?_;cases oP;obtain rfl:=O (F qN);refine ww<|ww<|ww<|ww<|ww<|ww<|pF Y<|ag Y ?_;refine RT.done ⟨by kernel_rfl,?_⟩;exact aV.n<|⟨false,h,wR []⟩;refine RT.fieldAddr (.some Y Y) Y T Y<|RT.qJ (.some Y Y) Y Y Y T<|bE (V qN) λDF KA qN=>gc (vU KA) ⟨Y,aq⟩<|RT.fieldAddr (.some Y Y) Y T Y<|RT.qJ (.some Y Y) Y Y Y T<|lE qN λo9 h46 qN=>RT.leq (.some Y Y) _ Y Y T h46 ?_;obtain rfl:=O qN;refine pT Y<|ag Y ?_;refine RT.done ⟨by kernel_rfl,?_⟩;exact aV.n<|⟨o9,h,wR []⟩
 try dsimp only
 refine aV.n<|bf ?_;obtain rfl:=O h;exact R1 Y;refine cT<|sr<|ag Y<|dn<|bf<|aV.r ?_;obtain rfl:=O (V h);exact R1 Y;refine cT<|sr<|ag Y<|dn<|bf<|aV.r ?_;obtain rfl:=O (V h);exact R1 Y
theorem pV{x0:Lr}{x1:List Qr}{r:Bool}(h:gE x0 x1=some r):Pure ah 20 [.agg (AD x0),slc 4 (List.map eQ x1)] (az r):=by
 obtain⟨bu,bt,bM,bR⟩:=x0;refine aZ Tryz.func20 Y (af Y) (λdD M vs hvs=>?_);unfold gE at h;refine sr<|bx Y<|RT.Ap .none (s:=.sv _) Y T Y Y<|ag Y<|dn<|H8<|qq<|qq ?_;refine bC h (λj3=>AS.ct 42 [(2,.ptr 2 0),(3,.ptr 3 0),(19,aj j3)] [(3,⟨24,[.sv (slc 4 (List.map eQ x1))]⟩),(2,⟨26,[ai bu,.sv (slc 1 (List.map (eS 4 eQ) bt)),.sv (slc 1 (List.map (eS 4 eQ) bM)),.sv (slc 4 (List.map eQ bR))]⟩)] []) (λh=>?_) (λI7 h=>?_);refine aW<|ld Y Y (.k4 Y Y Y Y)<|bE h λfK lH h=>cl (kW lH) ⟨Y,aq⟩<|lE h λdj fW h=>nt Y _ fW<|mv Y<|bE h λI8 GN h=>?_;cases dj;refine RT.qJ (.some Y Y) Y Y Y T<|lE (F GN) λeN jy GN=>gn Y jy<|RT.fieldAddr (.some Y Y) Y T Y<|RT.qJ (.some Y Y) Y Y Y T<|lE GN λfj jT GN=>gg _ Y Y jT ?_;obtain rfl:=O GN;exact pF Y<|dn<|⟨fj,h,wR []⟩;obtain rfl:=O (V GN);exact ww<|ww<|ww<|ww<|ww<|pT Y<|dn<|⟨true,h,wR []⟩
 try dsimp only
 refine aV.n ?_;cases I7;refine fs<|qq<|sr<|lV Y Y Y<|lE (F h) λgi mU h=>ln Y mU<|mv Y<|dn<|bE h λe9 hl9 ho9=>?_;refine bK (λ(XO:Unit)=>AS.ct 42 [(2,.ptr 2 0),(3,.ptr 3 0)] [(3,⟨24,[.sv (slc 4 (List.map eQ x1))]⟩),(2,⟨26,[ai bu,.sv (slc 1 (List.map (eS 4 eQ) bt)),.sv (slc 1 (List.map (eS 4 eQ) bM)),.sv (slc 4 (List.map eQ bR))]⟩)] []) (λXO=>.inl XO=e9) ?_ (λXO hx9=>?_);refine bj ?_;refine bL hl9 (λs9=>AS.ct 42 [(2,.ptr 2 0),(3,.ptr 3 0),(20,.sv (slc 4 (List.map eQ x1))),(21,ai gi),(22,ai s9)] [(3,⟨24,[.sv (slc 4 (List.map eQ x1))]⟩),(2,⟨26,[ai bu,.sv (slc 1 (List.map (eS 4 eQ) bt)),.sv (slc 1 (List.map (eS 4 eQ) bM)),.sv (slc 4 (List.map eQ bR))]⟩)] []) (wR []) (λFp y9 G9 h hG9 hE9=>?_)
 try dsimp only
 refine sr<|lE h λgM oc h=>ls _ Y Y oc<|dn<|qq ?_;cases gM;refine cF<|bP<|aV.x<|aV.x<|bw.x<|aV.n ?_;obtain rfl:=O (F h);exact⟨(),hE9 _ Y,wR []⟩;refine cT<|bp<|aV.n<|qq<|bj<|sr ?_;obtain⟨⟨⟨CX,CY⟩,⟨CZ,C0⟩⟩,oT,h⟩:=bS (V h);refine ix Y Y oT<|RT.qT (cs:=[_,_,_,_]) .none Y T Y Y<|al (cs:=[az false,ax,az false,ax]) (by exact⟨au,aB,au,aB,aq⟩) Y<|so Y Y Y<|dn<|sr<|ld Y Y (.k4 Y Y Y Y)<|bE h λgN nc h=>cl (og nc) ⟨Y,aq⟩<|lE h λmR tv h=>ls _ Y Y tv<|dn ?_;cases mR;refine cF<|bp<|bw.n<|aV.n<|aW<|lE (F h) λgR l8 h=>ad _ Y Y l8<|mv Y<|RT.done ?_;obtain rfl:=O h;exact aV.n ⟨gR,hG9 _ Y,wR []⟩;refine cT<|sr<|ag Y<|dn<|bf<|bw.r<|aV.r ?_;obtain rfl:=O (V h);have he9:=hE9 _ Y;subst he9;refine aV.r<|bw.r<|aV.r<|aV.r<|Li.r ?_;obtain rfl:=O ho9;exact R1 Y;subst hx9
 try dsimp only
 refine aV.n<|sr<|al (cs:=[az false]) (by exact⟨au,aq⟩) Y<|RT.mm (cells:=[_]) .none (s:=.sv _) Y Y Y T Y<|dn<|qq<|H9<|aV.n<|qq<|sr<|ld Y Y (.k4 Y Y Y Y)<|cl (nk ⟨bu,bt,bM,bR⟩) ⟨Y,aq⟩<|dn<|bj<|bE ho9 λKz IC lW=>?_;obtain⟨m12,XP,acV,XQ,XR⟩:=uK IC;refine kD (nm ⟨bu,bt,bM,bR⟩) (λ_ _ _ _ _=>trivial) Y (λk=>AS.ct 42 [(3,.ptr 3 0),(7,.ptr 7 0),(31,.sv (nZ 98 [ref [ay bu,slc 1 (List.map (eS 4 eQ) bt),slc 1 (List.map (eS 4 eQ) bM),slc 4 (List.map eQ bR)]]))] [(7,⟨4,[aj true]⟩),(3,⟨24,[.sv (slc 4 (List.map eQ x1))]⟩)] []) [7,3] Y (λ_=>⟨Y,Y⟩) (rK Y) (λ_=>Y) (rL Y) (by(try dsimp only);(try dsimp only);exact c8 id Y Y Y Y Y ⟨.ptr,.ptr,.sv au,aq⟩ ⟨⟨_,Y,⟨.sv au,aq⟩⟩,⟨_,Y,⟨.sv au,aq⟩⟩,aq⟩ trivial (λ_ _=>Y)) m12 (λk hk hkm D hD=>?_) (λhdn=>?_);obtain⟨y12,h,ID,IE⟩:=XQ k hk hkm;dsimp only[AS.KZ,qX]
 try dsimp only at h
 refine lE h λp32 XS h=>?_;rw[XS];obtain⟨⟨⟨NT,NU⟩,⟨NV,NW⟩⟩,XT,h⟩:=bS h;rw[Option.some.inj XT];refine sr<|ag Y<|dn<|aW<|al (cs:=[az false,ax,az false,ax]) (by exact⟨au,aB,au,aB,aq⟩) Y<|so Y Y Y<|RT.done ?_;refine aV.n ⟨Y,?_⟩;dsimp only[AS.Ax];refine bj<|qq<|bh mixed<|mv Y<|lV Y Y Y ?_;obtain⟨⟨⟨pz,pA⟩,⟨CO,CP⟩⟩,wj,h⟩:=bS h;refine cl (r9 wj) ⟨Y,Y,aq⟩<|ld Y Y (.k4 Y Y Y Y)<|bE h λsy Cy h=>cl (vR Cy) ⟨Y,Y,aq⟩ ?_;refine RT.done ⟨by kernel_rfl,?_⟩;refine aV.n<|bj<|sr<|lE h λlT rz h=>eq _ Y Y (vD (p:=sy) (q:=1) rz)<|ag Y<|dn ?_;cases lT;refine cF<|bp<|bw.n<|bw.n ?_;obtain rfl:=O (F h);obtain⟨XU,acW⟩:=ID _ Y;exact⟨XU,Y,Y,wR []⟩;refine cT<|sr<|RT.mm (cells:=[_]) .none (s:=.sv _) Y Y Y T Y<|dn<|bP<|bw.y (by decide)<|bw.y (by decide) ?_;obtain rfl:=O (V h);have XV:=IE _ Y;subst XV;refine⟨Y,Y,?_⟩;refine bw.x<|aV.n<|sr<|lV Y Y Y<|ag Y<|dn<|bf<|Li.r ?_;obtain rfl:=O lW;exact R1 Y;have XW:=XR hdn;subst XW;obtain⟨acX,S4⟩:∃q,XP ((Lr.rows ⟨bu,bt,bM,bR⟩).length)=q:=⟨_,Y⟩;rw[S4]at lW
 try dsimp only
 refine bw.n<|aV.n<|sr<|lV Y Y Y<|ag Y<|dn<|bf<|Li.r ?_;obtain rfl:=O lW;exact R1 Y;refine cT<|sr<|ag Y<|dn<|bf<|aV.r<|Li.r ?_;obtain rfl:=O (V h);exact R1 Y
theorem pW{x0:Lr}{x1:List Qr}{r:List Qr}(h:iN x0 x1=some r):Pure ah 21 [.agg (AD x0),slc 4 (List.map eQ x1)] (slc 4 (List.map eQ r)):=by
 obtain⟨bu,bt,bM,bR⟩:=x0;refine aZ Tryz.func21 Y (af Y) (λdD M vs hvs=>?_);unfold iN at h;refine sr<|bx Y<|aI Y (aB (n:=4) (e:=eQ))<|dn<|sr<|fa Y Y<|lV Y Y Y<|mv Y<|bE h λx8 h8 h=>cl (zw h8) ⟨Y,Y,aq⟩<|ag Y<|dn<|bf ?_;obtain rfl:=O h;exact R1 Y
theorem C1{x0:Lr}{x1:List Qr}{r:List Qr}(h:mE x0 x1=some r):Pure ah 39 [.agg (AD x0),slc 4 (List.map eQ x1)] (slc 4 (List.map eQ r)):=by
 obtain⟨bu,bt,bM,bR⟩:=x0;refine aZ Tryz.func39 Y (af Y) (λdD M vs hvs=>?_);unfold mE at h;refine sr<|bx Y<|RT.Ap .none (s:=.sv _) Y T Y Y<|aI Y (aB (n:=4) (e:=eQ))<|dn<|sr<|RT.alloc .none T Y Y<|dn<|bQ (uM 5 0 302 36 4 Y Y Y T)<|qq<|sr<|ld Y Y (.k4 Y Y Y Y)<|cl (nk ⟨bu,bt,bM,bR⟩) ⟨Y,aq⟩<|dn<|bj<|bE h λva hl5 ho5=>?_;obtain⟨st5,hs5,ht5,hn5⟩:=nJ hl5;refine lS (nm ⟨bu,bt,bM,bR⟩) (λ_ _ _ _ _=>trivial) Y (λk=>AS.ct 21 [(3,.ptr 3 0),(5,.ptr 5 0),(9,.sv (nZ 98 [ref [ay bu,slc 1 (List.map (eS 4 eQ) bt),slc 1 (List.map (eS 4 eQ) bM),slc 4 (List.map eQ bR)]]))] [(5,⟨24,[.row 304]⟩),(3,⟨24,[.sv (slc 4 (List.map eQ x1))]⟩)] [(304,TR 36 4 eQ (st5 k))]) [5,3] Y (λ_=>⟨Y,Y⟩) (rK Y) (λ_=>Y) (rL Y) (by(try dsimp only);rw[hs5];(try dsimp only);exact c8 (λi=>bif Nat.beq i 304 then 302 else i) Y Y Y Y Y ⟨.ptr,.ptr,.sv au,aq⟩ ⟨⟨_,Y,⟨.row Y,aq⟩⟩,⟨_,Y,⟨.sv au,aq⟩⟩,aq⟩ ⟨⟨_,Y,ff.refl _⟩,aq⟩ (λi hi=>by rw[cD (show i≠304 by omega)];rfl)) (λk hk D hD=>?_) ?_;have h:=ht5 k hk;obtain⟨va,Pu⟩:∃q,st5 k=q:=⟨_,Y⟩;rw[Pu]at h⊢;dsimp only[AS.KZ,qX]
 try dsimp only at h
 refine lE h λO9 PU h=>?_;rw[PU];obtain⟨⟨⟨CT,CU⟩,⟨CV,CW⟩⟩,I0,h⟩:=bS h;rw[Option.some.inj I0];refine sr<|ag Y<|dn<|aW<|al (cs:=[az false,ax,az false,ax]) (by exact⟨au,aB,au,aB,aq⟩) Y<|so Y Y Y<|RT.done ?_;refine aV.n ⟨Y,?_⟩;dsimp only[AS.Ax];refine bj<|bh mixed<|RT.nH .none (s:=.row _) Y Y Y T<|ld Y Y (.k4 Y Y Y Y)<|mv Y<|lV Y Y Y ?_;obtain⟨⟨⟨jg,jh⟩,⟨vS,vT⟩⟩,iY,h⟩:=bS h;refine cl (r9 iY) ⟨Y,Y,aq⟩ ?_;obtain⟨⟨⟨ng,nh⟩,⟨oK,oL⟩⟩,kg,h⟩:=bS h;refine cl (CS kg) ⟨Y,Y,aq⟩<|bl (l:=[⟨⟨ng,nh⟩,⟨oK,oL⟩⟩]) (e:=eQ) (.agg Y (.nil)) Y Y Y Y Y Y<|bE h λjZ mz h=>aR (k:=[⟨⟨ng,nh⟩,⟨oK,oL⟩⟩]) (e:=eQ) Y Y Y mz<|RT.rH (cells:=[_]) .none Y Y Y Y T Y ?_;refine RT.done ⟨by kernel_rfl,?_⟩;refine bw.n ?_;replace h:=Option.some.inj h;refine⟨aq,Y,Y,?_⟩
 try dsimp only
 rw[<-h]
 try dsimp only
 exact c8 (λi=>bif Nat.beq i 304 then 19 else i) Y Y Y Y Y ⟨.ptr,.ptr,.sv au,aq⟩ ⟨⟨_,Y,⟨.row Y,aq⟩⟩,⟨_,Y,⟨.sv au,aq⟩⟩,aq⟩ ⟨⟨_,Y,ff.refl _⟩,aq⟩ (λi hi=>by rw[cD (show i≠304 by omega)];rfl);rw[hn5]
 try dsimp only
 refine bw.n<|aV.n<|sr<|RT.nH .none (s:=.row _) Y Y Y T<|an (s:=.row _) Y<|dn<|bQ (cC (i:=304) (E1:=36) (n:=4) (e:=eQ) (l:=va) Y)<|bf ?_;obtain rfl:=O ho5;exact R1 Y
set_option maxHeartbeats 4000000 in
theorem si{x0:Lr}{r:Lr×Int}(h:iz x0=some r):Pure ah 16 [.agg (AD x0)] (.yN [.agg (AD r.1),ay r.2]):=by
 obtain⟨bu,bt,bM,bR⟩:=x0;refine aZ Tryz.func16 Y (af Y) (λdD M vs hvs=>?_);unfold iz at h;refine sr<|bx Y<|al (cs:=[ay 0,slc 1 (List.map (eS 4 eQ) []),slc 1 (List.map (eS 4 eQ) []),slc 4 (List.map eQ [])]) (by exact⟨au,aB,aB,aB,aq⟩) Y<|ag Y<|dn<|qq<|qq ?_;refine bC h (λj6=>AS.ct 76 [(1,.ptr 1 0),(2,.ptr 2 0),(23,aj j6)] [(2,⟨26,[ai 0,.sv (slc 1 (List.map (eS 4 eQ) [])),.sv (slc 1 (List.map (eS 4 eQ) [])),.sv (slc 4 (List.map eQ []))]⟩),(1,⟨26,[ai bu,.sv (slc 1 (List.map (eS 4 eQ) bt)),.sv (slc 1 (List.map (eS 4 eQ) bM)),.sv (slc 4 (List.map eQ bR))]⟩)] []) (λh=>?_) (λI9 h=>?_);refine aW<|ld Y Y (.k4 Y Y Y Y)<|bE h λfK lH h=>cl (kW lH) ⟨Y,aq⟩<|lE h λdj fW h=>nt Y _ fW<|mv Y<|bE h λJe u0 h=>?_;cases dj;refine RT.fieldAddr (.some Y Y) Y T Y<|RT.qJ (.some Y Y) Y Y Y T<|lE (F u0) λfE iY u0=>gn Y iY<|lE u0 λeM kg u0=>gg _ Y Y kg ?_;obtain rfl:=O u0;refine pF Y<|mv Y<|bE h λXX r7 h=>?_;cases eM;refine RT.fieldAddr (.some Y Y) Y T Y<|RT.qJ (.some Y Y) Y Y Y T<|lE (F r7) λgQ nw r7=>gg _ Y Y nw ?_;obtain rfl:=O r7;exact pF Y<|dn<|⟨gQ,h,wR []⟩;obtain rfl:=O (V r7);exact ww<|ww<|ww<|pT Y<|dn<|⟨true,h,wR []⟩;obtain rfl:=O (V u0);refine ww<|ww<|ww<|ww<|pT Y<|mv Y<|bE h λXY wm h=>?_
 obtain rfl:=O (V wm);exact ww<|ww<|ww<|pT Y<|dn<|⟨true,h,wR []⟩
 try dsimp only
 refine aV.n ?_;cases I9;refine fs<|sr<|fa Y Y<|lV Y Y Y<|lE (F h) λgN nc h=>ln Y nc<|ag Y<|dn<|sr ?_;obtain⟨⟨⟨NX,NY⟩,⟨NZ,N0⟩⟩,tv,h⟩:=bS h;refine cl (jE tv) ⟨Y,aq⟩<|al (cs:=[az false,ax,az false,ax]) (by exact⟨au,aB,au,aB,aq⟩) Y<|so Y Y Y<|dn<|sr<|mv Y<|ld Y Y (.k4 Y Y Y Y)<|fa Y Y<|lV Y Y Y<|bE h λl7 uA h=>cl (oh uA) ⟨Y,Y,aq⟩<|bl (l:=[l7]) (e:=(eS 4 eQ)) (.one Y (.nil)) Y Y Y Y Y Y ?_;refine bI (cs:=[_,_,_,_]) (cs':=[ay gN,slc 1 (List.map (eS 4 eQ) [l7]),.v (.slice none 0 0),.v (.slice none 0 0)]) (.one Y (.one Y (.nil))) ⟨au,au,au,au,aq⟩<|al (cs:=[ay 0,slc 1 (List.map (eS 4 eQ) []),.v (.slice none 0 0),.v (.slice none 0 0)]) (by exact⟨au,aB,au,au,aq⟩) Y<|so Y Y Y<|dn<|bQ (uM 6 2 303 24 1 Y Y Y T)<|bQ (uM 6 3 304 36 4 Y Y Y T) ?_;refine qq<|sr<|fa Y Y<|lV Y Y Y<|mv Y<|dn<|bE h λXJ XZ X0=>?_;refine bK (λ(GO:(List (List Qr))×(List Qr))=>AS.ct 76 [(2,.ptr 2 0),(6,.ptr 6 0)] [(6,⟨26,[ai gN,.sv (slc 1 (List.map (eS 4 eQ) [l7])),.row 307,.row 308]⟩),(2,⟨26,[ai 0,.sv (slc 1 (List.map (eS 4 eQ) [])),.sv (slc 1 (List.map (eS 4 eQ) [])),.sv (slc 4 (List.map eQ []))]⟩)] [(307,TR 24 1 (eS 4 eQ) GO.1),(308,TR 36 4 eQ GO.2)]) (λGO=>GO=XJ) ?_ (λGO X1=>?_);refine bj ?_
 refine bL XZ (λPY=>AS.ct 76 [(1,.ptr 1 0),(2,.ptr 2 0),(4,ai gN),(6,.ptr 6 0),(37,ai bu),(38,ai PY.1)] [(6,⟨26,[ai gN,.sv (slc 1 (List.map (eS 4 eQ) [l7])),.row 307,.row 308]⟩),(2,⟨26,[ai 0,.sv (slc 1 (List.map (eS 4 eQ) [])),.sv (slc 1 (List.map (eS 4 eQ) [])),.sv (slc 4 (List.map eQ []))]⟩),(1,⟨26,[ai bu,.sv (slc 1 (List.map (eS 4 eQ) bt)),.sv (slc 1 (List.map (eS 4 eQ) bM)),.sv (slc 4 (List.map eQ bR))]⟩)] [(307,TR 24 1 (eS 4 eQ) PY.2.1),(308,TR 36 4 eQ PY.2.2)]) (c8 (λi=>bif Nat.beq i 307 then 303 else bif Nat.beq i 308 then 304 else i) Y Y Y Y Y ⟨.ptr,.ptr,.sv au,.ptr,.sv au,.sv au,aq⟩ ⟨⟨_,Y,⟨.sv au,.sv au,.row Y,.row Y,aq⟩⟩,⟨_,Y,⟨.sv au,.sv au,.sv au,.sv au,aq⟩⟩,⟨_,Y,⟨.sv au,.sv au,.sv au,.sv au,aq⟩⟩,aq⟩ ⟨⟨_,Y,ff.refl _⟩,⟨_,Y,ff.refl _⟩,aq⟩ (λi hi=>by rw[cD (show i≠307 by omega)];rw[cD (show i≠308 by omega)];rfl)) (λPY y26 G26 h X2 X3=>?_);obtain⟨om,qu,qw⟩:=PY
 try dsimp only
 refine sr<|lE h λoP CD h=>ls _ Y Y CD<|dn<|qq ?_;cases oP;refine cF<|bP<|aV.x<|aV.x<|bw.x<|aV.n ?_;obtain rfl:=O (F h);exact⟨(qu,qw),X3 _ Y,wR []⟩;refine cT<|bp<|aV.n<|qq<|bj<|sr<|mv Y<|ag Y<|dn<|sr<|mv Y<|bE (V h) λo8 AW h=>RT.qY (n:=4) (e:=eQ) .none Y Y T Y T (by rfl) (by decide) (by exact⟨au,aB,au,aB,aq⟩) AW<|an (s:=.row _) Y<|dn<|qq<|sr<|mo (s:=.row _) Y<|lE h λza Gz h=>lL Y Y Gz<|mv Y<|dn<|bE h λe34 X4 yg=>?_;refine bK (λ(oq:(List Qr))=>AS.ct 76 [(1,.ptr 1 0),(2,.ptr 2 0),(4,ai gN),(6,.ptr 6 0),(7,ai om),(8,.row 42),(37,ai bu),(38,ai om)] [(6,⟨26,[ai gN,.sv (slc 1 (List.map (eS 4 eQ) [l7])),.row 307,.row 308]⟩),(2,⟨26,[ai 0,.sv (slc 1 (List.map (eS 4 eQ) [])),.sv (slc 1 (List.map (eS 4 eQ) [])),.sv (slc 4 (List.map eQ []))]⟩),(1,⟨26,[ai bu,.sv (slc 1 (List.map (eS 4 eQ) bt)),.sv (slc 1 (List.map (eS 4 eQ) bM)),.sv (slc 4 (List.map eQ bR))]⟩)] [(42,TR 36 4 eQ oq),(307,TR 24 1 (eS 4 eQ) qu),(308,TR 36 4 eQ qw)]) (λoq=>oq=e34) ?_ (λoq X5=>?_);refine bj ?_
 refine bL X4 (λRh=>AS.ct 76 [(1,.ptr 1 0),(2,.ptr 2 0),(4,ai gN),(6,.ptr 6 0),(7,ai om),(8,.row 42),(37,ai bu),(38,ai om),(44,ai za),(45,ai Rh.1)] [(6,⟨26,[ai gN,.sv (slc 1 (List.map (eS 4 eQ) [l7])),.row 307,.row 308]⟩),(2,⟨26,[ai 0,.sv (slc 1 (List.map (eS 4 eQ) [])),.sv (slc 1 (List.map (eS 4 eQ) [])),.sv (slc 4 (List.map eQ []))]⟩),(1,⟨26,[ai bu,.sv (slc 1 (List.map (eS 4 eQ) bt)),.sv (slc 1 (List.map (eS 4 eQ) bM)),.sv (slc 4 (List.map eQ bR))]⟩)] [(42,TR 36 4 eQ Rh.2),(307,TR 24 1 (eS 4 eQ) qu),(308,TR 36 4 eQ qw)]) (wR []) (λRh y34 G34 h X6 X7=>?_);obtain⟨ye,yf⟩:=Rh
 try dsimp only
 refine sr<|lE h λo9 h46 h=>ls _ Y Y h46<|dn<|qq ?_;cases o9;refine cF<|bP<|aV.x<|aV.x<|bw.x<|aV.n ?_;obtain rfl:=O (F h);exact⟨yf,X7 _ Y,wR []⟩;refine cT<|bp<|aV.n<|qq<|bj<|sr<|mv Y<|ag Y<|dn<|aW<|mo (s:=.row _) Y<|mv Y<|fa Y Y<|lV Y Y Y<|mv Y<|mv Y ?_;obtain⟨⟨⟨N1,N2⟩,⟨N3,N4⟩⟩,Fo,h⟩:=bS (V h);refine cl (z4 Fo) ⟨Y,Y,Y,aq⟩ ?_;obtain⟨⟨⟨Ja,Jb⟩,⟨Jc,Jd⟩⟩,SF,h⟩:=bS h;refine cl (vQ SF) ⟨Y,aq⟩<|bE h λMZ Px h=>iR Y Y Y Px<|bE h λXH S5 h=>sA ⟨⟨Ja,Jb⟩,⟨Jc,Jd⟩⟩ Y Y Y S5<|RT.done<|bw.n<|aV.n<|aW<|lE h λLn SC h=>ad _ Y Y SC<|mv Y<|RT.done ?_;obtain rfl:=O h;exact aV.n ⟨(Ln,XH),X6 _ Y,wR []⟩;subst X5
 try dsimp only
 refine aV.n<|qq<|bQ (cC (i:=42) (E1:=36) (n:=4) (e:=eQ) (l:=oq) Y)<|aW<|fa Y Y<|RT.nH .none (s:=.row _) Y Y Y T<|mv Y<|bl (l:=[oq]) (e:=(eS 4 eQ)) (.one Y (.nil)) Y Y Y Y Y Y<|bE yg λXI Wo yg=>aR (k:=[oq]) (e:=(eS 4 eQ)) Y Y Y Wo<|fa Y Y<|RT.rH (cells:=[_,_,_,_]) .none Y Y Y Y T Y<|dn<|bh mixed<|fa Y Y<|RT.nH .none (s:=.row _) Y Y Y T ?_;refine fa Y Y<|lV Y Y Y<|mv Y ?_;obtain⟨⟨⟨N5,N6⟩,⟨N7,N8⟩⟩,SG,yg⟩:=bS yg;refine cl (z4 SG) ⟨Y,Y,Y,aq⟩ ?_;obtain⟨⟨⟨Fq,Fs⟩,⟨Ft,Fu⟩⟩,Wq,yg⟩:=bS yg;refine cl (vQ Wq) ⟨Y,aq⟩<|bl (l:=[⟨⟨Fq,Fs⟩,⟨Ft,Fu⟩⟩]) (e:=eQ) (.agg Y (.nil)) Y Y Y Y Y Y<|bE yg λIp SI yg=>aR (k:=[⟨⟨Fq,Fs⟩,⟨Ft,Fu⟩⟩]) (e:=eQ) Y Y Y SI<|fa Y Y<|RT.rH (cells:=[_,_,_,_]) .none Y Y Y Y T Y ?_;refine RT.done ⟨by kernel_rfl,?_⟩;refine bw.n<|aV.n<|aW<|lE yg λLq SJ yg=>ad _ Y Y SJ<|mv Y<|RT.done ?_;obtain rfl:=O yg;exact aV.n ⟨(Lq,XI,Ip),X2 _ Y,c8 (λi=>bif Nat.beq i 307 then 62 else bif Nat.beq i 308 then 72 else i) Y Y Y Y Y ⟨.ptr,.ptr,.sv au,.ptr,.sv au,.sv au,aq⟩ ⟨⟨_,Y,⟨.sv au,.sv au,.row Y,.row Y,aq⟩⟩,⟨_,Y,⟨.sv au,.sv au,.sv au,.sv au,aq⟩⟩,⟨_,Y,⟨.sv au,.sv au,.sv au,.sv au,aq⟩⟩,aq⟩ ⟨⟨_,Y,ff.refl _⟩,⟨_,Y,ff.refl _⟩,aq⟩ (λi hi=>by rw[cD (show i≠307 by omega)];rw[cD (show i≠308 by omega)];rfl)⟩
 subst X1;obtain⟨A7,A8⟩:=GO
 try dsimp only
 refine aV.n<|qq<|bQ (cC (i:=307) (E1:=24) (n:=1) (e:=(eS 4 eQ)) (l:=A7) Y)<|bQ (cC (i:=308) (E1:=36) (n:=4) (e:=eQ) (l:=A8) Y)<|aW<|ld Y Y (.k4 Y Y Y Y)<|so Y Y Y<|ag Y<|dn<|bf ?_;obtain rfl:=O X0;exact RZ (.agg Y Y (.k4 Y Y Y Y) Y (.tmp Y (.nil)));refine cT<|sr<|bI (cs:=[_,_,_,_]) (cs':=[ay 0,slc 1 (List.map (eS 4 eQ) []),slc 1 (List.map (eS 4 eQ) []),slc 4 (List.map eQ [])]) (.nil) ⟨au,aB,aB,aB,aq⟩<|so Y Y Y<|ag Y<|dn<|bf<|aV.r ?_;obtain rfl:=O (V h);exact RZ (.agg Y Y (.k4 Y Y Y Y) Y (.tmp Y (.nil)))
theorem A9{x0:Lr}{r:Lr}(h:kV x0=some r):Pure ah 48 [.agg (AD x0)] (.agg (AD r)):=by
 obtain⟨bu,bt,bM,bR⟩:=x0;refine aZ Tryz.func48 Y (af Y) (λdD M vs hvs=>?_);unfold kV at h;refine sr<|bx Y<|al (cs:=[ay 0,slc 1 (List.map (eS 4 eQ) []),slc 1 (List.map (eS 4 eQ) []),slc 4 (List.map eQ [])]) (by exact⟨au,aB,aB,aB,aq⟩) Y<|dn<|sr ?_;obtain⟨⟨⟨r5,r6⟩,⟨Lv,Lw⟩⟩,h4,h⟩:=bS h;refine cl (jE h4) ⟨Y,aq⟩<|al (cs:=[az false,ax,az false,ax]) (by exact⟨au,aB,au,aB,aq⟩) Y<|so Y Y Y<|dn<|qq<|bh mixed<|fa Y Y<|lV Y Y Y<|ld Y Y (.k4 Y Y Y Y)<|fa Y Y<|lV Y Y Y<|bE h λdJ fZ h=>cl (tG fZ) ⟨Y,Y,aq⟩ ?_;refine ld Y Y (.k4 Y Y Y Y)<|fa Y Y<|lV Y Y Y<|bE h λdV iJ h=>cl (tG iJ) ⟨Y,Y,aq⟩<|ld Y Y (.k4 Y Y Y Y)<|fa Y Y<|lV Y Y Y<|bE h λfj jT h=>cl (oh jT) ⟨Y,Y,aq⟩<|bI (cs:=[_,_,_,_]) (cs':=[ay bu,slc 1 (List.map (eS 4 eQ) dJ),slc 1 (List.map (eS 4 eQ) dV),slc 4 (List.map eQ fj)]) (.one Y (.one Y (.one Y (.one Y (.nil))))) ⟨au,au,au,au,aq⟩ ?_;refine so Y Y Y ?_;refine RT.done ⟨by kernel_rfl,?_⟩;refine aV.n<|bf ?_;obtain rfl:=O h;exact RZ (.agg Y Y (.k4 Y Y Y Y) Y (.nil))
theorem oS{x0:Lr}{x1:Int}{r:Lr×Int}(h:cA x0 x1=some r):Pure ah 12 [.agg (AD x0),ay x1] (.yN [.agg (AD r.1),ay r.2]):=by
 obtain⟨bu,bt,bM,bR⟩:=x0;refine aZ Tryz.func12 Y (af Y) (λdD M vs hvs=>?_);unfold cA at h;refine sr<|bx Y<|al (cs:=[ay 0,slc 1 (List.map (eS 4 eQ) []),slc 1 (List.map (eS 4 eQ) []),slc 4 (List.map eQ [])]) (by exact⟨au,aB,aB,aB,aq⟩) Y<|ag Y<|dn<|qq<|qq ?_;refine bC h (λj6=>AS.ct 30 [(1,ai x1),(2,.ptr 2 0),(4,.ptr 4 0),(19,aj j6)] [(4,⟨26,[ai 0,.sv (slc 1 (List.map (eS 4 eQ) [])),.sv (slc 1 (List.map (eS 4 eQ) [])),.sv (slc 4 (List.map eQ []))]⟩),(2,⟨26,[ai bu,.sv (slc 1 (List.map (eS 4 eQ) bt)),.sv (slc 1 (List.map (eS 4 eQ) bM)),.sv (slc 4 (List.map eQ bR))]⟩)] []) (λh=>?_) (λJf h=>?_);refine aW<|ld Y Y (.k4 Y Y Y Y)<|bE h λx7 h7 h=>cl (kW h7) ⟨Y,aq⟩<|lE h λx8 h8 h=>nt Y _ h8<|mv Y<|bE h λOd LA h=>?_;cases x8;refine gm Y<|lE (F LA) λfK lH LA=>RT.lss (.some Y Y) _ Y Y T lH ?_;obtain rfl:=O LA;refine pF Y<|mv Y<|bE h λabn DI h=>?_;cases fK;refine gm Y<|RT.fieldAddr (.some Y Y) Y T Y<|RT.qJ (.some Y Y) Y Y Y T<|lE (F DI) λeM kg DI=>gn Y kg<|lE DI λfj jT DI=>RT.geq (.some Y Y) _ Y Y T jT ?_;obtain rfl:=O DI;exact pF Y<|dn<|⟨fj,h,wR []⟩;obtain rfl:=O (V DI);exact ww<|ww<|ww<|ww<|ww<|pT Y<|dn<|⟨true,h,wR []⟩;obtain rfl:=O (V LA);refine ww<|ww<|pT Y<|mv Y<|bE h λabo X8 h=>?_
 obtain rfl:=O (V X8);exact ww<|ww<|ww<|ww<|ww<|pT Y<|dn<|⟨true,h,wR []⟩
 try dsimp only
 refine aV.n ?_;cases Jf;refine fs<|sr<|fa Y Y<|lV Y Y Y<|mv Y<|mv Y<|lE (F h) λlO oe h=>ad _ Y Y oe<|bE h λkN rW h=>RT.rP .none x1 lO Y ⟨_,Y⟩ ⟨_,Y⟩ T rW<|fa Y Y<|RT.mm (cells:=[_,_,_,_]) .none (s:=.sv _) Y Y Y T Y<|dn<|sr<|ld Y Y (.k4 Y Y Y Y) ?_;obtain⟨⟨N9,Oa,Ob,Oc⟩,l8,h⟩:=bS h;refine cl (A9 l8) ⟨Y,aq⟩<|so Y Y Y<|ag Y<|dn<|bf ?_;obtain rfl:=O h;exact RZ (.agg Y Y (.k4 Y Y Y Y) Y (.tmp Y (.nil)));refine cT<|sr<|bI (cs:=[_,_,_,_]) (cs':=[ay 0,slc 1 (List.map (eS 4 eQ) []),slc 1 (List.map (eS 4 eQ) []),slc 4 (List.map eQ [])]) (.nil) ⟨au,aB,aB,aB,aq⟩<|so Y Y Y<|ag Y<|dn<|bf<|aV.r ?_;obtain rfl:=O (V h);exact RZ (.agg Y Y (.k4 Y Y Y Y) Y (.tmp Y (.nil)))
theorem vV{x0:Lr}{x1:Lr}{r:Bool}(h:kx x0 x1=some r):Pure ah 14 [.agg (AD x0),.agg (AD x1)] (az r):=by
 obtain⟨bu,bt,bM,bR⟩:=x0;obtain⟨b7,bX,gZ,g9⟩:=x1;refine aZ Tryz.func14 Y (af Y) (λdD M vs hvs=>?_);unfold kx at h;refine sr<|bx Y<|bx Y<|ag Y<|dn<|qq<|qq<|bh mixed<|ld Y Y (.k4 Y Y Y Y) ?_;obtain⟨⟨wD,wE,SX,SY⟩,h6,h⟩:=bS h;refine cl (ny h6) ⟨Y,aq⟩<|ld Y Y (.k4 Y Y Y Y) ?_;obtain⟨⟨uY,uZ,SZ,S0⟩,h8,h⟩:=bS h;refine cl (ny h8) ⟨Y,aq⟩<|lE h λx9 h9 h=>RT.PV .none Y Y T h9 ?_;refine RT.done ⟨by kernel_rfl,?_⟩;refine aV.n ?_;cases x9;refine fs<|qq ?_;refine bC (F h) (λj6=>AS.ct 29 [(4,aj j6)] [] []) (λh=>?_) (λS3 h=>?_);refine aW<|fa Y Y<|lV Y Y Y<|fa Y Y<|lV Y Y Y<|bE h λdV iJ h=>cl (tH iJ) ⟨Y,Y,aq⟩<|mv Y<|bE h λOe LA h=>?_;cases dV;obtain rfl:=O (F LA);refine ww<|ww<|ww<|ww<|ww<|pF Y<|mv Y<|bE h λabp X8 h=>?_;obtain rfl:=O (F X8);exact ww<|ww<|ww<|ww<|ww<|pF Y<|ag Y<|dn<|⟨false,h,wR []⟩;refine RT.fieldAddr (.some Y Y) Y T Y<|RT.qJ (.some Y Y) Y Y Y T<|RT.fieldAddr (.some Y Y) Y T Y<|RT.qJ (.some Y Y) Y Y Y T<|bE (V LA) λju oQ LA=>gc (tH oQ) ⟨Y,Y,aq⟩ ?_;obtain rfl:=O LA;refine pT Y<|mv Y<|bE h λabq DI h=>?_;cases ju;obtain rfl:=O (F DI);exact ww<|ww<|ww<|ww<|ww<|pF Y<|ag Y<|dn<|⟨false,h,wR []⟩
 refine RT.fieldAddr (.some Y Y) Y T Y<|RT.qJ (.some Y Y) Y Y Y T<|RT.fieldAddr (.some Y Y) Y T Y<|RT.qJ (.some Y Y) Y Y Y T<|bE (V DI) λgN nc DI=>gc (jF nc) ⟨Y,Y,aq⟩ ?_;obtain rfl:=O DI;exact pT Y<|ag Y<|dn<|⟨gN,h,wR []⟩
 try dsimp only
 refine aV.n<|bf ?_;obtain rfl:=O h;exact R1 Y;refine cT<|sr<|ag Y<|dn<|bf<|aV.r ?_;obtain rfl:=O (V h);exact R1 Y
end
section
open Go.Fw
noncomputable def cJ(x0:List Int):Option (List Int):=(some (x0.length:Int)).bind λx5=>(b9 (λ(tJ:Int)=>(show Option ((Int)⊕(Int))from cg (λ(En:Bool)=>(bif En then(some (IntKind.i64.wrap (tJ-1))).bind λeM=>some (.inl eM)else some (.inr tJ))) λIe=>(some (decide ((0:Int)<tJ))).bind λx7=>(bif x7 then(some (IntKind.i64.wrap (tJ-1))).bind λfK=>(c9 x0 fK).bind λdj=>(some (decide ((dj:Int)=0))).bind λdV=>some dV else some false).bind λJg=>Ie Jg)) x5).bind λEo=>(sM x0 0 Eo).bind λju=>some ju
noncomputable def bY(x0:List Nat):Option (List Int):=(b9 (λ(s6:Int×(List Int))=>match s6 with|⟨sj,ot⟩=>(show Option ((Int×(List Int))⊕((List Int)))from(some (x0.length:Int)).bind λx7=>(some (decide ((sj:Int)<x7))).bind λx8=>(bif x8 then(c9 x0 sj).bind λdV=>(some (dV%65536)).bind λfE=>(some (IntKind.i64.wrap (fE:Int))).bind λeM=>(c9 x0 sj).bind λju=>(some (ju/65536%4294967296)).bind λgQ=>(some (IntKind.i64.wrap (gQ:Int))).bind λgM=>(sN 8 ot [eM,gM]).bind λlO=>(some (IntKind.i64.wrap (sj+1))).bind λdJ=>some (.inl (dJ,lO))else some (.inr ot)))) (0,[])).bind λgy=>(cJ gy).bind λgN=>some gN
noncomputable def dc(x0:List Int)(x1:Int):Option (Int):=(some (x0.length:Int)).bind λx7=>(some (decide ((x1:Int)<x7))).bind λx8=>(bif x8 then(c9 x0 x1).bind λfK=>some fK else some 0)
noncomputable def dg(x0:Bool)(x1:List Int):Option (Zr):=(cJ x1).bind λx8=>(b9 (λ(s6:Int×(List Nat))=>match s6 with|⟨oR,ot⟩=>(show Option ((Int×(List Nat))⊕((List Nat)))from(some (x8.length:Int)).bind λfK=>(some (decide ((oR:Int)<fK))).bind λdj=>(bif dj then(dc x8 oR).bind λfj=>(some ((fj%4294967296).toNat)).bind λjZ=>(some (IntKind.i64.wrap (oR+1))).bind λgQ=>(dc x8 gQ).bind λgM=>(some ((gM%4294967296).toNat)).bind λgO=>(some ((gO*65536)%4294967296)).bind λlO=>(some ((jZ+lO)%4294967296)).bind λkN=>(sN 4 ot [kN]).bind λmR=>(some (IntKind.i64.wrap (oR+2))).bind λdV=>some (.inl (dV,mR))else some (.inr ot)))) (0,[])).bind λgy=>cg (λ(Jh:Bool)=>some ⟨Jh,gy⟩) λK9=>(bif x0 then(some (gy.length:Int)).bind λiF=>(some (decide ((0:Int)<iF))).bind λl7=>some l7 else some false).bind λJi=>K9 Ji
noncomputable def fG(x0:Zr):Option (Zr):=match x0 with|⟨bu,bt⟩=>(bY bt).bind λx7=>(dg bu x7).bind λ⟨uY,uZ⟩=>some ⟨uY,uZ⟩
noncomputable def fB(x0:Int):Option (Zr):=(some ((x0%18446744073709551616).toNat)).bind λx5=>(some (decide ((x0:Int)<0))).bind λx7=>cg (λ(Cq:Nat)=>(some (decide ((x0:Int)<0))).bind λfK=>(some (Cq%4294967296)).bind λkE=>(some (kE%4294967296)).bind λdV=>(some (Cq/4294967296%18446744073709551616)).bind λfE=>(some (fE%4294967296)).bind λeM=>(fG ⟨fK,[dV,eM]⟩).bind λ⟨CG,CH⟩=>some ⟨CG,CH⟩) λK2=>(bif x7 then(some (mw 18446744073709551616 0 x5)).bind λx9=>K2 x9 else K2 x5)
noncomputable def iq(x0:List Int)(x1:List Int):Option (Int):=(some (x0.length:Int)).bind λx7=>(some (x1.length:Int)).bind λx9=>(some (max (x7:Int) x9)).bind λdJ=>(some (IntKind.i64.wrap (dJ-1))).bind λfK=>(b9 (λ(lF:Int)=>(show Option ((Int)⊕((Unit)⊕(Int)))from(some (decide ((0:Int)<=lF))).bind λkE=>(bif kE then(dc x0 lF).bind λfj=>(dc x1 lF).bind λgi=>(some (decide ((fj:Int)<gi))).bind λgQ=>(bif gQ then some (.inr (.inr (-1)))else(dc x0 lF).bind λlO=>(dc x1 lF).bind λmR=>(some (decide ((mR:Int)<lO))).bind λgR=>(bif gR then some (.inr (.inr 1))else(some (IntKind.i64.wrap (lF-1))).bind λeN=>some (.inl eN)))else some (.inr (.inl ()))))) fK).bind λe6=>match e6 with|.inr v6=>some v6|.inl _=>some 0
noncomputable def jm(x0:List Int)(x1:List Int):Option (List Int):=(b9 (λ(Jj:Int×Int×(List Int))=>match Jj with|⟨LB,Ep,yh⟩=>(show Option ((Int×Int×(List Int))⊕((List Int)))from cg (λ(Er:Bool)=>(bif Er then(dc x0 Ep).bind λgN=>(dc x1 Ep).bind λuO=>(some (IntKind.i64.wrap (gN+uO))).bind λoG=>(some (IntKind.i64.wrap (oG+LB))).bind λl7=>(some (Int.tmod l7 65536)).bind λsD=>(sN 8 yh [sD]).bind λsy=>(some (IntKind.i64.wrap (Int.tdiv l7 65536))).bind λlT=>(some (IntKind.i64.wrap (Ep+1))).bind λgO=>some (.inl (lT,gO,sy))else some (.inr yh))) λS6=>(some (x0.length:Int)).bind λfK=>(some (decide ((Ep:Int)<fK))).bind λdj=>(bif dj then some true else(some (x1.length:Int)).bind λfE=>(some (decide ((Ep:Int)<fE))).bind λeM=>some eM).bind λEm=>(bif Em then some true else(some (decide ((0:Int)<LB))).bind λgi=>some gi).bind λP2=>S6 P2)) (0,0,[])).bind λou=>(cJ ou).bind λo8=>some o8
noncomputable def ga(x0:List Int)(x1:List Int):Option (List Int):=(b9 (λ(s8:Int×Int×(List Int))=>match s8 with|⟨Co,GP,nu⟩=>(show Option ((Int×Int×(List Int))⊕((List Int)))from(some (x0.length:Int)).bind λfK=>(some (decide ((GP:Int)<fK))).bind λdj=>(bif dj then(dc x0 GP).bind λeM=>(dc x1 GP).bind λju=>(some (IntKind.i64.wrap (eM-ju))).bind λgi=>(some (IntKind.i64.wrap (gi-Co))).bind λgM=>(some (decide ((gM:Int)<0))).bind λlO=>cg (λ(Of:Int×Int)=>match Of with|⟨P3,LC⟩=>(sN 8 nu [LC]).bind λoG=>(some (IntKind.i64.wrap (GP+1))).bind λdV=>some (.inl (P3,dV,oG))) λUi=>(bif lO then(some (IntKind.i64.wrap (gM+65536))).bind λgN=>Ui (1,gN)else Ui (0,gM))else some (.inr nu)))) (0,0,[])).bind λnv=>(cJ nv).bind λl7=>some l7
noncomputable def eH(x0:List Int):Option (Int):=(some (x0.length:Int)).bind λx6=>(some (IntKind.i64.wrap (x6-1))).bind λx7=>(b9 (λ(s6:Int×Int)=>match s6 with|⟨kU,sj⟩=>(show Option ((Int×Int)⊕(Int))from(some (decide ((0:Int)<=sj))).bind λx9=>(bif x9 then(some (IntKind.i64.wrap (kU*65536))).bind λkE=>(c9 x0 sj).bind λfE=>(some (IntKind.i64.wrap (kE+fE))).bind λfj=>(some (IntKind.i64.wrap (sj-1))).bind λfK=>some (.inl (fj,fK))else some (.inr kU)))) (0,x7)).bind λnK=>some nK
noncomputable def iA(x0:Int):Option (List Int):=(some (Int.tmod x0 65536)).bind λx4=>(some (IntKind.i64.wrap (Int.tdiv x0 65536))).bind λx6=>(some (Int.tmod x6 65536)).bind λx7=>(some (IntKind.i64.wrap (Int.tdiv x0 65536))).bind λx9=>(some (IntKind.i64.wrap (Int.tdiv x9 65536))).bind λdJ=>(cJ [x4,x7,dJ]).bind λdj=>some dj
noncomputable def eI(x0:List Int)(x1:Int):Option (List Int):=(b9 (λ(zS:Int×Int×(List Int))=>match zS with|⟨LD,Jk,yj⟩=>(show Option ((Int×Int×(List Int))⊕((List Int)))from cg (λ(Es:Bool)=>(bif Es then(dc x0 Jk).bind λgi=>(some (IntKind.i64.wrap (gi*x1))).bind λgM=>(some (IntKind.i64.wrap (gM+LD))).bind λlO=>(some (Int.tmod lO 65536)).bind λmR=>(sN 8 yj [mR]).bind λuO=>(some (IntKind.i64.wrap (Int.tdiv lO 65536))).bind λiF=>(some (IntKind.i64.wrap (Jk+1))).bind λfj=>some (.inl (iF,fj,uO))else some (.inr yj))) λIe=>(some (x0.length:Int)).bind λfK=>(some (decide ((Jk:Int)<fK))).bind λdj=>(bif dj then some true else(some (decide ((0:Int)<LD))).bind λeN=>some eN).bind λJl=>Ie Jl)) (0,0,[])).bind λsn=>(cJ sn).bind λmQ=>some mQ
noncomputable def jn(x0:List Int)(x1:List Int):Option ((List Int)×(List Int)):=cg (λ(Jm:Bool)=>(bif Jm then(eH x0).bind λgM=>(eH x1).bind λlO=>(oO gM lO).bind λkN=>(iA kN).bind λgN=>(eH x0).bind λgR=>(eH x1).bind λoG=>(yV gR oG).bind λiF=>(iA iF).bind λl7=>some (gN,l7)else(some (x0.length:Int)).bind λrj=>(Ca 8 rj (0:Int)).bind λsD=>(some (x1.length:Int)).bind λsy=>(some (decide ((sy:Int)=1))).bind λoP=>(bif oP then(some (x0.length:Int)).bind λwO=>(some (IntKind.i64.wrap (wO-1))).bind λo8=>(b9 (λ(P4:Int×Int×(List Int))=>match P4 with|⟨Fv,C2,yl⟩=>(show Option ((Int×Int×(List Int))⊕(Int×(List Int)))from(some (decide ((0:Int)<=C2))).bind λza=>(bif za then(some (IntKind.i64.wrap (Fv*65536))).bind λy4=>(c9 x0 C2).bind λMY=>(some (IntKind.i64.wrap (y4+MY))).bind λX9=>(c9 x1 0).bind λRa=>(oO X9 Ra).bind λGp=>(c9 x1 0).bind λM1=>(yV X9 M1).bind λPg=>(uy yl C2).bind λM3=>(stM yl M3 Gp).bind λYa=>(some (IntKind.i64.wrap (C2-1))).bind λo9=>some (.inl (Pg,o9,Ya))else some (.inr (Fv,yl))))) (0,o8,sD)).bind λYb=>match Yb with|⟨Jn,Et⟩=>(cJ Et).bind λQ8=>(cJ [Jn]).bind λS7=>some (Q8,S7)else(some (x0.length:Int)).bind λx73=>(some (IntKind.i64.wrap (x73-1))).bind λLq=>(b9 (λ(P5:(List Int)×Int×(List Int))=>match P5 with|⟨C3,ow,oy⟩=>(show Option (((List Int)×Int×(List Int))⊕((List Int)×(List Int)))from(some (decide ((0:Int)<=ow))).bind λYc=>(bif Yc then(c9 x0 ow).bind λYd=>(sN 8 [Yd] C3).bind λSf=>(cJ Sf).bind λIq=>(some (Iq.length:Int)).bind λx88=>(some (x1.length:Int)).bind λSg=>(some (decide ((x88:Int)<Sg))).bind λPk=>cg (λ(Jo:Int)=>(b9 (λ(Og:Int×Int)=>match Og with|⟨jH,mF⟩=>(show Option ((Int×Int)⊕(Int))from(some (IntKind.i64.wrap (mF-jH))).bind λx94=>(some (decide ((1:Int)<x94))).bind λYe=>(bif Ye then(some (IntKind.i64.wrap (jH+mF))).bind λx98=>(some (IntKind.i64.wrap (Int.tdiv x98 2))).bind λRi=>(eI x1 Ri).bind λD5=>(iq D5 Iq).bind λD6=>(some (decide ((D6:Int)<=0))).bind λGs=>cg (λ(Rj:Int×Int)=>match Rj with|⟨Eu,Ev⟩=>some (.inl (Eu,Ev))) λK56=>(bif Gs then K56 (Ri,mF)else K56 (jH,Ri))else some (.inr jH)))) (0,Jo)).bind λpX=>(eI x1 pX).bind λD7=>(ga Iq D7).bind λJp=>(uy oy ow).bind λLF=>(stM oy LF pX).bind λS8=>(some (IntKind.i64.wrap (ow-1))).bind λYf=>some (.inl (Jp,Yf,S8))) λK46=>(bif Pk then K46 1 else K46 65536)else some (.inr (C3,oy))))) ([],Lq,sD)).bind λYg=>match Yg with|⟨Oh,Ew⟩=>(cJ Ew).bind λS9=>some (S9,Oh)))) λK3=>(some (x0.length:Int)).bind λeN=>(some (decide ((eN:Int)<=3))).bind λfE=>(bif fE then(some (x1.length:Int)).bind λjZ=>(some (decide ((jZ:Int)<=3))).bind λju=>some ju else some false).bind λJq=>K3 Jq
noncomputable def dz(x0:Zr):Option (Int):=match x0 with|⟨bu,bt⟩=>(bY bt).bind λx5=>(some (x5.length:Int)).bind λx6=>(some (decide ((x6:Int)=0))).bind λx7=>(bif x7 then some 0 else(bif bu then some (-1)else some 1))
noncomputable def kX(x0:Zr)(x1:Zr):Option (Int):=match x0 with|⟨bu,bt⟩=>match x1 with|⟨b7,bX⟩=>(dz ⟨bu,bt⟩).bind λx7=>(dz ⟨b7,bX⟩).bind λx9=>(some (decide ((x7:Int)≠x9))).bind λdJ=>(bif dJ then(dz ⟨bu,bt⟩).bind λdj=>(dz ⟨b7,bX⟩).bind λdV=>(some (decide ((dj:Int)<dV))).bind λeN=>(bif eN then some (-1)else some 1)else(bY bt).bind λfj=>(bY bX).bind λgi=>(iq fj gi).bind λgQ=>(dz ⟨bu,bt⟩).bind λgO=>(some (decide ((gO:Int)<0))).bind λlO=>(bif lO then(some (IntKind.i64.wrap (0-gQ))).bind λgN=>some gN else some gQ))
noncomputable def kY(x0:Zr):Option (Zr):=match x0 with|⟨bu,bt⟩=>(some (!bu)).bind λx5=>(bY bt).bind λx8=>(dg x5 x8).bind λ⟨Jr,Js⟩=>some ⟨Jr,Js⟩
noncomputable def kZ(x0:Zr):Option (Zr):=match x0 with|⟨bu,bt⟩=>(bY bt).bind λx5=>(dg false x5).bind λ⟨wD,wE⟩=>some ⟨wD,wE⟩
noncomputable def jo(x0:Zr)(x1:Zr):Option (Zr×Zr×Int):=match x0 with|⟨bu,bt⟩=>match x1 with|⟨b7,bX⟩=>(bY bt).bind λkE=>(bY bX).bind λfE=>(some (fE.length:Int)).bind λfj=>(some (decide ((fj:Int)=0))).bind λjZ=>(bif jZ then some (⟨false,[]⟩,⟨false,[]⟩,7)else(jn kE fE).bind λ⟨xH,AP⟩=>cg (λ(j3:Bool×Bool)=>match j3 with|⟨Jt,rV⟩=>cg (λ(j5:(List Int)×(List Int))=>match j5 with|⟨It,Cu⟩=>(some (!(rV==b7))).bind λDG=>(dg DG It).bind λ⟨Cr,Cs⟩=>(dg false Cu).bind λ⟨Cv,Cw⟩=>some (⟨Cr,Cs⟩,⟨Cv,Cw⟩,0)) λK5=>(bif Jt then(jm xH [1]).bind λyO=>(ga fE AP).bind λlT=>K5 (yO,lT)else K5 (xH,AP))) λK3=>(bif bu then(some (AP.length:Int)).bind λiF=>(some (decide ((0:Int)<iF))).bind λl7=>some l7 else some false).bind λOi=>K3 (Oi,bu))
noncomputable def k7(x0:Zr)(x1:Zr):Option (Zr):=match x0 with|⟨bu,bt⟩=>match x1 with|⟨b7,bX⟩=>(bY bt).bind λfK=>(bY bX).bind λdV=>(b9 (λ(s6:(List Int)×(List Int))=>match s6 with|⟨lF,oR⟩=>(show Option (((List Int)×(List Int))⊕((List Int)))from(some (oR.length:Int)).bind λfE=>(some (decide ((0:Int)<fE))).bind λeM=>(bif eM then(jn lF oR).bind λ⟨Yh,P6⟩=>some (.inl (oR,P6))else some (.inr lF)))) (fK,dV)).bind λqO=>(dg false qO).bind λ⟨tg,rm⟩=>some ⟨tg,rm⟩
end
section
open Go.Fw Go.Fw.Z Go.RowKit
theorem dw{x0:List Int}{r:List Int}(h:cJ x0=some r):Pure ah 144 [slc 1 (List.map bG x0)] (slc 1 (List.map bG r)):=by
 refine aZ Tryz.func144 Y (af Y) (λdD M vs hvs=>?_);unfold cJ at h;refine sr<|aI Y (aB (n:=1) (e:=bG))<|dn<|sr<|mv Y<|lE h λx5 h5 h=>ln Y h5<|ag Y<|dn<|qq<|bE h λIz AR qK=>?_;refine bK (λ(Eo:Int)=>AS.ct 21 [(0,.sv (slc 1 (List.map bG x0))),(3,ai Eo)] [] []) (λEo=>Eo=Iz) ?_ (λEo AT=>?_);refine bj ?_;refine bL AR (λzS=>AS.ct 21 [(0,.sv (slc 1 (List.map bG x0))),(3,ai zS)] [] []) (wR []) (λtJ Ue Uf h AU xI=>?_)
 try dsimp only
 refine qq<|qq ?_;refine bC h (λIA=>AS.ct 21 [(0,.sv (slc 1 (List.map bG x0))),(3,ai tJ),(15,aj IA)] [] []) (λh=>?_) (λEn h=>?_);refine aW<|mv Y<|lE h λx7 h7 h=>gt _ Y Y h7<|mv Y<|bE h λJg ez h=>?_;cases x7;obtain rfl:=O (F ez);exact ww<|ww<|ww<|ww<|ww<|ww<|pF Y<|dn<|⟨false,h,wR []⟩;refine gm Y<|gm Y<|lE (V ez) λfK lH ez=>RT.sub (.some Y Y) _ Y Y T lH<|bE ez λdj fW ez=>RT.MW (.some Y Y) Y Y T fW<|gr Y Y<|lE ez λdV iJ ez=>Q6 _ Y Y (vD (p:=dj) (q:=0) iJ) ?_;obtain rfl:=O ez;exact pT Y<|dn<|⟨dV,h,wR []⟩
 try dsimp only
 refine aV.n ?_;cases En;refine cF<|bP<|aV.x<|aV.x<|bw.x<|aV.n ?_;obtain rfl:=O (F h);exact⟨tJ,xI _ Y,wR []⟩;refine cT<|bp<|aV.n<|bj<|aW<|mv Y<|lE (V h) λeM kg h=>sb _ Y Y kg<|ag Y<|RT.done<|bw.n ?_;obtain rfl:=O h;exact aV.n ⟨eM,AU _ Y,wR []⟩;subst AT
 try dsimp only
 refine aV.n<|sr<|mv Y<|mv Y<|bE qK λju oQ qK=>RT.rP .none 0 Eo Y Y ⟨_,Y⟩ T oQ<|ag Y<|dn<|bf ?_;obtain rfl:=O qK;exact R1 Y
theorem cS{x0:List Nat}{r:List Int}(h:bY x0=some r):Pure ah 119 [slc 1 (List.map aY x0)] (slc 1 (List.map bG r)):=by
 refine aZ Tryz.func119 Y (af Y) (λdD M vs hvs=>?_);unfold bY at h;refine sr<|aI Y (aB (n:=1) (e:=bG))<|dn<|sr<|ag Y<|dn<|bQ (gU 3 304 3 1 Y Y T)<|qq<|sr<|ag Y<|dn<|bE h λe6 ze jk=>?_;refine bK (λ(gy:(List Int))=>AS.ct 28 [(3,.row 306)] [] [(306,TR 3 1 bG gy)]) (λgy=>gy=e6) ?_ (λgy zf=>?_);refine bj ?_;refine bL ze (λs6=>AS.ct 28 [(0,.sv (slc 1 (List.map aY x0))),(3,.row 306),(4,ai s6.1)] [] [(306,TR 3 1 bG s6.2)]) (c8 (λi=>bif Nat.beq i 306 then 304 else i) Y Y Y Y Y ⟨.sv au,.row Y,.sv au,aq⟩ trivial ⟨⟨_,Y,ff.refl _⟩,aq⟩ (λi hi=>by rw[cD (show i≠306 by omega)];rfl)) (λs6 y6 G6 h zg uT=>?_);obtain⟨sj,ot⟩:=s6
 try dsimp only
 refine qq<|sr<|mv Y<|mv Y<|lE h λx7 h7 h=>ln Y h7<|lE h λx8 h8 h=>ls _ Y Y h8<|dn ?_;cases x8;refine cF<|bP<|aV.x<|aV.x<|bw.x<|aV.n ?_;obtain rfl:=O (F h);exact⟨ot,uT _ Y,wR []⟩;refine cT<|bp<|aV.n<|qq<|bj<|bh mixed<|mo (s:=.row _) Y<|mv Y<|mv Y<|bE (V h) λdV iJ h=>ix Y Y iJ<|lr Y Y<|lE h λfE iY h=>RT.rem .none _ Y Y T (by decide) (MV (a:=dV) (b:=65536) iY)<|lE h λeM kg h=>cv _ Y kg<|mv Y<|mv Y<|bE h λju oQ h=>ix Y Y oQ<|lr Y Y<|lE h λgQ nw h=>RT.quo .none _ Y Y T (by decide) (UK.RQ (a:=ju) (b:=65536) nw) ?_;refine lE h λgM oc h=>cv _ Y oc<|bl (l:=[eM,gM]) (e:=bG) (.one Y (.one Y (.nil))) Y Y Y Y Y Y<|bE h λlO oe h=>aR (k:=[eM,gM]) (e:=bG) Y Y Y oe<|an (s:=.row _) Y ?_;refine RT.done ⟨by kernel_rfl,?_⟩;refine bw.n<|aV.n<|aW<|mv Y<|lE h λdJ fZ h=>ad _ Y Y fZ<|ag Y<|RT.done ?_;obtain rfl:=O h;exact aV.n ⟨(dJ,lO),zg _ Y,c8 (λi=>bif Nat.beq i 306 then 25 else i) Y Y Y Y Y ⟨.sv au,.row Y,.sv au,aq⟩ trivial ⟨⟨_,Y,ff.refl _⟩,aq⟩ (λi hi=>by rw[cD (show i≠306 by omega)];rfl)⟩;subst zf
 try dsimp only
 refine aV.n<|qq<|bQ (cC (i:=306) (E1:=3) (n:=1) (e:=bG) (l:=gy) Y)<|aW<|mv Y<|bE jk λgN nc jk=>cl (dw nc) ⟨Y,aq⟩<|ag Y<|dn<|bf ?_;obtain rfl:=O jk;exact R1 Y
theorem ec{x0:List Int}{x1:Int}{r:Int}(h:dc x0 x1=some r):Pure ah 145 [slc 1 (List.map bG x0),ay x1] (ay r):=by
 refine aZ Tryz.func145 Y (af Y) (λdD M vs hvs=>?_);unfold dc at h;refine sr<|ag Y<|dn<|qq<|sr<|mv Y<|mv Y<|lE h λx7 h7 h=>ln Y h7<|lE h λx8 h8 h=>ls _ Y Y h8<|dn ?_;cases x8;refine fs<|sr<|ag Y<|dn<|bf ?_;obtain rfl:=O (F h);exact R1 Y;refine cT<|sr<|mv Y<|mv Y<|bE (V h) λfK lH h=>ix Y Y lH<|lr Y Y<|ag Y<|dn<|bf<|aV.r ?_;obtain rfl:=O h;exact R1 Y
theorem jq{x0:Bool}{x1:List Int}{r:Zr}(h:dg x0 x1=some r):Pure ah 118 [az x0,slc 1 (List.map bG x1)] (.agg (eZ r)):=by
 refine aZ Tryz.func118 Y (af Y) (λdD M vs hvs=>?_);unfold dg at h;refine sr<|al (cs:=[az false,ax]) (by exact⟨au,aB,aq⟩) Y<|dn<|sr<|mv Y<|bE h λx8 h8 h=>cl (dw h8) ⟨Y,aq⟩<|ag Y<|dn<|sr<|ag Y<|dn<|bQ (gU 5 304 106 1 Y Y T)<|qq<|sr<|ag Y<|dn<|bE h λe6 ze jk=>?_;refine bK (λ(gy:(List Nat))=>AS.ct 37 [(0,aj x0),(4,.ptr 4 0),(5,.row 306)] [(4,⟨34,[aj false,.sv ax]⟩)] [(306,TR 106 1 aY gy)]) (λgy=>gy=e6) ?_ (λgy zf=>?_);refine bj ?_;refine bL ze (λs6=>AS.ct 37 [(0,aj x0),(1,.sv (slc 1 (List.map bG x8))),(4,.ptr 4 0),(5,.row 306),(6,ai s6.1)] [(4,⟨34,[aj false,.sv ax]⟩)] [(306,TR 106 1 aY s6.2)]) (c8 (λi=>bif Nat.beq i 306 then 304 else i) Y Y Y Y Y ⟨.sv au,.sv au,.ptr,.row Y,.sv au,aq⟩ ⟨⟨_,Y,⟨.sv au,.sv au,aq⟩⟩,aq⟩ ⟨⟨_,Y,ff.refl _⟩,aq⟩ (λi hi=>by rw[cD (show i≠306 by omega)];rfl)) (λs6 y6 G6 h zg uT=>?_);obtain⟨oR,ot⟩:=s6
 try dsimp only
 refine qq<|sr<|mv Y<|mv Y<|lE h λfK lH h=>ln Y lH<|lE h λdj fW h=>ls _ Y Y fW<|dn ?_;cases dj;refine cF<|bP<|aV.x<|aV.x<|bw.x<|aV.n ?_;obtain rfl:=O (F h);exact⟨ot,uT _ Y,wR []⟩;refine cT<|bp<|aV.n<|qq<|bj<|aW<|mo (s:=.row _) Y<|mv Y<|mv Y<|bE (V h) λfj jT h=>cl (ec jT) ⟨Y,Y,aq⟩<|lE h λjZ mz h=>cv _ Y (UK.conv mz)<|mv Y<|mv Y<|lE h λgQ nw h=>ad _ Y Y nw<|bE h λgM oc h=>cl (ec oc) ⟨Y,Y,aq⟩<|lE h λgO oT h=>cv _ Y (UK.conv oT)<|lE h λlO oe h=>RT.mul .none _ Y Y T (UK.mul (a:=gO) (b:=65536) oe) ?_;refine lE h λkN rW h=>ad _ Y Y (UK.add (a:=jZ) (b:=lO) rW)<|bl (l:=[kN]) (e:=aY) (.one Y (.nil)) Y Y Y Y Y Y<|bE h λmR tv h=>aR (k:=[kN]) (e:=aY) Y Y Y tv<|an (s:=.row _) Y<|RT.done<|bw.n<|aV.n<|aW<|mv Y<|lE h λdV iJ h=>ad _ Y Y iJ<|ag Y<|RT.done ?_;obtain rfl:=O h;exact aV.n ⟨(dV,mR),zg _ Y,c8 (λi=>bif Nat.beq i 306 then 28 else i) Y Y Y Y Y ⟨.sv au,.sv au,.ptr,.row Y,.sv au,aq⟩ ⟨⟨_,Y,⟨.sv au,.sv au,aq⟩⟩,aq⟩ ⟨⟨_,Y,ff.refl _⟩,aq⟩ (λi hi=>by rw[cD (show i≠306 by omega)];rfl)⟩;subst zf
 try dsimp only
 refine aV.n<|qq ?_;refine bC jk (λj9=>AS.ct 37 [(4,.ptr 4 0)] [(4,⟨34,[aj j9,.sv (slc 1 (List.map aY gy))]⟩)] []) (λjk=>?_) (λJh jk=>?_);refine bQ (cC (i:=306) (E1:=106) (n:=1) (e:=aY) (l:=gy) Y)<|aW<|mv Y<|mv Y<|bE jk λJi GQ jk=>?_;cases x0;obtain rfl:=O (F GQ);exact ww<|ww<|ww<|pF Y<|mv Y<|bI (cs:=[_,_]) (cs':=[az false,slc 1 (List.map aY gy)]) (.one Y (.one Y (.nil))) ⟨au,au,aq⟩<|so Y Y Y<|dn<|⟨false,jk,wR []⟩;refine gm Y<|lE (V GQ) λiF nx GQ=>gn Y nx<|lE GQ λl7 uA GQ=>gg _ Y Y uA ?_;obtain rfl:=O GQ;exact pT Y<|mv Y<|bI (cs:=[_,_]) (cs':=[az l7,slc 1 (List.map aY gy)]) (.one Y (.one Y (.nil))) ⟨au,au,aq⟩<|so Y Y Y<|dn<|⟨l7,jk,wR []⟩
 try dsimp only
 refine aV.n<|bf ?_;obtain rfl:=O jk;exact RZ (.agg Y Y (.k2 Y Y) Y (.nil))
theorem pY{x0:Zr}{r:Zr}(h:fG x0=some r):Pure ah 89 [.agg (eZ x0)] (.agg (eZ r)):=by
 obtain⟨bu,bt⟩:=x0;refine aZ Tryz.func89 Y (af Y) (λdD M vs hvs=>?_);unfold fG at h;refine sr<|bx Y<|al (cs:=[az false,ax]) (by exact⟨au,aB,aq⟩) Y<|dn<|qq<|bh mixed<|fa Y Y<|lV Y Y Y<|fa Y Y<|lV Y Y Y<|bE h λx7 h7 h=>cl (cS h7) ⟨Y,aq⟩ ?_;obtain⟨⟨uY,uZ⟩,h8,h⟩:=bS h;refine cl (jq h8) ⟨Y,Y,aq⟩<|so Y Y Y ?_;refine RT.done ⟨by kernel_rfl,?_⟩;refine aV.n<|bf ?_;obtain rfl:=O h;exact RZ (.agg Y Y (.k2 Y Y) Y (.nil))
theorem kG{x0:Int}{r:Zr}(h:fB x0=some r):Pure ah 49 [ay x0] (.agg (eZ r)):=by
 refine aZ Tryz.func49 Y (af Y) (λdD M vs hvs=>?_);unfold fB at h;refine sr<|al (cs:=[az false,ax]) (by exact⟨au,aB,aq⟩) Y<|dn<|sr<|mv Y<|lE h λx5 h5 h=>cv _ Y (UK.conv h5)<|ag Y<|dn<|qq<|sr<|mv Y<|lE h λx7 h7 h=>ls _ Y Y h7<|dn ?_;refine bC h (λj2=>AS.ct 21 [(0,ai x0),(2,.ptr 2 0),(3,.sv (.v (.int .u64 ((j2:Nat):Int))))] [(2,⟨34,[aj false,.sv ax]⟩)] []) (λh=>?_) (λCq h=>?_);cases x7;exact fs<|⟨x5,(F h),wR []⟩;exact cT<|aW<|mv Y<|lE (V h) λx9 h9 h=>RT.neg .none _ Y T (UK.neg h9)<|ag Y<|dn<|⟨x9,h,wR []⟩
 try dsimp only
 refine aV.n<|sr<|mv Y<|lE h λfK lH h=>ls _ Y Y lH<|mv Y<|lE h λkE mS h=>RT.rem .none _ Y Y T (by decide) (MV (a:=Cq) (b:=4294967296) mS)<|lE h λdV iJ h=>cv _ Y (UK.nat iJ)<|mv Y<|lE h λfE iY h=>RT.quo .none _ Y Y T (by decide) (UK.RQ (a:=Cq) (b:=4294967296) iY)<|lE h λeM kg h=>cv _ Y (UK.nat kg)<|bl (l:=[dV,eM]) (e:=aY) (.one Y (.one Y (.nil))) Y Y Y Y Y Y<|bI (cs:=[_,_]) (cs':=[az fK,slc 1 (List.map aY [dV,eM])]) (.one Y (.one Y (.nil))) ⟨au,au,aq⟩ ?_;obtain⟨⟨CG,CH⟩,oQ,h⟩:=bS h;refine cl (pY oQ) ⟨Y,aq⟩<|so Y Y Y<|dn<|bf ?_;obtain rfl:=O h;exact RZ (.agg Y Y (.k2 Y Y) Y (.nil))
end
section
open Go.Fw Go.Fw.Z Go.RowKit
theorem tK{x0:List Int}{x1:List Int}{r:Int}(h:iq x0 x1=some r):Pure ah 154 [slc 1 (List.map bG x0),slc 1 (List.map bG x1)] (ay r):=by
 refine aZ Tryz.func154 Y (af Y) (λdD M vs hvs=>?_);unfold iq at h;refine sr<|ag Y<|dn<|qq<|sr<|mv Y<|lE h λx7 h7 h=>ln Y h7<|mv Y<|lE h λx9 h9 h=>ln Y h9<|lE h λdJ fZ h=>RT.max .none _ Y Y T (Lc (p:=x7) (q:=x9) fZ)<|lE h λfK lH h=>sb _ Y Y lH<|ag Y<|dn<|bE h λe6 ze jk=>?_;refine bK (λ(Eb:Unit)=>AS.ct 30 [] [] []) (λEb=>.inl Eb=e6) ?_ (λEb zf=>?_);refine bj ?_;refine bL ze (λs6=>AS.ct 30 [(0,.sv (slc 1 (List.map bG x0))),(1,.sv (slc 1 (List.map bG x1))),(5,ai s6)] [] []) (wR []) (λlF y6 G6 h zg uT=>?_)
 try dsimp only
 refine qq<|sr<|mv Y<|lE h λkE mS h=>ge _ Y Y mS<|dn ?_;cases kE;refine cF<|bP<|aV.x<|aV.x<|bw.x<|aV.n ?_;obtain rfl:=O (F h);exact⟨(),uT _ Y,wR []⟩;refine cT<|bp<|aV.n<|qq<|bj<|qq<|sr<|mv Y<|mv Y<|bE (V h) λfj jT h=>cl (ec jT) ⟨Y,Y,aq⟩<|mv Y<|mv Y<|bE h λgi mU h=>cl (ec mU) ⟨Y,Y,aq⟩<|lE h λgQ nw h=>ls _ Y Y nw<|dn ?_;cases gQ;refine fs<|sr<|mv Y<|mv Y<|bE (F h) λlO oe h=>cl (ec oe) ⟨Y,Y,aq⟩<|mv Y<|mv Y<|bE h λmR tv h=>cl (ec tv) ⟨Y,Y,aq⟩<|lE h λgR l8 h=>gt _ Y Y l8<|dn ?_;cases gR;refine cF<|bp<|bw.n<|aV.n<|aW<|mv Y<|lE (F h) λeN jy h=>sb _ Y Y jy<|ag Y<|RT.done ?_;obtain rfl:=O h;exact aV.n ⟨eN,zg _ Y,wR []⟩;refine cT<|sr<|ag Y<|dn<|bf<|bw.r<|aV.r ?_;obtain rfl:=O (V h);have IB:=uT _ Y;subst IB;refine aV.r<|bw.r<|aV.r<|aV.r ?_;obtain rfl:=O jk;exact R1 Y;refine cT<|sr<|ag Y<|dn<|bf<|aV.r<|bw.r<|aV.r ?_;obtain rfl:=O (V h);have IB:=uT _ Y;subst IB;refine aV.r<|bw.r<|aV.r<|aV.r ?_;obtain rfl:=O jk;exact R1 Y;subst zf
 try dsimp only
 refine aV.n<|sr<|ag Y<|dn<|bf ?_;obtain rfl:=O jk;exact R1 Y
theorem Ba{x0:List Int}{x1:List Int}{r:List Int}(h:jm x0 x1=some r):Pure ah 152 [slc 1 (List.map bG x0),slc 1 (List.map bG x1)] (slc 1 (List.map bG r)):=by
 refine aZ Tryz.func152 Y (af Y) (λdD M vs hvs=>?_);unfold jm at h;refine sr<|aI Y (aB (n:=1) (e:=bG))<|dn<|sr<|ag Y<|dn<|bQ (gU 5 304 3 1 Y Y T)<|sr<|ag Y<|dn<|qq<|sr<|ag Y<|dn<|bE h λLG Ex Bb=>?_;refine bK (λ(ou:(List Int))=>AS.ct 43 [(5,.row 306)] [] [(306,TR 3 1 bG ou)]) (λou=>ou=LG) ?_ (λou Bc=>?_);refine bj ?_;refine bL Ex (λJj=>AS.ct 43 [(0,.sv (slc 1 (List.map bG x0))),(1,.sv (slc 1 (List.map bG x1))),(5,.row 306),(6,ai Jj.1),(7,ai Jj.2.1)] [] [(306,TR 3 1 bG Jj.2.2)]) (c8 (λi=>bif Nat.beq i 306 then 304 else i) Y Y Y Y Y ⟨.sv au,.sv au,.row Y,.sv au,.sv au,aq⟩ trivial ⟨⟨_,Y,ff.refl _⟩,aq⟩ (λi hi=>by rw[cD (show i≠306 by omega)];rfl)) (λJj y16 G16 h Ju Ey=>?_);obtain⟨LB,Ep,yh⟩:=Jj
 try dsimp only
 refine qq<|qq ?_;refine bC h (λTa=>AS.ct 43 [(0,.sv (slc 1 (List.map bG x0))),(1,.sv (slc 1 (List.map bG x1))),(5,.row 306),(6,ai LB),(7,ai Ep),(22,aj Ta)] [] [(306,TR 3 1 bG yh)]) (λh=>?_) (λEr h=>?_);refine aW<|mv Y<|mv Y<|lE h λfK lH h=>ln Y lH<|lE h λdj fW h=>ls _ Y Y fW<|mv Y<|bE h λEm jb h=>?_;cases dj;refine gm Y<|gm Y<|lE (F jb) λfE iY jb=>gn Y iY<|lE jb λeM kg jb=>RT.lss (.some Y Y) _ Y Y T kg ?_;obtain rfl:=O jb;refine pF Y<|mv Y<|bE h λYi kz h=>?_;cases eM;refine gm Y<|lE (F kz) λgi mU kz=>gg _ Y Y mU ?_;obtain rfl:=O kz;exact pF Y<|dn<|⟨gi,h,wR []⟩;obtain rfl:=O (V kz);exact ww<|ww<|pT Y<|dn<|⟨true,h,wR []⟩;obtain rfl:=O (V jb);refine ww<|ww<|ww<|ww<|pT Y<|mv Y<|bE h λYj zx h=>?_;obtain rfl:=O (V zx);exact ww<|ww<|pT Y<|dn<|⟨true,h,wR []⟩
 try dsimp only
 refine aV.n ?_;cases Er;refine cF<|bP<|aV.x<|aV.x<|bw.x<|aV.n ?_;obtain rfl:=O (F h);exact⟨yh,Ey _ Y,wR []⟩;refine cT<|bp<|aV.n<|qq<|bj<|sr<|mv Y<|mv Y<|bE (V h) λgN nc h=>cl (ec nc) ⟨Y,Y,aq⟩<|mv Y<|mv Y<|bE h λuO zh h=>cl (ec zh) ⟨Y,Y,aq⟩<|lE h λoG wQ h=>ad _ Y Y wQ<|mv Y<|lE h λl7 uA h=>ad _ Y Y uA<|ag Y<|dn<|sr<|mo (s:=.row _) Y<|mv Y<|lE h λsD wj h=>?_;refine RT.rem .none _ Y Y T (by decide) wj<|bl (l:=[sD]) (e:=bG) (.one Y (.nil)) Y Y Y Y Y Y<|bE h λsy Cy h=>aR (k:=[sD]) (e:=bG) Y Y Y Cy<|an (s:=.row _) Y<|dn<|aW<|mv Y<|lE h λlT rz h=>RT.quo .none _ Y Y T (by decide) rz<|ag Y<|RT.done<|bw.n<|aV.n<|aW<|mv Y<|lE h λgO oT h=>ad _ Y Y oT<|ag Y<|RT.done ?_;obtain rfl:=O h;exact aV.n ⟨(lT,gO,sy),Ju _ Y,c8 (λi=>bif Nat.beq i 306 then 38 else i) Y Y Y Y Y ⟨.sv au,.sv au,.row Y,.sv au,.sv au,aq⟩ trivial ⟨⟨_,Y,ff.refl _⟩,aq⟩ (λi hi=>by rw[cD (show i≠306 by omega)];rfl)⟩;subst Bc
 try dsimp only
 refine aV.n<|qq<|bQ (cC (i:=306) (E1:=3) (n:=1) (e:=bG) (l:=ou) Y)<|aW<|mv Y<|bE Bb λo8 AW Bb=>cl (dw AW) ⟨Y,aq⟩<|ag Y<|dn<|bf ?_;obtain rfl:=O Bb;exact R1 Y
theorem tL{x0:List Int}{x1:List Int}{r:List Int}(h:ga x0 x1=some r):Pure ah 153 [slc 1 (List.map bG x0),slc 1 (List.map bG x1)] (slc 1 (List.map bG r)):=by
 refine aZ Tryz.func153 Y (af Y) (λdD M vs hvs=>?_);unfold ga at h;refine sr<|aI Y (aB (n:=1) (e:=bG))<|dn<|sr<|ag Y<|dn<|bQ (gU 5 304 3 1 Y Y T)<|sr<|ag Y<|dn<|qq<|sr<|ag Y<|dn<|bE h λe8 Cz tB=>?_;refine bK (λ(nv:(List Int))=>AS.ct 34 [(5,.row 306)] [] [(306,TR 3 1 bG nv)]) (λnv=>nv=e8) ?_ (λnv CA=>?_);refine bj ?_;refine bL Cz (λs8=>AS.ct 34 [(0,.sv (slc 1 (List.map bG x0))),(1,.sv (slc 1 (List.map bG x1))),(5,.row 306),(6,ai s8.1),(7,ai s8.2.1)] [] [(306,TR 3 1 bG s8.2.2)]) (c8 (λi=>bif Nat.beq i 306 then 304 else i) Y Y Y Y Y ⟨.sv au,.sv au,.row Y,.sv au,.sv au,aq⟩ trivial ⟨⟨_,Y,ff.refl _⟩,aq⟩ (λi hi=>by rw[cD (show i≠306 by omega)];rfl)) (λs8 y8 G8 h CB CC=>?_);obtain⟨Co,GP,nu⟩:=s8
 try dsimp only
 refine qq<|sr<|mv Y<|mv Y<|lE h λfK lH h=>ln Y lH<|lE h λdj fW h=>ls _ Y Y fW<|dn ?_;cases dj;refine cF<|bP<|aV.x<|aV.x<|bw.x<|aV.n ?_;obtain rfl:=O (F h);exact⟨nu,CC _ Y,wR []⟩;refine cT<|bp<|aV.n<|qq<|bj<|sr<|mv Y<|mv Y<|bE (V h) λeM kg h=>cl (ec kg) ⟨Y,Y,aq⟩<|mv Y<|mv Y<|bE h λju oQ h=>cl (ec oQ) ⟨Y,Y,aq⟩<|lE h λgi mU h=>sb _ Y Y mU<|mv Y<|lE h λgM oc h=>sb _ Y Y oc<|ag Y<|dn<|sr<|ag Y<|dn<|qq<|sr<|mv Y<|lE h λlO oe h=>?_;refine ls _ Y Y oe<|dn ?_;refine bC h (λOf=>AS.ct 34 [(0,.sv (slc 1 (List.map bG x0))),(1,.sv (slc 1 (List.map bG x1))),(5,.row 306),(6,ai Of.1),(7,ai GP),(8,ai Of.2)] [] [(306,TR 3 1 bG nu)]) (λh=>?_) (λOf h=>?_);cases lO;exact fs<|⟨(0,gM),(F h),wR []⟩;exact cT<|sr<|mv Y<|lE (V h) λgN nc h=>ad _ Y Y nc<|ag Y<|dn<|aW<|ag Y<|dn<|⟨(1,gN),h,wR []⟩;obtain⟨P3,LC⟩:=Of
 try dsimp only
 refine aV.n<|aW<|mo (s:=.row _) Y<|mv Y<|bl (l:=[LC]) (e:=bG) (.one Y (.nil)) Y Y Y Y Y Y<|bE h λoG wQ h=>aR (k:=[LC]) (e:=bG) Y Y Y wQ<|an (s:=.row _) Y<|RT.done<|bw.n<|aV.n<|aW<|mv Y<|lE h λdV iJ h=>ad _ Y Y iJ<|ag Y<|RT.done ?_;obtain rfl:=O h;exact aV.n ⟨(P3,dV,oG),CB _ Y,c8 (λi=>bif Nat.beq i 306 then 31 else i) Y Y Y Y Y ⟨.sv au,.sv au,.row Y,.sv au,.sv au,aq⟩ trivial ⟨⟨_,Y,ff.refl _⟩,aq⟩ (λi hi=>by rw[cD (show i≠306 by omega)];rfl)⟩;subst CA
 try dsimp only
 refine aV.n<|qq<|bQ (cC (i:=306) (E1:=3) (n:=1) (e:=bG) (l:=nv) Y)<|aW<|mv Y<|bE tB λl7 uA tB=>cl (dw uA) ⟨Y,aq⟩<|ag Y<|dn<|bf ?_;obtain rfl:=O tB;exact R1 Y
theorem jI{x0:List Int}{r:Int}(h:eH x0=some r):Pure ah 162 [slc 1 (List.map bG x0)] (ay r):=by
 refine aZ Tryz.func162 Y (af Y) (λdD M vs hvs=>?_);unfold eH at h;refine sr<|ag Y<|dn<|sr<|ag Y<|dn<|qq<|sr<|mv Y<|lE h λx6 h6 h=>ln Y h6<|lE h λx7 h7 h=>sb _ Y Y h7<|ag Y<|dn<|bE h λe6 ze jk=>?_;refine bK (λ(nK:Int)=>AS.ct 20 [(3,ai nK)] [] []) (λnK=>nK=e6) ?_ (λnK zf=>?_);refine bj ?_;refine bL ze (λs6=>AS.ct 20 [(0,.sv (slc 1 (List.map bG x0))),(3,ai s6.1),(4,ai s6.2)] [] []) (wR []) (λs6 y6 G6 h zg uT=>?_);obtain⟨kU,sj⟩:=s6
 try dsimp only
 refine qq<|sr<|mv Y<|lE h λx9 h9 h=>ge _ Y Y h9<|dn ?_;cases x9;refine cF<|bP<|aV.x<|aV.x<|bw.x<|aV.n ?_;obtain rfl:=O (F h);exact⟨kU,uT _ Y,wR []⟩;refine cT<|bp<|aV.n<|qq<|bj<|aW<|mv Y<|lE (V h) λkE mS h=>RT.mul .none _ Y Y T mS<|mv Y<|mv Y<|bE h λfE iY h=>ix Y Y iY<|lr Y Y<|lE h λfj jT h=>ad _ Y Y jT<|ag Y<|RT.done<|bw.n<|aV.n<|aW<|mv Y<|lE h λfK lH h=>sb _ Y Y lH<|ag Y<|RT.done ?_;obtain rfl:=O h;exact aV.n ⟨(fj,fK),zg _ Y,wR []⟩;subst zf
 try dsimp only
 refine aV.n<|sr<|mv Y<|ag Y<|dn<|bf ?_;obtain rfl:=O jk;exact R1 Y
theorem rE{x0:Int}{r:List Int}(h:iA x0=some r):Pure ah 161 [ay x0] (slc 1 (List.map bG r)):=by
 refine aZ Tryz.func161 Y (af Y) (λdD M vs hvs=>?_);unfold iA at h;refine sr<|aI Y (aB (n:=1) (e:=bG))<|dn<|sr<|mv Y<|lE h λx4 h4 h=>RT.rem .none _ Y Y T (by decide) h4<|mv Y<|lE h λx6 h6 h=>RT.quo .none _ Y Y T (by decide) h6<|lE h λx7 h7 h=>RT.rem .none _ Y Y T (by decide) h7<|mv Y<|lE h λx9 h9 h=>RT.quo .none _ Y Y T (by decide) h9<|lE h λdJ fZ h=>RT.quo .none _ Y Y T (by decide) fZ<|bl (l:=[x4,x7,dJ]) (e:=bG) (.one Y (.one Y (.one Y (.nil)))) Y Y Y Y Y Y ?_;refine bE h λdj fW h=>cl (dw fW) ⟨Y,aq⟩<|ag Y<|dn<|bf ?_;obtain rfl:=O h;exact R1 Y
theorem pZ{x0:List Int}{x1:Int}{r:List Int}(h:eI x0 x1=some r):Pure ah 163 [slc 1 (List.map bG x0),ay x1] (slc 1 (List.map bG r)):=by
 refine aZ Tryz.func163 Y (af Y) (λdD M vs hvs=>?_);unfold eI at h;refine sr<|aI Y (aB (n:=1) (e:=bG))<|dn<|sr<|ag Y<|dn<|bQ (gU 5 304 3 1 Y Y T)<|sr<|ag Y<|dn<|qq<|sr<|ag Y<|dn<|bE h λIz AR qK=>?_;refine bK (λ(sn:(List Int))=>AS.ct 35 [(5,.row 306)] [] [(306,TR 3 1 bG sn)]) (λsn=>sn=Iz) ?_ (λsn AT=>?_);refine bj ?_;refine bL AR (λzS=>AS.ct 35 [(0,.sv (slc 1 (List.map bG x0))),(1,ai x1),(5,.row 306),(6,ai zS.1),(7,ai zS.2.1)] [] [(306,TR 3 1 bG zS.2.2)]) (c8 (λi=>bif Nat.beq i 306 then 304 else i) Y Y Y Y Y ⟨.sv au,.sv au,.row Y,.sv au,.sv au,aq⟩ trivial ⟨⟨_,Y,ff.refl _⟩,aq⟩ (λi hi=>by rw[cD (show i≠306 by omega)];rfl)) (λzS Ue Uf h AU xI=>?_);obtain⟨LD,Jk,yj⟩:=zS
 try dsimp only
 refine qq<|qq ?_;refine bC h (λIA=>AS.ct 35 [(0,.sv (slc 1 (List.map bG x0))),(1,ai x1),(5,.row 306),(6,ai LD),(7,ai Jk),(16,aj IA)] [] [(306,TR 3 1 bG yj)]) (λh=>?_) (λEs h=>?_);refine aW<|mv Y<|mv Y<|lE h λfK lH h=>ln Y lH<|lE h λdj fW h=>ls _ Y Y fW<|mv Y<|bE h λJl ez h=>?_;cases dj;refine gm Y<|lE (F ez) λeN jy ez=>gg _ Y Y jy ?_;obtain rfl:=O ez;exact pF Y<|dn<|⟨eN,h,wR []⟩;obtain rfl:=O (V ez);exact ww<|ww<|pT Y<|dn<|⟨true,h,wR []⟩
 try dsimp only
 refine aV.n ?_;cases Es;refine cF<|bP<|aV.x<|aV.x<|bw.x<|aV.n ?_;obtain rfl:=O (F h);exact⟨yj,xI _ Y,wR []⟩;refine cT<|bp<|aV.n<|qq<|bj<|sr<|mv Y<|mv Y<|bE (V h) λgi mU h=>cl (ec mU) ⟨Y,Y,aq⟩<|mv Y<|lE h λgM oc h=>RT.mul .none _ Y Y T oc<|mv Y<|lE h λlO oe h=>ad _ Y Y oe<|ag Y<|dn<|sr<|mo (s:=.row _) Y<|mv Y<|lE h λmR tv h=>RT.rem .none _ Y Y T (by decide) tv<|bl (l:=[mR]) (e:=bG) (.one Y (.nil)) Y Y Y Y Y Y ?_;refine bE h λuO zh h=>aR (k:=[mR]) (e:=bG) Y Y Y zh<|an (s:=.row _) Y<|dn<|aW<|mv Y<|lE h λiF nx h=>RT.quo .none _ Y Y T (by decide) nx<|ag Y<|RT.done<|bw.n<|aV.n<|aW<|mv Y<|lE h λfj jT h=>ad _ Y Y jT<|ag Y<|RT.done ?_;obtain rfl:=O h;exact aV.n ⟨(iF,fj,uO),AU _ Y,c8 (λi=>bif Nat.beq i 306 then 30 else i) Y Y Y Y Y ⟨.sv au,.sv au,.row Y,.sv au,.sv au,aq⟩ trivial ⟨⟨_,Y,ff.refl _⟩,aq⟩ (λi hi=>by rw[cD (show i≠306 by omega)];rfl)⟩;subst AT
 try dsimp only
 refine aV.n<|qq<|bQ (cC (i:=306) (E1:=3) (n:=1) (e:=bG) (l:=sn) Y)<|aW<|mv Y<|bE qK λmQ qL qK=>cl (dw qL) ⟨Y,aq⟩<|ag Y<|dn<|bf ?_;obtain rfl:=O qK;exact R1 Y
set_option maxHeartbeats 4000000 in
theorem tN{x0:List Int}{x1:List Int}{r:(List Int)×(List Int)}(h:jn x0 x1=some r):Pure ah 151 [slc 1 (List.map bG x0),slc 1 (List.map bG x1)] (.yN [slc 1 (List.map bG r.1),slc 1 (List.map bG r.2)]):=by
 refine aZ Tryz.func151 Y (af Y) (λdD M vs hvs=>?_);unfold jn at h;refine sr<|aI Y (aB (n:=1) (e:=bG))<|aI Y (aB (n:=1) (e:=bG))<|dn<|qq<|qq ?_;refine bC h (λj3=>AS.ct 120 [(0,.sv (slc 1 (List.map bG x0))),(1,.sv (slc 1 (List.map bG x1))),(21,aj j3)] [] []) (λh=>?_) (λJm h=>?_);refine aW<|mv Y<|lE h λeN jy h=>ln Y jy<|lE h λfE iY h=>RT.leq .none _ Y Y T iY<|mv Y<|bE h λJq C4 h=>?_;cases fE;obtain rfl:=O (F C4);exact ww<|ww<|ww<|pF Y<|dn<|⟨false,h,wR []⟩;refine gm Y<|lE (V C4) λjZ mz C4=>gn Y mz<|lE C4 λju oQ C4=>RT.leq (.some Y Y) _ Y Y T oQ ?_;obtain rfl:=O C4;exact pT Y<|dn<|⟨ju,h,wR []⟩
 try dsimp only
 refine aV.n ?_;cases Jm;refine fs<|sr<|mv Y<|lE (F h) λrj zj h=>ln Y zj<|bE h λsD wj h=>RT.qY (n:=1) (e:=bG) .none Y Y T Y T (by rfl) (by decide) (by exact⟨au,aq⟩) wj<|an (s:=.row _) Y<|dn<|qq<|sr<|mv Y<|lE h λsy Cy h=>ln Y Cy<|lE h λoP CD h=>eq _ Y Y (vD (p:=sy) (q:=1) CD)<|dn ?_;cases oP;refine fs<|sr<|aI Y (aB (n:=1) (e:=bG))<|dn<|qq<|sr<|mv Y<|lE (F h) λx73 h73 h=>ln Y h73<|lE h λLq SJ h=>sb _ Y Y SJ<|ag Y<|dn<|bE h λYg Yk P7=>?_;refine bK (λ(GR:(List Int)×(List Int))=>AS.ct 120 [(6,.row 36),(9,.sv (slc 1 (List.map bG GR.1)))] [] [(36,TR 3 1 bG GR.2)]) (λGR=>GR=Yg) ?_ (λGR Yl=>?_);refine bj ?_;refine bL Yk (λP5=>AS.ct 120 [(0,.sv (slc 1 (List.map bG x0))),(1,.sv (slc 1 (List.map bG x1))),(6,.row 36),(9,.sv (slc 1 (List.map bG P5.1))),(10,ai P5.2.1)] [] [(36,TR 3 1 bG P5.2.2)]) (wR []) (λP5 y44 G44 h Ym Yn=>?_);obtain⟨C3,ow,oy⟩:=P5
 try dsimp only
 refine qq<|sr<|mv Y<|lE h λYc h76 h=>ge _ Y Y h76<|dn ?_;cases Yc;refine cF<|bP<|aV.x<|aV.x<|bw.x<|aV.n ?_;obtain rfl:=O (F h);exact⟨(C3,oy),Yn _ Y,wR []⟩;refine cT<|bp<|aV.n<|qq<|bj<|sr<|mv Y<|mv Y<|bE (V h) λYd h81 h=>ix Y Y h81<|lr Y Y<|RT.AF (l:=[Yd]) (e:=bG) .none (.one Y (.nil)) T Y T Y Y Y Y Y Y<|mv Y<|bE h λSf Ww h=>RT.Le (k:=C3) (e:=bG) .none Y Y Y T Y T Ww<|bE h λIq Wy h=>cl (dw Wy) ⟨Y,aq⟩<|ag Y<|dn<|sr<|ag Y<|ag Y ?_;refine dn<|qq<|sr<|mv Y<|lE h λx88 h88 h=>ln Y h88<|mv Y<|lE h λSg Wz h=>ln Y Wz<|lE h λPk WA h=>ls _ Y Y WA<|dn ?_;refine bC h (λj46=>AS.ct 120 [(0,.sv (slc 1 (List.map bG x0))),(1,.sv (slc 1 (List.map bG x1))),(6,.row 36),(9,.sv (slc 1 (List.map bG Iq))),(10,ai ow),(11,ai 0),(12,ai j46)] [] [(36,TR 3 1 bG oy)]) (λh=>?_) (λJo h=>?_);cases Pk;exact fs<|⟨65536,(F h),wR []⟩;exact cT<|aW<|ag Y<|dn<|⟨1,(V h),wR []⟩
 try dsimp only
 refine aV.n<|qq<|bE h λe54 Yo ym=>?_;refine bK (λ(pX:Int)=>AS.ct 120 [(0,.sv (slc 1 (List.map bG x0))),(1,.sv (slc 1 (List.map bG x1))),(6,.row 36),(9,.sv (slc 1 (List.map bG Iq))),(10,ai ow),(11,ai pX)] [] [(36,TR 3 1 bG oy)]) (λpX=>pX=e54) ?_ (λpX Yp=>?_);refine bj ?_;refine bL Yo (λOg=>AS.ct 120 [(0,.sv (slc 1 (List.map bG x0))),(1,.sv (slc 1 (List.map bG x1))),(6,.row 36),(9,.sv (slc 1 (List.map bG Iq))),(10,ai ow),(11,ai Og.1),(12,ai Og.2)] [] [(36,TR 3 1 bG oy)]) (wR []) (λOg y54 G54 h Yq Yr=>?_);obtain⟨jH,mF⟩:=Og
 try dsimp only
 refine qq<|sr<|mv Y<|mv Y<|lE h λx94 h94 h=>sb _ Y Y h94<|lE h λYe h95 h=>gt _ Y Y h95<|dn ?_;cases Ye;refine cF<|bP<|aV.x<|aV.x<|bw.x<|aV.n ?_;obtain rfl:=O (F h);exact⟨jH,Yr _ Y,wR []⟩;refine cT<|bp<|aV.n<|bj<|sr<|mv Y<|mv Y<|lE (V h) λx98 h98 h=>ad _ Y Y h98<|lE h λRi h99 h=>RT.quo .none _ Y Y T (by decide) h99<|ag Y<|dn<|sr<|mv Y<|mv Y<|bE h λD5 PA h=>cl (pZ PA) ⟨Y,Y,aq⟩<|mv Y<|bE h λD6 PB h=>cl (tK PB) ⟨Y,Y,aq⟩<|lE h λGs PC h=>RT.leq .none _ Y Y T PC<|dn ?_;refine bC h (λRj=>AS.ct 120 [(0,.sv (slc 1 (List.map bG x0))),(1,.sv (slc 1 (List.map bG x1))),(6,.row 36),(9,.sv (slc 1 (List.map bG Iq))),(10,ai ow),(11,ai Rj.1),(12,ai Rj.2)] [] [(36,TR 3 1 bG oy)]) (λh=>?_) (λRj h=>?_);cases Gs;exact cF<|aW<|mv Y<|ag Y<|dn<|⟨(jH,Ri),(F h),wR []⟩;exact cT<|aW<|mv Y<|ag Y<|dn<|⟨(Ri,mF),(V h),wR []⟩;obtain⟨Eu,Ev⟩:=Rj
 try dsimp only
 refine bw.n ?_;obtain rfl:=O h;exact aV.n ⟨(Eu,Ev),Yq _ Y,wR []⟩;subst Yp
 try dsimp only
 refine aV.n<|aW<|mo (s:=.row _) Y<|mv Y<|mv Y<|mv Y<|mv Y<|mv Y<|bE ym λD7 PD ym=>cl (pZ PD) ⟨Y,Y,aq⟩<|bE ym λJp Ys ym=>cl (tL Ys) ⟨Y,Y,aq⟩<|bE ym λLF Yt ym=>iR Y Y Y Yt<|bE ym λS8 Tb ym=>sR pX Y Y Y Y Tb<|ag Y<|RT.done<|bw.n<|aV.n<|aW<|mv Y<|lE ym λYf h78 ym=>?_;refine sb _ Y Y h78<|ag Y<|RT.done ?_;obtain rfl:=O ym;exact aV.n ⟨(Jp,Yf,S8),Ym _ Y,wR []⟩;subst Yl;obtain⟨Oh,Ew⟩:=GR
 try dsimp only
 refine aV.n<|qq<|bQ (cC (i:=36) (E1:=3) (n:=1) (e:=bG) (l:=Ew) Y)<|aW<|mv Y<|bE P7 λS9 Yu P7=>cl (dw Yu) ⟨Y,aq⟩<|mv Y<|ag Y<|ag Y<|dn<|bf ?_;obtain rfl:=O P7;exact R2 Y Y;refine cT<|sr<|ag Y<|dn<|qq<|sr<|mv Y<|lE (V h) λwO Gw h=>ln Y Gw<|lE h λo8 AW h=>sb _ Y Y AW<|ag Y<|dn<|bE h λYb Yv Jv=>?_;refine bK (λ(GS:Int×(List Int))=>AS.ct 120 [(6,.row 36),(7,ai GS.1)] [] [(36,TR 3 1 bG GS.2)]) (λGS=>GS=Yb) ?_ (λGS Yw=>?_);refine bj ?_;refine bL Yv (λP4=>AS.ct 120 [(0,.sv (slc 1 (List.map bG x0))),(1,.sv (slc 1 (List.map bG x1))),(6,.row 36),(7,ai P4.1),(8,ai P4.2.1)] [] [(36,TR 3 1 bG P4.2.2)]) (wR []) (λP4 y18 G18 h Yx Yy=>?_);obtain⟨Fv,C2,yl⟩:=P4
 try dsimp only
 refine qq<|sr<|mv Y<|lE h λza Gz h=>ge _ Y Y Gz<|dn ?_;cases za;refine cF<|bP<|aV.x<|aV.x<|bw.x<|aV.n ?_;obtain rfl:=O (F h);exact⟨(Fv,yl),Yy _ Y,wR []⟩;refine cT<|bp<|aV.n<|qq<|bj<|sr<|mv Y<|lE (V h) λy4 h48 h=>RT.mul .none _ Y Y T h48<|mv Y<|mv Y<|bE h λMY Pw h=>ix Y Y Pw<|lr Y Y<|lE h λX9 Wm h=>ad _ Y Y Wm<|ag Y<|dn<|bh mixed<|mo (s:=.row _) Y<|mv Y<|mv Y<|mv Y<|bE h λRa We h=>ix Y Y We<|lr Y Y<|bE h λGp Nj h=>?_;refine RT.quo .none _ Y Y T (RR Nj) (HW Nj)<|mv Y<|mv Y<|bE h λM1 h63 h=>ix Y Y h63<|lr Y Y<|bE h λPg Ug h=>RT.rem .none _ Y Y T (O0 Ug) (O1 Ug)<|bE h λM3 Wf h=>iR Y Y Y Wf<|bE h λYa Tc h=>sR Gp Y Y Y Y Tc<|ag Y ?_;refine RT.done ⟨by kernel_rfl,?_⟩;refine bw.n<|aV.n<|aW<|mv Y<|lE h λo9 h46 h=>sb _ Y Y h46<|ag Y<|RT.done ?_;obtain rfl:=O h;exact aV.n ⟨(Pg,o9,Ya),Yx _ Y,wR []⟩;subst Yw;obtain⟨Jn,Et⟩:=GS
 try dsimp only
 refine aV.n<|qq<|bQ (cC (i:=36) (E1:=3) (n:=1) (e:=bG) (l:=Et) Y)<|aW<|mv Y<|bE Jv λQ8 Wg Jv=>cl (dw Wg) ⟨Y,aq⟩<|mv Y<|bl (l:=[Jn]) (e:=bG) (.one Y (.nil)) Y Y Y Y Y Y<|bE Jv λS7 Yz Jv=>cl (dw Yz) ⟨Y,aq⟩<|ag Y<|ag Y<|dn<|bf<|aV.r ?_;obtain rfl:=O Jv;exact R2 Y Y;refine cT<|sr<|mv Y<|bE (V h) λgM oc h=>cl (jI oc) ⟨Y,aq⟩<|mv Y<|bE h λlO oe h=>cl (jI oe) ⟨Y,aq⟩<|bE h λkN rW h=>RT.quo .none _ Y Y T (RR rW) (HW rW)<|bE h λgN nc h=>cl (rE nc) ⟨Y,aq⟩<|mv Y<|bE h λgR l8 h=>cl (jI l8) ⟨Y,aq⟩<|mv Y<|bE h λoG wQ h=>cl (jI wQ) ⟨Y,aq⟩ ?_;refine bE h λiF nx h=>RT.rem .none _ Y Y T (O0 nx) (O1 nx)<|bE h λl7 uA h=>cl (rE uA) ⟨Y,aq⟩<|ag Y<|ag Y<|dn<|bf<|aV.r ?_;obtain rfl:=O h;exact R2 Y Y
end
section
open Go.Fw Go.Fw.Z Go.RowKit
theorem fH{x0:Zr}{r:Int}(h:dz x0=some r):Pure ah 138 [.agg (eZ x0)] (ay r):=by
 obtain⟨bu,bt⟩:=x0;refine aZ Tryz.func138 Y (af Y) (λdD M vs hvs=>?_);unfold dz at h;refine sr<|bx Y<|ag Y<|dn<|qq<|sr<|fa Y Y<|lV Y Y Y<|bE h λx5 h5 h=>cl (cS h5) ⟨Y,aq⟩<|lE h λx6 h6 h=>ln Y h6<|lE h λx7 h7 h=>eq _ Y Y (vD (p:=x6) (q:=0) h7)<|dn ?_;cases x7;refine fs<|qq<|sr<|fa Y Y<|lV Y Y Y<|dn ?_;replace h:=F h;cases bu;refine fs<|sr<|ag Y<|dn<|bf ?_;obtain rfl:=O (F h);exact R1 Y;refine cT<|sr<|ag Y<|dn<|bf<|aV.r ?_;obtain rfl:=O (V h);exact R1 Y;refine cT<|sr<|ag Y<|dn<|bf<|aV.r ?_;obtain rfl:=O (V h);exact R1 Y
theorem Bd{x0:Zr}{x1:Zr}{r:Int}(h:kX x0 x1=some r):Pure ah 136 [.agg (eZ x0),.agg (eZ x1)] (ay r):=by
 obtain⟨bu,bt⟩:=x0;obtain⟨b7,bX⟩:=x1;refine aZ Tryz.func136 Y (af Y) (λdD M vs hvs=>?_);unfold kX at h;refine sr<|bx Y<|bx Y<|ag Y<|dn<|qq<|qq<|bh mixed<|ld Y Y (.k2 Y Y)<|bE h λx7 h7 h=>cl (fH h7) ⟨Y,aq⟩<|ld Y Y (.k2 Y Y)<|bE h λx9 h9 h=>cl (fH h9) ⟨Y,aq⟩<|lE h λdJ fZ h=>ne _ Y Y (Kx (p:=x7) (q:=x9) fZ) ?_;refine RT.done ⟨by kernel_rfl,?_⟩;refine aV.n ?_;cases dJ;refine fs<|qq<|bh mixed<|fa Y Y<|lV Y Y Y<|bE (F h) λfj jT h=>cl (cS jT) ⟨Y,aq⟩<|fa Y Y<|lV Y Y Y<|bE h λgi mU h=>cl (cS mU) ⟨Y,aq⟩<|bE h λgQ nw h=>cl (tK nw) ⟨Y,Y,aq⟩<|ag Y ?_;refine RT.done ⟨by kernel_rfl,?_⟩;refine aV.n<|qq<|sr<|ld Y Y (.k2 Y Y)<|bE h λgO oT h=>cl (fH oT) ⟨Y,aq⟩<|lE h λlO oe h=>ls _ Y Y oe<|dn ?_;cases lO;refine fs<|sr<|mv Y<|ag Y<|dn<|bf ?_;obtain rfl:=O (F h);exact R1 Y;refine cT<|sr<|mv Y<|lE (V h) λgN nc h=>RT.neg .none _ Y T nc<|ag Y<|dn<|bf<|aV.r ?_;obtain rfl:=O h;exact R1 Y;refine cT<|qq<|qq<|bh mixed<|ld Y Y (.k2 Y Y)<|bE (V h) λdj fW h=>cl (fH fW) ⟨Y,aq⟩<|ld Y Y (.k2 Y Y)<|bE h λdV iJ h=>cl (fH iJ) ⟨Y,aq⟩<|lE h λeN jy h=>ls _ Y Y jy ?_;refine RT.done ⟨by kernel_rfl,?_⟩;refine aV.n ?_;cases eN;refine fs<|sr<|ag Y<|dn<|bf<|aV.r ?_;obtain rfl:=O (F h);exact R1 Y
 refine cT<|sr<|ag Y<|dn<|bf<|aV.r<|aV.r ?_;obtain rfl:=O (V h);exact R1 Y
theorem Be{x0:Zr}{r:Zr}(h:kY x0=some r):Pure ah 107 [.agg (eZ x0)] (.agg (eZ r)):=by
 obtain⟨bu,bt⟩:=x0;refine aZ Tryz.func107 Y (af Y) (λdD M vs hvs=>?_);unfold kY at h;refine sr<|bx Y<|al (cs:=[az false,ax]) (by exact⟨au,aB,aq⟩) Y<|dn<|qq<|bh mixed<|fa Y Y<|lV Y Y Y<|lE h λx5 h5 h=>nt Y _ h5<|fa Y Y<|lV Y Y Y<|bE h λx8 h8 h=>cl (cS h8) ⟨Y,aq⟩ ?_;obtain⟨⟨Jr,Js⟩,h9,h⟩:=bS h;refine cl (jq h9) ⟨Y,Y,aq⟩<|so Y Y Y ?_;refine RT.done ⟨by kernel_rfl,?_⟩;refine aV.n<|bf ?_;obtain rfl:=O h;exact RZ (.agg Y Y (.k2 Y Y) Y (.nil))
theorem Bf{x0:Zr}{r:Zr}(h:kZ x0=some r):Pure ah 139 [.agg (eZ x0)] (.agg (eZ r)):=by
 obtain⟨bu,bt⟩:=x0;refine aZ Tryz.func139 Y (af Y) (λdD M vs hvs=>?_);unfold kZ at h;refine sr<|bx Y<|al (cs:=[az false,ax]) (by exact⟨au,aB,aq⟩) Y<|dn<|sr<|fa Y Y<|lV Y Y Y<|bE h λx5 h5 h=>cl (cS h5) ⟨Y,aq⟩ ?_;obtain⟨⟨wD,wE⟩,h6,h⟩:=bS h;refine cl (jq h6) ⟨Y,Y,aq⟩<|so Y Y Y<|dn<|bf ?_;obtain rfl:=O h;exact RZ (.agg Y Y (.k2 Y Y) Y (.nil))
theorem tO{x0:Zr}{x1:Zr}{r:Zr×Zr×Int}(h:jo x0 x1=some r):Pure ah 135 [.agg (eZ x0),.agg (eZ x1)] (.yN [.agg (eZ r.1),.agg (eZ r.2.1),ay r.2.2]):=by
 obtain⟨bu,bt⟩:=x0;obtain⟨b7,bX⟩:=x1;refine aZ Tryz.func135 Y (af Y) (λdD M vs hvs=>?_);unfold jo at h;refine sr<|bx Y<|bx Y<|al (cs:=[az false,ax]) (by exact⟨au,aB,aq⟩) Y<|al (cs:=[az false,ax]) (by exact⟨au,aB,aq⟩) Y<|ag Y<|dn<|qq<|bh mixed<|fa Y Y<|lV Y Y Y<|bE h λkE mS h=>cl (cS mS) ⟨Y,aq⟩<|fa Y Y ?_;refine lV Y Y Y<|bE h λfE iY h=>cl (cS iY) ⟨Y,aq⟩<|ag Y<|ag Y ?_;refine RT.done ⟨by kernel_rfl,?_⟩;refine aV.n<|qq<|sr<|mv Y<|lE h λfj jT h=>ln Y jT<|lE h λjZ mz h=>eq _ Y Y (vD (p:=fj) (q:=0) mz)<|dn ?_;cases jZ;refine fs<|sr<|mv Y<|mv Y ?_;obtain⟨⟨xH,AP⟩,oe,h⟩:=bS (F h);refine cl (tN oe) ⟨Y,Y,aq⟩<|mv Y<|ex Y Y<|ex Y Y<|ag Y<|ag Y<|dn<|qq<|qq ?_;refine bC h (λj3=>AS.ct 50 [(2,.ptr 2 0),(3,.ptr 3 0),(4,.ptr 4 0),(5,.ptr 5 0),(8,.sv (slc 1 (List.map bG fE))),(9,.sv (slc 1 (List.map bG xH))),(10,.sv (slc 1 (List.map bG AP))),(34,aj j3.1)] [(5,⟨34,[aj false,.sv ax]⟩),(4,⟨34,[aj false,.sv ax]⟩),(3,⟨34,[aj b7,.sv (slc 1 (List.map aY bX))]⟩),(2,⟨34,[aj j3.2,.sv (slc 1 (List.map aY bt))]⟩)] []) (λh=>?_) (λj3 h=>?_);refine aW<|fa Y Y<|lV Y Y Y<|mv Y<|bE h λOi rZ h=>?_;cases bu;obtain rfl:=O (F rZ);exact ww<|ww<|ww<|pF Y<|dn<|⟨(false,false),h,wR []⟩
 refine gm Y<|lE (V rZ) λiF nx rZ=>gn Y nx<|lE rZ λl7 uA rZ=>gg _ Y Y uA ?_;obtain rfl:=O rZ;exact pT Y<|dn<|⟨(l7,true),h,wR []⟩;obtain⟨Jt,rV⟩:=j3
 try dsimp only
 refine aV.n ?_;refine bC h (λj5=>AS.ct 50 [(2,.ptr 2 0),(3,.ptr 3 0),(4,.ptr 4 0),(5,.ptr 5 0),(9,.sv (slc 1 (List.map bG j5.1))),(10,.sv (slc 1 (List.map bG j5.2)))] [(5,⟨34,[aj false,.sv ax]⟩),(4,⟨34,[aj false,.sv ax]⟩),(3,⟨34,[aj b7,.sv (slc 1 (List.map aY bX))]⟩),(2,⟨34,[aj rV,.sv (slc 1 (List.map aY bt))]⟩)] []) (λh=>?_) (λj5 h=>?_);cases Jt;exact fs<|⟨(xH,AP),(F h),wR []⟩;exact cT<|sr<|mv Y<|bl (l:=[1]) (e:=bG) (.one Y (.nil)) Y Y Y Y Y Y<|bE (V h) λyO Gy h=>cl (Ba Gy) ⟨Y,Y,aq⟩<|ag Y<|dn<|aW<|mv Y<|mv Y<|bE h λlT rz h=>cl (tL rz) ⟨Y,Y,aq⟩<|ag Y<|dn<|⟨(yO,lT),h,wR []⟩;obtain⟨It,Cu⟩:=j5
 try dsimp only
 refine aV.n<|sr<|fa Y Y<|lV Y Y Y<|fa Y Y<|lV Y Y Y<|lE h λDG Lt h=>RT.KI .none _ Y Y T Lt<|mv Y ?_;obtain⟨⟨Cr,Cs⟩,xJ,h⟩:=bS h;refine cl (jq xJ) ⟨Y,Y,aq⟩<|mv Y ?_;obtain⟨⟨Cv,Cw⟩,Pv,h⟩:=bS h;refine cl (jq Pv) ⟨Y,Y,aq⟩<|so Y Y Y<|so Y Y Y<|ag Y<|dn<|bf ?_;obtain rfl:=O h;exact RZ (.agg Y Y (.k2 Y Y) Y (.agg Y Y (.k2 Y Y) Y (.tmp Y (.nil))));refine cT<|sr<|bI (cs:=[_,_]) (cs':=[az false,ax]) (.nil) ⟨au,aB,aq⟩<|bI (cs:=[_,_]) (cs':=[az false,ax]) (.nil) ⟨au,aB,aq⟩<|so Y Y Y<|so Y Y Y<|ag Y<|dn<|bf<|aV.r ?_;obtain rfl:=O (V h);exact RZ (.agg Y Y (.k2 Y Y) Y (.agg Y Y (.k2 Y Y) Y (.tmp Y (.nil))))
theorem Bg{x0:Zr}{x1:Zr}{r:Zr}(h:k7 x0 x1=some r):Pure ah 134 [.agg (eZ x0),.agg (eZ x1)] (.agg (eZ r)):=by
 obtain⟨bu,bt⟩:=x0;obtain⟨b7,bX⟩:=x1;refine aZ Tryz.func134 Y (af Y) (λdD M vs hvs=>?_);unfold k7 at h;refine sr<|bx Y<|bx Y<|al (cs:=[az false,ax]) (by exact⟨au,aB,aq⟩) Y<|dn<|qq<|bh mixed<|fa Y Y<|lV Y Y Y<|bE h λfK lH h=>cl (cS lH) ⟨Y,aq⟩<|fa Y Y<|lV Y Y Y<|bE h λdV iJ h=>cl (cS iJ) ⟨Y,aq⟩<|ag Y<|ag Y ?_;refine RT.done ⟨by kernel_rfl,?_⟩;refine aV.n<|qq<|bE h λe6 ze jk=>?_;refine bK (λ(qO:(List Int))=>AS.ct 28 [(4,.ptr 4 0),(5,.sv (slc 1 (List.map bG qO)))] [(4,⟨34,[aj false,.sv ax]⟩)] []) (λqO=>qO=e6) ?_ (λqO zf=>?_);refine bj ?_;refine bL ze (λs6=>AS.ct 28 [(4,.ptr 4 0),(5,.sv (slc 1 (List.map bG s6.1))),(6,.sv (slc 1 (List.map bG s6.2)))] [(4,⟨34,[aj false,.sv ax]⟩)] []) (wR []) (λs6 y6 G6 h zg uT=>?_);obtain⟨lF,oR⟩:=s6
 try dsimp only
 refine qq<|sr<|mv Y<|lE h λfE iY h=>ln Y iY<|lE h λeM kg h=>gt _ Y Y kg<|dn ?_;cases eM;refine cF<|bP<|aV.x<|aV.x<|bw.x<|aV.n ?_;obtain rfl:=O (F h);exact⟨lF,uT _ Y,wR []⟩;refine cT<|bp<|aV.n<|bj<|sr<|mv Y<|mv Y ?_;obtain⟨⟨Yh,P6⟩,mU,h⟩:=bS (V h);refine cl (tN mU) ⟨Y,Y,aq⟩<|mv Y<|ex Y Y<|ex Y Y<|ag Y<|ag Y<|dn<|aW<|mv Y<|mv Y<|ag Y<|ag Y<|RT.done<|bw.n ?_;obtain rfl:=O h;exact aV.n ⟨(oR,P6),zg _ Y,wR []⟩;subst zf
 try dsimp only
 refine aV.n<|sr<|mv Y ?_;obtain⟨⟨tg,rm⟩,nc,jk⟩:=bS jk;refine cl (jq nc) ⟨Y,Y,aq⟩<|so Y Y Y<|dn<|bf ?_;obtain rfl:=O jk;exact RZ (.agg Y Y (.k2 Y Y) Y (.nil))
end
section
open Go.Fw
noncomputable def jr:Option (Zr):=(fB 1).bind λ⟨b7,bX⟩=>some ⟨b7,bX⟩
noncomputable def k8(x0:Qr):Option (Zr):=match x0 with|⟨⟨bu,bt⟩,⟨bM,bR⟩⟩=>(dz ⟨bM,bR⟩).bind λx5=>(some (decide ((x5:Int)=0))).bind λx6=>(bif x6 then(jr).bind λ⟨wF,wG⟩=>some ⟨wF,wG⟩else(kZ ⟨bM,bR⟩).bind λ⟨vK,vL⟩=>some ⟨vK,vL⟩)
noncomputable def lf(x0:Qr):Option (Zr):=match x0 with|⟨⟨bu,bt⟩,⟨bM,bR⟩⟩=>(dz ⟨bM,bR⟩).bind λx5=>(some (decide ((x5:Int)<0))).bind λx6=>(bif x6 then(kY ⟨bu,bt⟩).bind λ⟨Jr,Js⟩=>some ⟨Jr,Js⟩else(fG ⟨bu,bt⟩).bind λ⟨iL,iG⟩=>some ⟨iL,iG⟩)
noncomputable def jJ(x0:Zr)(x1:Zr):Option (Qr):=match x0 with|⟨bu,bt⟩=>match x1 with|⟨b7,bX⟩=>(k7 ⟨bu,bt⟩ ⟨b7,bX⟩).bind λ⟨xP,xQ⟩=>(jo ⟨bu,bt⟩ ⟨xP,xQ⟩).bind λ⟨⟨gp,gu⟩,⟨jB,jC⟩,YA⟩=>(jo ⟨b7,bX⟩ ⟨xP,xQ⟩).bind λ⟨⟨Bh,Bi⟩,⟨P8,P9⟩,YB⟩=>(jr).bind λ⟨tj,tq⟩=>(kX ⟨Bh,Bi⟩ ⟨tj,tq⟩).bind λoG=>(some (decide ((oG:Int)=0))).bind λiF=>(bif iF then some ⟨⟨gp,gu⟩,⟨false,[]⟩⟩else some ⟨⟨gp,gu⟩,⟨Bh,Bi⟩⟩)
noncomputable def iO(x0:Qr):Option (Qr):=match x0 with|⟨⟨bu,bt⟩,⟨bM,bR⟩⟩=>(lf ⟨⟨bu,bt⟩,⟨bM,bR⟩⟩).bind λ⟨r5,r6⟩=>(k8 ⟨⟨bu,bt⟩,⟨bM,bR⟩⟩).bind λ⟨wD,wE⟩=>(jJ ⟨r5,r6⟩ ⟨wD,wE⟩).bind λ⟨⟨wF,wG⟩,⟨Bj,Bk⟩⟩=>some ⟨⟨wF,wG⟩,⟨Bj,Bk⟩⟩
noncomputable def lj(x0:Int):Option (Qr):=(fB x0).bind λ⟨r5,r6⟩=>some ⟨⟨r5,r6⟩,⟨false,[]⟩⟩
noncomputable def mG(x0:Int)(x1:Int):Option (Qr):=(fB x0).bind λ⟨wD,wE⟩=>(fB x1).bind λ⟨uY,uZ⟩=>(iO ⟨⟨wD,wE⟩,⟨uY,uZ⟩⟩).bind λ⟨⟨vK,vL⟩,⟨Oj,Ol⟩⟩=>some ⟨⟨vK,vL⟩,⟨Oj,Ol⟩⟩
end
section
open Go.Fw Go.Fw.Z Go.RowKit
theorem tQ{r:Zr}(h:jr=some r):Pure ah 137 [] (.agg (eZ r)):=by
 refine aZ Tryz.func137 Y (af Y) (λdD M vs hvs=>?_);unfold jr at h;refine sr<|al (cs:=[az false,ax]) (by exact⟨au,aB,aq⟩) Y<|dn<|sr ?_;obtain⟨⟨b7,bX⟩,h1,h⟩:=bS h;refine cl (kG h1) ⟨Y,aq⟩<|so Y Y Y<|dn<|bf ?_;obtain rfl:=O h;exact RZ (.agg Y Y (.k2 Y Y) Y (.nil))
theorem Bl{x0:Qr}{r:Zr}(h:k8 x0=some r):Pure ah 109 [.agg (eQ x0)] (.agg (eZ r)):=by
 obtain⟨⟨bu,bt⟩,⟨bM,bR⟩⟩:=x0;refine aZ Tryz.func109 Y (af Y) (λdD M vs hvs=>?_);unfold k8 at h;refine sr<|bx Y<|al (cs:=[az false,ax]) (by exact⟨au,aB,aq⟩) Y<|dn<|qq<|sr<|fa Y Y<|ld Y Y (.k2 Y Y)<|bE h λx5 h5 h=>cl (fH h5) ⟨Y,aq⟩<|lE h λx6 h6 h=>eq _ Y Y (vD (p:=x5) (q:=0) h6)<|dn ?_;cases x6;refine fs<|sr<|fa Y Y<|ld Y Y (.k2 Y Y) ?_;obtain⟨⟨vK,vL⟩,fZ,h⟩:=bS (F h);refine cl (Bf fZ) ⟨Y,aq⟩<|so Y Y Y<|dn<|bf ?_;obtain rfl:=O h;exact RZ (.agg Y Y (.k2 Y Y) Y (.nil));refine cT<|sr ?_;obtain⟨⟨wF,wG⟩,h7,h⟩:=bS (V h);refine cl (tQ h7) trivial<|so Y Y Y<|dn<|bf<|aV.r ?_;obtain rfl:=O h;exact RZ (.agg Y Y (.k2 Y Y) Y (.nil))
theorem Bm{x0:Qr}{r:Zr}(h:lf x0=some r):Pure ah 108 [.agg (eQ x0)] (.agg (eZ r)):=by
 obtain⟨⟨bu,bt⟩,⟨bM,bR⟩⟩:=x0;refine aZ Tryz.func108 Y (af Y) (λdD M vs hvs=>?_);unfold lf at h;refine sr<|bx Y<|al (cs:=[az false,ax]) (by exact⟨au,aB,aq⟩) Y<|dn<|qq<|sr<|fa Y Y<|ld Y Y (.k2 Y Y)<|bE h λx5 h5 h=>cl (fH h5) ⟨Y,aq⟩<|lE h λx6 h6 h=>ls _ Y Y h6<|dn ?_;cases x6;refine fs<|sr<|fa Y Y<|ld Y Y (.k2 Y Y) ?_;obtain⟨⟨iL,iG⟩,fW,h⟩:=bS (F h);refine cl (pY fW) ⟨Y,aq⟩<|so Y Y Y<|dn<|bf ?_;obtain rfl:=O h;exact RZ (.agg Y Y (.k2 Y Y) Y (.nil));refine cT<|sr<|fa Y Y<|ld Y Y (.k2 Y Y) ?_;obtain⟨⟨Jr,Js⟩,h9,h⟩:=bS (V h);refine cl (Be h9) ⟨Y,aq⟩<|so Y Y Y<|dn<|bf<|aV.r ?_;obtain rfl:=O h;exact RZ (.agg Y Y (.k2 Y Y) Y (.nil))
theorem zy{x0:Zr}{x1:Zr}{r:Qr}(h:jJ x0 x1=some r):Pure ah 106 [.agg (eZ x0),.agg (eZ x1)] (.agg (eQ r)):=by
 obtain⟨bu,bt⟩:=x0;obtain⟨b7,bX⟩:=x1;refine aZ Tryz.func106 Y (af Y) (λdD M vs hvs=>?_);unfold jJ at h;refine sr<|bx Y<|bx Y<|al (cs:=[az false,ax,az false,ax]) (by exact⟨au,aB,au,aB,aq⟩) Y<|dn<|sr<|ld Y Y (.k2 Y Y)<|ld Y Y (.k2 Y Y) ?_;obtain⟨⟨xP,xQ⟩,iJ,h⟩:=bS h;refine cl (Bg iJ) ⟨Y,Y,aq⟩<|al (cs:=[az false,ax]) (by exact⟨au,aB,aq⟩) Y<|so Y Y Y<|dn<|sr<|ld Y Y (.k2 Y Y)<|ld Y Y (.k2 Y Y) ?_;obtain⟨⟨⟨gp,gu⟩,⟨jB,jC⟩,YA⟩,jT,h⟩:=bS h;refine cl (tO jT) ⟨Y,Y,aq⟩<|mv Y<|ex Y Y<|ex Y Y<|ex Y Y<|al (cs:=[az false,ax]) (by exact⟨au,aB,aq⟩) Y<|al (cs:=[az false,ax]) (by exact⟨au,aB,aq⟩) Y<|so Y Y Y<|so Y Y Y<|ag Y<|dn<|sr<|ld Y Y (.k2 Y Y) ?_;refine ld Y Y (.k2 Y Y) ?_;obtain⟨⟨⟨Bh,Bi⟩,⟨P8,P9⟩,YB⟩,oe,h⟩:=bS h;refine cl (tO oe) ⟨Y,Y,aq⟩<|mv Y<|ex Y Y<|ex Y Y<|ex Y Y<|al (cs:=[az false,ax]) (by exact⟨au,aB,aq⟩) Y<|al (cs:=[az false,ax]) (by exact⟨au,aB,aq⟩) Y<|so Y Y Y<|so Y Y Y<|ag Y<|dn<|qq<|qq<|bh mixed<|ld Y Y (.k2 Y Y) ?_;obtain⟨⟨tj,tq⟩,zh,h⟩:=bS h;refine cl (tQ zh) trivial<|bE h λoG wQ h=>cl (Bd wQ) ⟨Y,Y,aq⟩<|lE h λiF nx h=>eq _ Y Y (vD (p:=oG) (q:=0) nx) ?_;refine RT.done ⟨by kernel_rfl,?_⟩;refine aV.n ?_;cases iF
 refine fs<|sr<|ld Y Y (.k2 Y Y)<|ld Y Y (.k2 Y Y)<|bI (cs:=[_,_,_,_]) (cs':=[az gp,slc 1 (List.map aY gu),az Bh,slc 1 (List.map aY Bi)]) (.agg Y (.agg Y (.nil))) ⟨au,au,au,au,aq⟩<|so Y Y Y<|dn<|bf ?_;obtain rfl:=O (F h);exact RZ (.agg Y Y (.k4 Y Y Y Y) Y (.nil));refine cT<|sr<|ld Y Y (.k2 Y Y)<|bI (cs:=[_,_,_,_]) (cs':=[az gp,slc 1 (List.map aY gu),az false,ax]) (.agg Y (.nil)) ⟨au,au,au,aB,aq⟩<|so Y Y Y<|dn<|bf<|aV.r ?_;obtain rfl:=O (V h);exact RZ (.agg Y Y (.k4 Y Y Y Y) Y (.nil))
theorem yn{x0:Qr}{r:Qr}(h:iO x0=some r):Pure ah 76 [.agg (eQ x0)] (.agg (eQ r)):=by
 obtain⟨⟨bu,bt⟩,⟨bM,bR⟩⟩:=x0;refine aZ Tryz.func76 Y (af Y) (λdD M vs hvs=>?_);unfold iO at h;refine sr<|bx Y<|al (cs:=[az false,ax,az false,ax]) (by exact⟨au,aB,au,aB,aq⟩) Y<|dn<|qq<|bh mixed<|ld Y Y (.k4 Y Y Y Y) ?_;obtain⟨⟨r5,r6⟩,h4,h⟩:=bS h;refine cl (Bm h4) ⟨Y,aq⟩<|ld Y Y (.k4 Y Y Y Y) ?_;obtain⟨⟨wD,wE⟩,h6,h⟩:=bS h;refine cl (Bl h6) ⟨Y,aq⟩ ?_;obtain⟨⟨⟨wF,wG⟩,⟨Bj,Bk⟩⟩,h7,h⟩:=bS h;refine cl (zy h7) ⟨Y,Y,aq⟩<|so Y Y Y ?_;refine RT.done ⟨by kernel_rfl,?_⟩;refine aV.n<|bf ?_;obtain rfl:=O h;exact RZ (.agg Y Y (.k4 Y Y Y Y) Y (.nil))
theorem Bn{x0:Int}{r:Qr}(h:lj x0=some r):Pure ah 13 [ay x0] (.agg (eQ r)):=by
 refine aZ Tryz.func13 Y (af Y) (λdD M vs hvs=>?_);unfold lj at h;refine sr<|al (cs:=[az false,ax,az false,ax]) (by exact⟨au,aB,au,aB,aq⟩) Y<|dn<|sr<|mv Y ?_;obtain⟨⟨r5,r6⟩,h4,h⟩:=bS h;refine cl (kG h4) ⟨Y,aq⟩<|bI (cs:=[_,_,_,_]) (cs':=[az r5,slc 1 (List.map aY r6),az false,ax]) (.agg Y (.nil)) ⟨au,au,au,aB,aq⟩<|so Y Y Y<|dn<|bf ?_;obtain rfl:=O h;exact RZ (.agg Y Y (.k4 Y Y Y Y) Y (.nil))
theorem C5{x0:Int}{x1:Int}{r:Qr}(h:mG x0 x1=some r):Pure ah 43 [ay x0,ay x1] (.agg (eQ r)):=by
 refine aZ Tryz.func43 Y (af Y) (λdD M vs hvs=>?_);unfold mG at h;refine sr<|al (cs:=[az false,ax,az false,ax]) (by exact⟨au,aB,au,aB,aq⟩) Y<|dn<|sr<|mv Y ?_;obtain⟨⟨wD,wE⟩,h6,h⟩:=bS h;refine cl (kG h6) ⟨Y,aq⟩<|mv Y ?_;obtain⟨⟨uY,uZ⟩,h8,h⟩:=bS h;refine cl (kG h8) ⟨Y,aq⟩<|bI (cs:=[_,_,_,_]) (cs':=[az wD,slc 1 (List.map aY wE),az uY,slc 1 (List.map aY uZ)]) (.agg Y (.agg Y (.nil))) ⟨au,au,au,au,aq⟩ ?_;obtain⟨⟨⟨vK,vL⟩,⟨Oj,Ol⟩⟩,fZ,h⟩:=bS h;refine cl (yn fZ) ⟨Y,aq⟩<|so Y Y Y<|dn<|bf ?_;obtain rfl:=O h;exact RZ (.agg Y Y (.k4 Y Y Y Y) Y (.nil))
end
section
open Go.Fw
noncomputable def jK(x0:List (List Qr)):Option (Int):=(b9 (λ(s6:Int×Int)=>match s6 with|⟨kU,sj⟩=>(show Option ((Int×Int)⊕(Int))from(some (x0.length:Int)).bind λx7=>(some (decide ((sj:Int)<x7))).bind λx8=>(bif x8 then(c9 x0 sj).bind λdV=>(some (dV.length:Int)).bind λfE=>(some (max (kU:Int) fE)).bind λeM=>(some (IntKind.i64.wrap (sj+1))).bind λdJ=>some (.inl (eM,dJ))else some (.inr kU)))) (0,0)).bind λnK=>some nK
end
section
open Go.Fw Go.Fw.Z Go.RowKit
theorem zA{x0:List (List Qr)}{r:Int}(h:jK x0=some r):Pure ah 86 [slc 1 (List.map (eS 4 eQ) x0)] (ay r):=by
 refine aZ Tryz.func86 Y (af Y) (λdD M vs hvs=>?_);unfold jK at h;refine sr<|ag Y<|dn<|sr<|ag Y<|dn<|qq<|sr<|ag Y<|dn<|bE h λe6 ze jk=>?_;refine bK (λ(nK:Int)=>AS.ct 19 [(3,ai nK)] [] []) (λnK=>nK=e6) ?_ (λnK zf=>?_);refine bj ?_;refine bL ze (λs6=>AS.ct 19 [(0,.sv (slc 1 (List.map (eS 4 eQ) x0))),(3,ai s6.1),(4,ai s6.2)] [] []) (wR []) (λs6 y6 G6 h zg uT=>?_);obtain⟨kU,sj⟩:=s6
 try dsimp only
 refine qq<|sr<|mv Y<|mv Y<|lE h λx7 h7 h=>ln Y h7<|lE h λx8 h8 h=>ls _ Y Y h8<|dn ?_;cases x8;refine cF<|bP<|aV.x<|aV.x<|bw.x<|aV.n ?_;obtain rfl:=O (F h);exact⟨kU,uT _ Y,wR []⟩;refine cT<|bp<|aV.n<|qq<|bj<|aW<|mv Y<|mv Y<|mv Y<|bE (V h) λdV iJ h=>ix Y Y iJ<|lr Y Y<|lE h λfE iY h=>ln Y iY<|lE h λeM kg h=>RT.max .none _ Y Y T (Lc (p:=kU) (q:=fE) kg)<|ag Y<|RT.done<|bw.n<|aV.n<|aW<|mv Y<|lE h λdJ fZ h=>ad _ Y Y fZ<|ag Y<|RT.done ?_;obtain rfl:=O h;exact aV.n ⟨(eM,dJ),zg _ Y,wR []⟩;subst zf
 try dsimp only
 refine aV.n<|sr<|mv Y<|ag Y<|dn<|bf ?_;obtain rfl:=O jk;exact R1 Y
end
section
open Go.Fw
noncomputable def jL(x0:List Zr):Option (Bool):=(b9 (λ(kU:Int)=>(show Option ((Int)⊕((Unit)⊕(Bool)))from(some (x0.length:Int)).bind λx6=>(some (decide ((kU:Int)<x6))).bind λx7=>(bif x7 then(c9 x0 kU).bind λ⟨iL,iG⟩=>(some (iG.length:Int)).bind λeN=>(some (decide ((12:Int)<eN))).bind λfE=>(bif fE then some (.inr (.inr true))else(some (IntKind.i64.wrap (kU+1))).bind λx9=>some (.inl x9))else some (.inr (.inl ()))))) 0).bind λe6=>match e6 with|.inr v6=>some v6|.inl _=>some false
end
section
open Go.Fw Go.Fw.Z Go.RowKit
theorem zB{x0:List Zr}{r:Bool}(h:jL x0=some r):Pure ah 68 [slc 2 (List.map eZ x0)] (az r):=by
 refine aZ Tryz.func68 Y (af Y) (λdD M vs hvs=>?_);unfold jL at h;refine sr<|ag Y<|dn<|qq<|sr<|ag Y<|dn<|bE h λe6 ze jk=>?_;refine bK (λ(Eb:Unit)=>AS.ct 17 [] [] []) (λEb=>.inl Eb=e6) ?_ (λEb zf=>?_);refine bj ?_;refine bL ze (λs6=>AS.ct 17 [(0,.sv (slc 2 (List.map eZ x0))),(3,ai s6)] [] []) (wR []) (λkU y6 G6 h zg uT=>?_)
 try dsimp only
 refine qq<|sr<|mv Y<|mv Y<|lE h λx6 h6 h=>ln Y h6<|lE h λx7 h7 h=>ls _ Y Y h7<|dn ?_;cases x7;refine cF<|bP<|aV.x<|aV.x<|bw.x<|aV.n ?_;obtain rfl:=O (F h);exact⟨(),uT _ Y,wR []⟩;refine cT<|bp<|aV.n<|qq<|bj<|sr<|mv Y<|mv Y ?_;obtain⟨⟨iL,iG⟩,fW,h⟩:=bS (V h);refine ix Y Y fW<|RT.eU .none Y T Y<|lr Y Y<|lE h λeN jy h=>ln Y jy<|lE h λfE iY h=>gt _ Y Y iY<|dn ?_;cases fE;refine cF<|bp<|bw.n<|aV.n<|aW<|mv Y<|lE (F h) λx9 h9 h=>ad _ Y Y h9<|ag Y<|RT.done ?_;obtain rfl:=O h;exact aV.n ⟨x9,zg _ Y,wR []⟩;refine cT<|sr<|ag Y<|dn<|bf<|bw.r<|aV.r ?_;obtain rfl:=O (V h);have IB:=uT _ Y;subst IB;refine aV.r<|bw.r<|aV.r<|aV.r ?_;obtain rfl:=O jk;exact R1 Y;subst zf
 try dsimp only
 refine aV.n<|sr<|ag Y<|dn<|bf ?_;obtain rfl:=O jk;exact R1 Y
end
section
open Go.Fw
noncomputable def jM(x0:List Qr):Option (Bool):=(b9 (λ(qP:Int)=>(show Option ((Int)⊕((Unit)⊕(Bool)))from(some (x0.length:Int)).bind λx6=>(some (decide ((qP:Int)<x6))).bind λx7=>(bif x7 then cg (λ(Ez:Bool)=>(bif Ez then some (.inr (.inr true))else(some (IntKind.i64.wrap (qP+1))).bind λx9=>some (.inl x9))) λS6=>(c9 x0 qP).bind λ⟨⟨iL,iG⟩,⟨Td,Te⟩⟩=>(c9 x0 qP).bind λ⟨⟨ng,nh⟩,⟨oK,oL⟩⟩=>(jL [⟨iL,iG⟩,⟨oK,oL⟩]).bind λgi=>(bif gi then some true else(c9 x0 qP).bind λ⟨⟨vH,th⟩,⟨Tf,Tg⟩⟩=>(some (th.length:Int)).bind λgR=>(some (decide ((6:Int)<gR))).bind λuO=>some uO).bind λJw=>(bif Jw then some true else(c9 x0 qP).bind λ⟨⟨Th,Ti⟩,⟨Tj,Om⟩⟩=>(some (Om.length:Int)).bind λoP=>(some (decide ((6:Int)<oP))).bind λlT=>some lT).bind λQa=>S6 Qa else some (.inr (.inl ()))))) 0).bind λLG=>match LG with|.inr mX=>some mX|.inl _=>some false
end
section
open Go.Fw Go.Fw.Z Go.RowKit
theorem zC{x0:List Qr}{r:Bool}(h:jM x0=some r):Pure ah 24 [slc 4 (List.map eQ x0)] (az r):=by
 refine aZ Tryz.func24 Y (af Y) (λdD M vs hvs=>?_);unfold jM at h;refine sr<|ag Y<|dn<|qq<|sr<|ag Y<|dn<|bE h λLG Ex Bb=>?_;refine bK (λ(EA:Unit)=>AS.ct 42 [] [] []) (λEA=>.inl EA=LG) ?_ (λEA Bc=>?_);refine bj ?_;refine bL Ex (λJj=>AS.ct 42 [(0,.sv (slc 4 (List.map eQ x0))),(3,ai Jj)] [] []) (wR []) (λqP y16 G16 h Ju Ey=>?_)
 try dsimp only
 refine qq<|sr<|mv Y<|mv Y<|lE h λx6 h6 h=>ln Y h6<|lE h λx7 h7 h=>ls _ Y Y h7<|dn ?_;cases x7;refine cF<|bP<|aV.x<|aV.x<|bw.x<|aV.n ?_;obtain rfl:=O (F h);exact⟨(),Ey _ Y,wR []⟩;refine cT<|bp<|aV.n<|qq<|bj<|qq ?_;refine bC (V h) (λTa=>AS.ct 42 [(0,.sv (slc 4 (List.map eQ x0))),(3,ai qP),(41,aj Ta)] [] []) (λh=>?_) (λEz h=>?_);refine bh mixed<|mv Y<|mv Y ?_;obtain⟨⟨⟨iL,iG⟩,⟨Td,Te⟩⟩,fW,h⟩:=bS h;refine ix Y Y fW<|RT.eU .none Y T Y<|RT.qT (cs:=[_,_]) .none Y T Y Y<|mv Y<|mv Y ?_;obtain⟨⟨⟨ng,nh⟩,⟨oK,oL⟩⟩,kg,h⟩:=bS h;refine ix Y Y kg<|RT.eU .none Y T Y<|RT.qT (cs:=[_,_]) .none Y T Y Y<|bl (l:=[⟨iL,iG⟩,⟨oK,oL⟩]) (e:=eZ) (.agg Y (.agg Y (.nil))) Y Y Y Y Y Y<|bE h λgi mU h=>cl (zB mU) ⟨Y,aq⟩<|mv Y<|bE h λJw jb h=>?_;cases gi;refine gm Y<|gm Y ?_;obtain⟨⟨⟨vH,th⟩,⟨Tf,Tg⟩⟩,oe,jb⟩:=bS (F jb);refine RT.MW (.some Y Y) Y Y T oe<|RT.eU (.some Y Y) Y T Y<|RT.eU (.some Y Y) Y T Y<|gr Y Y<|lE jb λgR l8 jb=>gn Y l8<|lE jb λuO zh jb=>gg _ Y Y zh ?_;obtain rfl:=O jb;refine pF Y<|mv Y<|bE h λYC kz h=>?_;cases uO;refine gm Y<|gm Y ?_;obtain⟨⟨⟨Th,Ti⟩,⟨Tj,Om⟩⟩,zj,kz⟩:=bS (F kz)
 refine RT.MW (.some Y Y) Y Y T zj<|RT.eU (.some Y Y) Y T Y<|RT.eU (.some Y Y) Y T Y<|gr Y Y<|lE kz λoP CD kz=>gn Y CD<|lE kz λlT rz kz=>gg _ Y Y rz ?_;obtain rfl:=O kz;refine pF Y ?_;refine RT.done ⟨by kernel_rfl,?_⟩;exact aV.n<|⟨lT,h,wR []⟩;obtain rfl:=O (V kz);refine ww<|ww<|ww<|ww<|ww<|ww<|ww<|ww<|pT Y ?_;refine RT.done ⟨by kernel_rfl,?_⟩;exact aV.n<|⟨true,h,wR []⟩;obtain rfl:=O (V jb);refine ww<|ww<|ww<|ww<|ww<|ww<|ww<|ww<|pT Y<|mv Y<|bE h λYD zx h=>?_;obtain rfl:=O (V zx);refine ww<|ww<|ww<|ww<|ww<|ww<|ww<|ww<|pT Y ?_;refine RT.done ⟨by kernel_rfl,?_⟩;exact aV.n<|⟨true,h,wR []⟩
 try dsimp only
 refine aV.n ?_;cases Ez;refine cF<|bp<|bw.n<|aV.n<|aW<|mv Y<|lE (F h) λx9 h9 h=>ad _ Y Y h9<|ag Y<|RT.done ?_;obtain rfl:=O h;exact aV.n ⟨x9,Ju _ Y,wR []⟩;refine cT<|sr<|ag Y<|dn<|bf<|bw.r<|aV.r ?_;obtain rfl:=O (V h);have Qb:=Ey _ Y;subst Qb;refine aV.r<|bw.r<|aV.r<|aV.r ?_;obtain rfl:=O Bb;exact R1 Y;subst Bc
 try dsimp only
 refine aV.n<|sr<|ag Y<|dn<|bf ?_;obtain rfl:=O Bb;exact R1 Y
end
section
open Go.Fw
noncomputable def iB(x0:List (List Qr)):Option (Bool):=(b9 (λ(tJ:Int)=>(show Option ((Int)⊕((Unit)⊕(Bool)))from(some (x0.length:Int)).bind λx6=>(some (decide ((tJ:Int)<x6))).bind λx7=>(bif x7 then cg (λ(EB:Bool)=>(bif EB then some (.inr (.inr true))else(some (IntKind.i64.wrap (tJ+1))).bind λx9=>some (.inl x9))) λIe=>(c9 x0 tJ).bind λdj=>(some (dj.length:Int)).bind λdV=>(some (decide ((20:Int)<dV))).bind λeN=>(bif eN then some true else(c9 x0 tJ).bind λjZ=>(jM jZ).bind λgi=>some gi).bind λJx=>Ie Jx else some (.inr (.inl ()))))) 0).bind λIz=>match Iz with|.inr v10=>some v10|.inl _=>some false
noncomputable def iC(x0:List (List (List Qr))):Option (Bool):=(b9 (λ(qP:Int)=>(show Option ((Int)⊕((Unit)⊕(Bool)))from(some (x0.length:Int)).bind λx6=>(some (decide ((qP:Int)<x6))).bind λx7=>(bif x7 then cg (λ(EC:Bool)=>(bif EC then some (.inr (.inr true))else(some (IntKind.i64.wrap (qP+1))).bind λx9=>some (.inl x9))) λS6=>(c9 x0 qP).bind λdj=>(some (dj.length:Int)).bind λdV=>(some (decide ((8:Int)<dV))).bind λeN=>(bif eN then some true else(c9 x0 qP).bind λjZ=>(jK jZ).bind λgi=>(some (decide ((8:Int)<gi))).bind λgQ=>some gQ).bind λJy=>(bif Jy then some true else(c9 x0 qP).bind λgN=>(iB gN).bind λgR=>some gR).bind λQc=>S6 Qc else some (.inr (.inl ()))))) 0).bind λLG=>match LG with|.inr mX=>some mX|.inl _=>some false
noncomputable def kH:Option (Lr):=(dZ [[3,5]]).bind λx3=>(dZ [[1,0],[0,2],[3,2]]).bind λx8=>(cP [4,12,18]).bind λdJ=>some ⟨2,x3,x8,dJ⟩
noncomputable def eJ:Option (Bool):=(kH).bind λ⟨wF,wG,Bj,Bk⟩=>(iz ⟨wF,wG,Bj,Bk⟩).bind λ⟨⟨Bo,Bp,Bq,Br⟩,GC⟩=>(dZ [[(-4),(-12),(-18)]]).bind λeN=>(dZ [[(-1),0,(-3)],[0,(-2),(-2)]]).bind λjZ=>(cP [(-3),(-5)]).bind λgi=>(cP [2,6]).bind λgO=>(mG 3 2).bind λ⟨⟨Fx,Fy⟩,⟨Fz,FA⟩⟩=>(lj 1).bind λ⟨⟨tg,rm⟩,⟨FB,FC⟩⟩=>cg (λ(On:Bool)=>some On) λK36=>(gx ⟨wF,wG,Bj,Bk⟩).bind λuO=>(bif uO then(gE ⟨wF,wG,Bj,Bk⟩ gO).bind λmQ=>some mQ else some false).bind λJz=>(bif Jz then(iN ⟨wF,wG,Bj,Bk⟩ gO).bind λoP=>(cP [36]).bind λwO=>(dY oP wO).bind λo8=>some o8 else some false).bind λQd=>(bif Qd then(mE ⟨wF,wG,Bj,Bk⟩ gO).bind λsB=>(cP [2,0,0]).bind λR9=>(dY sB R9).bind λvG=>some vG else some false).bind λQe=>(bif Qe then(some (decide ((GC:Int)=0))).bind λCx=>some Cx else some false).bind λJA=>(bif JA then(kx ⟨Bo,Bp,Bq,Br⟩ ⟨3,eN,jZ,gi⟩).bind λIh=>some Ih else some false).bind λQf=>(bif Qf then(gE ⟨Bo,Bp,Bq,Br⟩ [⟨⟨false,[]⟩,⟨false,[]⟩⟩,⟨⟨Fx,Fy⟩,⟨Fz,FA⟩⟩,⟨⟨tg,rm⟩,⟨FB,FC⟩⟩]).bind λYE=>some YE else some false).bind λQg=>(bif Qg then(iN ⟨Bo,Bp,Bq,Br⟩ [⟨⟨false,[]⟩,⟨false,[]⟩⟩,⟨⟨Fx,Fy⟩,⟨Fz,FA⟩⟩,⟨⟨tg,rm⟩,⟨FB,FC⟩⟩]).bind λQ9=>(cP [(-36)]).bind λS7=>(dY Q9 S7).bind λIp=>some Ip else some false).bind λQh=>K36 Qh
noncomputable def jN(x0:List (List Qr)):Option (Bool):=(b9 (λ(kU:Int)=>(show Option ((Int)⊕((Unit)⊕(Bool)))from(some (x0.length:Int)).bind λx6=>(some (decide ((kU:Int)<x6))).bind λx7=>(bif x7 then(c9 x0 kU).bind λdj=>(some (dj.length:Int)).bind λdV=>(some (decide ((0:Int)<dV))).bind λeN=>(bif eN then some (.inr (.inr false))else(some (IntKind.i64.wrap (kU+1))).bind λx9=>some (.inl x9))else some (.inr (.inl ()))))) 0).bind λe6=>match e6 with|.inr v6=>some v6|.inl _=>some true
noncomputable def lp(x0:List Qr):Option (List Qr):=(some (x0.length:Int)).bind λx5=>(some (min (x5:Int) 20)).bind λx6=>(sM x0 0 x6).bind λx7=>some x7
noncomputable def jO(x0:Lr):Option (Bool):=match x0 with|⟨bu,bt,bM,bR⟩=>cg (λ(Oo:Bool)=>some Oo) λK59=>(some (bt.length:Int)).bind λx5=>(some (decide ((6:Int)<x5))).bind λx6=>(bif x6 then some true else(some (bM.length:Int)).bind λdJ=>(some (decide ((140:Int)<dJ))).bind λfK=>some fK).bind λJB=>(bif JB then some true else(some (bR.length:Int)).bind λfE=>(some (decide ((140:Int)<fE))).bind λeM=>some eM).bind λLH=>(bif LH then some true else(some (bM.length:Int)).bind λgQ=>(some (decide ((8:Int)<gQ))).bind λgM=>(bif gM then(jN bM).bind λgN=>(some (!gN)).bind λmR=>some mR else some false).bind λLI=>some LI).bind λLJ=>(bif LJ then some true else(some (bM.length:Int)).bind λmQ=>(some (decide ((mQ:Int)<=8))).bind λrj=>(bif rj then(iC [bM]).bind λlT=>some lT else some false).bind λLK=>some LK).bind λLL=>(bif LL then some true else(iC [bt]).bind λsB=>some sB).bind λLM=>(bif LM then some true else(lp bR).bind λy5=>(iB [y5]).bind λCx=>some Cx).bind λLN=>K59 LN
noncomputable def gz(x0:Lr):Option (Bool):=match x0 with|⟨bu,bt,bM,bR⟩=>(jO ⟨bu,bt,bM,bR⟩).bind λdJ=>(bif dJ then(eJ).bind λfK=>some fK else(iz ⟨bu,bt,bM,bR⟩).bind λ⟨⟨ED,EE,EF,EG⟩,JC⟩=>(cA ⟨bu,bt,bM,bR⟩ 0).bind λ⟨⟨JD,JE,JF,JG⟩,pO⟩=>(some (decide ((JC:Int)≠0))).bind λgM=>(bif gM then cg (λ(Tk:Bool)=>some Tk) λK5=>(some (decide ((JC:Int)=1))).bind λlO=>(bif lO then(eJ).bind λgN=>some gN else some false).bind λOq=>K5 Oq else(iz ⟨ED,EE,EF,EG⟩).bind λ⟨⟨JH,JI,JJ,JK⟩,Qi⟩=>cg (λ(Ot:Bool)=>some Ot) λW9=>(some (decide ((pO:Int)=0))).bind λrj=>(bif rj then(some (decide ((Qi:Int)=0))).bind λsy=>some sy else some false).bind λJM=>(bif JM then(gx ⟨ED,EE,EF,EG⟩).bind λo8=>some o8 else some false).bind λQj=>(bif Qj then(kx ⟨JH,JI,JJ,JK⟩ ⟨JD,JE,JF,JG⟩).bind λsB=>some sB else some false).bind λQk=>(bif Qk then(eJ).bind λvG=>some vG else some false).bind λQl=>W9 Ql))
end
section
open Go.Fw Go.Fw.Z Go.RowKit
theorem iP{x0:List (List Qr)}{r:Bool}(h:iB x0=some r):Pure ah 18 [slc 1 (List.map (eS 4 eQ) x0)] (az r):=by
 refine aZ Tryz.func18 Y (af Y) (λdD M vs hvs=>?_);unfold iB at h;refine sr<|ag Y<|dn<|qq<|sr<|ag Y<|dn<|bE h λIz AR qK=>?_;refine bK (λ(Qm:Unit)=>AS.ct 23 [] [] []) (λQm=>.inl Qm=Iz) ?_ (λQm AT=>?_);refine bj ?_;refine bL AR (λzS=>AS.ct 23 [(0,.sv (slc 1 (List.map (eS 4 eQ) x0))),(3,ai zS)] [] []) (wR []) (λtJ Ue Uf h AU xI=>?_)
 try dsimp only
 refine qq<|sr<|mv Y<|mv Y<|lE h λx6 h6 h=>ln Y h6<|lE h λx7 h7 h=>ls _ Y Y h7<|dn ?_;cases x7;refine cF<|bP<|aV.x<|aV.x<|bw.x<|aV.n ?_;obtain rfl:=O (F h);exact⟨(),xI _ Y,wR []⟩;refine cT<|bp<|aV.n<|qq<|bj<|qq ?_;refine bC (V h) (λIA=>AS.ct 23 [(0,.sv (slc 1 (List.map (eS 4 eQ) x0))),(3,ai tJ),(22,aj IA)] [] []) (λh=>?_) (λEB h=>?_);refine aW<|mv Y<|mv Y<|bE h λdj fW h=>ix Y Y fW<|lr Y Y<|lE h λdV iJ h=>ln Y iJ<|lE h λeN jy h=>gt _ Y Y jy<|mv Y<|bE h λJx ez h=>?_;cases eN;refine gm Y<|gm Y<|bE (F ez) λjZ mz ez=>RT.MW (.some Y Y) Y Y T mz<|gr Y Y<|bE ez λgi mU ez=>gc (zC mU) ⟨Y,aq⟩ ?_;obtain rfl:=O ez;exact pF Y<|dn<|⟨gi,h,wR []⟩;obtain rfl:=O (V ez);exact ww<|ww<|ww<|ww<|ww<|pT Y<|dn<|⟨true,h,wR []⟩
 try dsimp only
 refine aV.n ?_;cases EB;refine cF<|bp<|bw.n<|aV.n<|aW<|mv Y<|lE (F h) λx9 h9 h=>ad _ Y Y h9<|ag Y<|RT.done ?_;obtain rfl:=O h;exact aV.n ⟨x9,AU _ Y,wR []⟩;refine cT<|sr<|ag Y<|dn<|bf<|bw.r<|aV.r ?_;obtain rfl:=O (V h);have YF:=xI _ Y;subst YF;refine aV.r<|bw.r<|aV.r<|aV.r ?_;obtain rfl:=O qK;exact R1 Y;subst AT
 try dsimp only
 refine aV.n<|sr<|ag Y<|dn<|bf ?_;obtain rfl:=O qK;exact R1 Y
theorem gG{x0:List (List (List Qr))}{r:Bool}(h:iC x0=some r):Pure ah 45 [slc 1 (List.map (eS 1 (eS 4 eQ)) x0)] (az r):=by
 refine aZ Tryz.func45 Y (af Y) (λdD M vs hvs=>?_);unfold iC at h;refine sr<|ag Y<|dn<|qq<|sr<|ag Y<|dn<|bE h λLG Ex Bb=>?_;refine bK (λ(EA:Unit)=>AS.ct 31 [] [] []) (λEA=>.inl EA=LG) ?_ (λEA Bc=>?_);refine bj ?_;refine bL Ex (λJj=>AS.ct 31 [(0,.sv (slc 1 (List.map (eS 1 (eS 4 eQ)) x0))),(3,ai Jj)] [] []) (wR []) (λqP y16 G16 h Ju Ey=>?_)
 try dsimp only
 refine qq<|sr<|mv Y<|mv Y<|lE h λx6 h6 h=>ln Y h6<|lE h λx7 h7 h=>ls _ Y Y h7<|dn ?_;cases x7;refine cF<|bP<|aV.x<|aV.x<|bw.x<|aV.n ?_;obtain rfl:=O (F h);exact⟨(),Ey _ Y,wR []⟩;refine cT<|bp<|aV.n<|qq<|bj<|qq ?_;refine bC (V h) (λTa=>AS.ct 31 [(0,.sv (slc 1 (List.map (eS 1 (eS 4 eQ)) x0))),(3,ai qP),(30,aj Ta)] [] []) (λh=>?_) (λEC h=>?_);refine aW<|mv Y<|mv Y<|bE h λdj fW h=>ix Y Y fW<|lr Y Y<|lE h λdV iJ h=>ln Y iJ<|lE h λeN jy h=>gt _ Y Y jy<|mv Y<|bE h λJy jb h=>?_;cases eN;refine gm Y<|gm Y<|bE (F jb) λjZ mz jb=>RT.MW (.some Y Y) Y Y T mz<|gr Y Y<|bE jb λgi mU jb=>gc (zA mU) ⟨Y,aq⟩<|lE jb λgQ nw jb=>gg _ Y Y nw ?_;obtain rfl:=O jb;refine pF Y<|mv Y<|bE h λYG kz h=>?_;cases gQ;refine gm Y<|gm Y<|bE (F kz) λgN nc kz=>RT.MW (.some Y Y) Y Y T nc<|gr Y Y<|bE kz λgR l8 kz=>gc (iP l8) ⟨Y,aq⟩ ?_;obtain rfl:=O kz;exact pF Y<|dn<|⟨gR,h,wR []⟩;obtain rfl:=O (V kz);exact ww<|ww<|ww<|ww<|ww<|pT Y<|dn<|⟨true,h,wR []⟩;obtain rfl:=O (V jb);refine ww<|ww<|ww<|ww<|ww<|ww<|pT Y<|mv Y<|bE h λYH zx h=>?_;obtain rfl:=O (V zx);exact ww<|ww<|ww<|ww<|ww<|pT Y<|dn<|⟨true,h,wR []⟩
 try dsimp only
 refine aV.n ?_;cases EC;refine cF<|bp<|bw.n<|aV.n<|aW<|mv Y<|lE (F h) λx9 h9 h=>ad _ Y Y h9<|ag Y<|RT.done ?_;obtain rfl:=O h;exact aV.n ⟨x9,Ju _ Y,wR []⟩;refine cT<|sr<|ag Y<|dn<|bf<|bw.r<|aV.r ?_;obtain rfl:=O (V h);have Qb:=Ey _ Y;subst Qb;refine aV.r<|bw.r<|aV.r<|aV.r ?_;obtain rfl:=O Bb;exact R1 Y;subst Bc
 try dsimp only
 refine aV.n<|sr<|ag Y<|dn<|bf ?_;obtain rfl:=O Bb;exact R1 Y
theorem yo{r:Lr}(h:kH=some r):Pure ah 40 [] (.agg (AD r)):=by
 refine aZ Tryz.func40 Y (af Y) (λdD M vs hvs=>?_);unfold kH at h;refine sr<|al (cs:=[ay 0,slc 1 (List.map (eS 4 eQ) []),slc 1 (List.map (eS 4 eQ) []),slc 4 (List.map eQ [])]) (by exact⟨au,aB,aB,aB,aq⟩) Y<|dn<|sr<|bl (l:=[3,5]) (e:=bG) (.one Y (.one Y (.nil))) Y Y Y Y Y Y<|bl (l:=[[3,5]]) (e:=(eS 1 bG)) (.one Y (.nil)) Y Y Y Y Y Y<|bE h λx3 h3 h=>cl (iU h3) ⟨Y,aq⟩<|bl (l:=[1,0]) (e:=bG) (.one Y (.one Y (.nil))) Y Y Y Y Y Y ?_;refine bl (l:=[0,2]) (e:=bG) (.one Y (.one Y (.nil))) Y Y Y Y Y Y<|bl (l:=[3,2]) (e:=bG) (.one Y (.one Y (.nil))) Y Y Y Y Y Y<|bl (l:=[[1,0],[0,2],[3,2]]) (e:=(eS 1 bG)) (.one Y (.one Y (.one Y (.nil)))) Y Y Y Y Y Y<|bE h λx8 h8 h=>cl (iU h8) ⟨Y,aq⟩<|bl (l:=[4,12,18]) (e:=bG) (.one Y (.one Y (.one Y (.nil)))) Y Y Y Y Y Y<|bE h λdJ fZ h=>cl (eu fZ) ⟨Y,aq⟩ ?_;refine bI (cs:=[_,_,_,_]) (cs':=[ay 2,slc 1 (List.map (eS 4 eQ) x3),slc 1 (List.map (eS 4 eQ) x8),slc 4 (List.map eQ dJ)]) (.one Y (.one Y (.one Y (.one Y (.nil))))) ⟨au,au,au,au,aq⟩<|so Y Y Y<|dn<|bf ?_;obtain rfl:=O h;exact RZ (.agg Y Y (.k4 Y Y Y Y) Y (.nil))
set_option maxHeartbeats 4000000 in
theorem mH{r:Bool}(h:eJ=some r):Pure ah 9 [] (az r):=by
 refine aZ Tryz.func9 Y (af Y) (λdD M vs hvs=>?_);unfold eJ at h;refine sr<|ag Y<|dn<|sr ?_;obtain⟨⟨wF,wG,Bj,Bk⟩,h7,h⟩:=bS h;refine cl (yo h7) trivial<|al (cs:=[ay 0,slc 1 (List.map (eS 4 eQ) []),slc 1 (List.map (eS 4 eQ) []),slc 4 (List.map eQ [])]) (by exact⟨au,aB,aB,aB,aq⟩) Y<|so Y Y Y<|dn<|sr<|ld Y Y (.k4 Y Y Y Y) ?_;obtain⟨⟨⟨Bo,Bp,Bq,Br⟩,GC⟩,fZ,h⟩:=bS h;refine cl (si fZ) ⟨Y,aq⟩<|mv Y<|ex Y Y<|ex Y Y<|al (cs:=[ay 0,slc 1 (List.map (eS 4 eQ) []),slc 1 (List.map (eS 4 eQ) []),slc 4 (List.map eQ [])]) (by exact⟨au,aB,aB,aB,aq⟩) Y<|so Y Y Y<|ag Y<|dn<|sr<|bl (l:=[(-4),(-12),(-18)]) (e:=bG) (.one Y (.one Y (.one Y (.nil)))) Y Y Y Y Y Y<|bl (l:=[[(-4),(-12),(-18)]]) (e:=(eS 1 bG)) (.one Y (.nil)) Y Y Y Y Y Y ?_;refine bE h λeN jy h=>cl (iU jy) ⟨Y,aq⟩<|bl (l:=[(-1),0,(-3)]) (e:=bG) (.one Y (.one Y (.one Y (.nil)))) Y Y Y Y Y Y<|bl (l:=[0,(-2),(-2)]) (e:=bG) (.one Y (.one Y (.one Y (.nil)))) Y Y Y Y Y Y<|bl (l:=[[(-1),0,(-3)],[0,(-2),(-2)]]) (e:=(eS 1 bG)) (.one Y (.one Y (.nil))) Y Y Y Y Y Y<|bE h λjZ mz h=>cl (iU mz) ⟨Y,aq⟩<|bl (l:=[(-3),(-5)]) (e:=bG) (.one Y (.one Y (.nil))) Y Y Y Y Y Y ?_
 refine bE h λgi mU h=>cl (eu mU) ⟨Y,aq⟩<|bI (cs:=[_,_,_,_]) (cs':=[ay 3,slc 1 (List.map (eS 4 eQ) eN),slc 1 (List.map (eS 4 eQ) jZ),slc 4 (List.map eQ gi)]) (.one Y (.one Y (.one Y (.one Y (.nil))))) ⟨au,au,au,au,aq⟩<|al (cs:=[ay 0,slc 1 (List.map (eS 4 eQ) []),slc 1 (List.map (eS 4 eQ) []),slc 4 (List.map eQ [])]) (by exact⟨au,aB,aB,aB,aq⟩) Y<|so Y Y Y ?_;refine dn<|sr<|bl (l:=[2,6]) (e:=bG) (.one Y (.one Y (.nil))) Y Y Y Y Y Y<|bE h λgO oT h=>cl (eu oT) ⟨Y,aq⟩<|bI (cs:=[_,_,_,_]) (cs':=[az false,ax,az false,ax]) (.nil) ⟨au,aB,au,aB,aq⟩ ?_;obtain⟨⟨⟨Fx,Fy⟩,⟨Fz,FA⟩⟩,rW,h⟩:=bS h;refine cl (C5 rW) ⟨Y,Y,aq⟩ ?_;obtain⟨⟨⟨tg,rm⟩,⟨FB,FC⟩⟩,nc,h⟩:=bS h;refine cl (Bn nc) ⟨Y,aq⟩<|bl (l:=[⟨⟨false,[]⟩,⟨false,[]⟩⟩,⟨⟨Fx,Fy⟩,⟨Fz,FA⟩⟩,⟨⟨tg,rm⟩,⟨FB,FC⟩⟩]) (e:=eQ) (.agg Y (.agg Y (.agg Y (.nil)))) Y Y Y Y Y Y<|ag Y<|ag Y<|dn<|qq ?_;refine bC h (λj36=>AS.ct 74 [(0,aj j36)] [] []) (λh=>?_) (λOn h=>?_);refine aW<|ld Y Y (.k4 Y Y Y Y)<|bE h λuO zh h=>cl (kW zh) ⟨Y,aq⟩<|mv Y<|bE h λJz u0 h=>?_;cases uO;obtain rfl:=O (F u0);refine ww<|ww<|ww<|pF Y<|mv Y<|bE h λYI C4 h=>?_;obtain rfl:=O (F C4);refine ww<|ww<|ww<|ww<|ww<|ww<|pF Y<|mv Y<|bE h λYJ C6 h=>?_;obtain rfl:=O (F C6)
 refine ww<|ww<|ww<|ww<|ww<|ww<|pF Y<|mv Y<|bE h λYK C7 h=>?_;obtain rfl:=O (F C7);refine ww<|ww<|pF Y<|mv Y<|bE h λYL yp h=>?_;obtain rfl:=O (F yp);refine ww<|ww<|ww<|pF Y<|mv Y<|bE h λYM C8 h=>?_;obtain rfl:=O (F C8);refine ww<|ww<|ww<|pF Y<|mv Y<|bE h λYN yq h=>?_;obtain rfl:=O (F yq);exact ww<|ww<|ww<|ww<|ww<|ww<|pF Y<|ag Y<|dn<|⟨false,h,wR []⟩;refine gl Y Y (.k4 Y Y Y Y)<|gm Y<|bE (V u0) λmQ qL u0=>gc (pV qL) ⟨Y,Y,aq⟩ ?_;obtain rfl:=O u0;refine pT Y<|mv Y<|bE h λYO r7 h=>?_;cases mQ;obtain rfl:=O (F r7);refine ww<|ww<|ww<|ww<|ww<|ww<|pF Y<|mv Y<|bE h λYP YQ h=>?_;obtain rfl:=O (F YQ);refine ww<|ww<|ww<|ww<|ww<|ww<|pF Y<|mv Y<|bE h λYR YS h=>?_;obtain rfl:=O (F YS);refine ww<|ww<|pF Y<|mv Y<|bE h λYT YU h=>?_;obtain rfl:=O (F YU);refine ww<|ww<|ww<|pF Y<|mv Y<|bE h λYV YW h=>?_;obtain rfl:=O (F YW);refine ww<|ww<|ww<|pF Y<|mv Y<|bE h λYX YY h=>?_;obtain rfl:=O (F YY);exact ww<|ww<|ww<|ww<|ww<|ww<|pF Y<|ag Y<|dn<|⟨false,h,wR []⟩;refine gl Y Y (.k4 Y Y Y Y)<|gm Y<|bE (V r7) λoP CD r7=>gc (pW CD) ⟨Y,Y,aq⟩<|RT.gL (l:=[36]) (e:=bG) (.some Y Y) (.one Y (.nil)) T Y Y Y Y Y Y<|bE r7 λwO Gw r7=>gc (eu Gw) ⟨Y,aq⟩<|bE r7 λo8 AW r7=>gc (jF AW) ⟨Y,Y,aq⟩ ?_;obtain rfl:=O r7
 refine pT Y<|mv Y<|bE h λYZ wm h=>?_;cases o8;obtain rfl:=O (F wm);refine ww<|ww<|ww<|ww<|ww<|ww<|pF Y<|mv Y<|bE h λY0 Y1 h=>?_;obtain rfl:=O (F Y1);refine ww<|ww<|pF Y<|mv Y<|bE h λY2 Y3 h=>?_;obtain rfl:=O (F Y3);refine ww<|ww<|ww<|pF Y<|mv Y<|bE h λY4 Y5 h=>?_;obtain rfl:=O (F Y5);refine ww<|ww<|ww<|pF Y<|mv Y<|bE h λY6 Y7 h=>?_;obtain rfl:=O (F Y7);exact ww<|ww<|ww<|ww<|ww<|ww<|pF Y<|ag Y<|dn<|⟨false,h,wR []⟩;refine gl Y Y (.k4 Y Y Y Y)<|gm Y<|bE (V wm) λsB xJ wm=>gc (C1 xJ) ⟨Y,Y,aq⟩<|RT.gL (l:=[2,0,0]) (e:=bG) (.some Y Y) (.one Y (.one Y (.one Y (.nil)))) T Y Y Y Y Y Y<|bE wm λR9 Pv wm=>gc (eu Pv) ⟨Y,aq⟩<|bE wm λvG Gx wm=>gc (jF Gx) ⟨Y,Y,aq⟩ ?_;obtain rfl:=O wm;refine pT Y<|mv Y<|bE h λY8 GK h=>?_;cases vG;obtain rfl:=O (F GK);refine ww<|ww<|pF Y<|mv Y<|bE h λY9 Za h=>?_;obtain rfl:=O (F Za);refine ww<|ww<|ww<|pF Y<|mv Y<|bE h λZb Zc h=>?_;obtain rfl:=O (F Zc);refine ww<|ww<|ww<|pF Y<|mv Y<|bE h λZd Ze h=>?_;obtain rfl:=O (F Ze);exact ww<|ww<|ww<|ww<|ww<|ww<|pF Y<|ag Y<|dn<|⟨false,h,wR []⟩;refine gm Y<|lE (V GK) λCx Fo GK=>Q6 _ Y Y (vD (p:=GC) (q:=0) Fo) ?_;obtain rfl:=O GK;refine pT Y<|mv Y<|bE h λZf GL h=>?_;cases Cx;obtain rfl:=O (F GL)
 refine ww<|ww<|ww<|pF Y<|mv Y<|bE h λZg Zh h=>?_;obtain rfl:=O (F Zh);refine ww<|ww<|ww<|pF Y<|mv Y<|bE h λZi Zj h=>?_;obtain rfl:=O (F Zj);exact ww<|ww<|ww<|ww<|ww<|ww<|pF Y<|ag Y<|dn<|⟨false,h,wR []⟩;refine gl Y Y (.k4 Y Y Y Y)<|gl Y Y (.k4 Y Y Y Y)<|bE (V GL) λIh SD GL=>gc (vV SD) ⟨Y,Y,aq⟩ ?_;obtain rfl:=O GL;refine pT Y<|mv Y<|bE h λZk LO h=>?_;cases Ih;obtain rfl:=O (F LO);refine ww<|ww<|ww<|pF Y<|mv Y<|bE h λZl Zm h=>?_;obtain rfl:=O (F Zm);exact ww<|ww<|ww<|ww<|ww<|ww<|pF Y<|ag Y<|dn<|⟨false,h,wR []⟩;refine gl Y Y (.k4 Y Y Y Y)<|gm Y<|bE (V LO) λYE Rk LO=>gc (pV Rk) ⟨Y,Y,aq⟩ ?_;obtain rfl:=O LO;refine pT Y<|mv Y<|bE h λZn C9 h=>?_;cases YE;obtain rfl:=O (F C9);exact ww<|ww<|ww<|ww<|ww<|ww<|pF Y<|ag Y<|dn<|⟨false,h,wR []⟩;refine gl Y Y (.k4 Y Y Y Y)<|gm Y<|bE (V C9) λQ9 SG C9=>gc (pW SG) ⟨Y,Y,aq⟩<|RT.gL (l:=[(-36)]) (e:=bG) (.some Y Y) (.one Y (.nil)) T Y Y Y Y Y Y<|bE C9 λS7 Yz C9=>gc (eu Yz) ⟨Y,aq⟩<|bE C9 λIp SI C9=>gc (jF SI) ⟨Y,Y,aq⟩ ?_;obtain rfl:=O C9;exact pT Y<|ag Y<|dn<|⟨Ip,h,wR []⟩
 try dsimp only
 refine aV.n<|bf ?_;obtain rfl:=O h;exact R1 Y
theorem zD{x0:List (List Qr)}{r:Bool}(h:jN x0=some r):Pure ah 44 [slc 1 (List.map (eS 4 eQ) x0)] (az r):=by
 refine aZ Tryz.func44 Y (af Y) (λdD M vs hvs=>?_);unfold jN at h;refine sr<|ag Y<|dn<|qq<|sr<|ag Y<|dn<|bE h λe6 ze jk=>?_;refine bK (λ(Eb:Unit)=>AS.ct 16 [] [] []) (λEb=>.inl Eb=e6) ?_ (λEb zf=>?_);refine bj ?_;refine bL ze (λs6=>AS.ct 16 [(0,.sv (slc 1 (List.map (eS 4 eQ) x0))),(3,ai s6)] [] []) (wR []) (λkU y6 G6 h zg uT=>?_)
 try dsimp only
 refine qq<|sr<|mv Y<|mv Y<|lE h λx6 h6 h=>ln Y h6<|lE h λx7 h7 h=>ls _ Y Y h7<|dn ?_;cases x7;refine cF<|bP<|aV.x<|aV.x<|bw.x<|aV.n ?_;obtain rfl:=O (F h);exact⟨(),uT _ Y,wR []⟩;refine cT<|bp<|aV.n<|qq<|bj<|sr<|mv Y<|mv Y<|bE (V h) λdj fW h=>ix Y Y fW<|lr Y Y<|lE h λdV iJ h=>ln Y iJ<|lE h λeN jy h=>gt _ Y Y jy<|dn ?_;cases eN;refine cF<|bp<|bw.n<|aV.n<|aW<|mv Y<|lE (F h) λx9 h9 h=>ad _ Y Y h9<|ag Y<|RT.done ?_;obtain rfl:=O h;exact aV.n ⟨x9,zg _ Y,wR []⟩;refine cT<|sr<|ag Y<|dn<|bf<|bw.r<|aV.r ?_;obtain rfl:=O (V h);have IB:=uT _ Y;subst IB;refine aV.r<|bw.r<|aV.r<|aV.r ?_;obtain rfl:=O jk;exact R1 Y;subst zf
 try dsimp only
 refine aV.n<|sr<|ag Y<|dn<|bf ?_;obtain rfl:=O jk;exact R1 Y
theorem lX{x0:List Qr}{r:List Qr}(h:lp x0=some r):Pure ah 46 [slc 4 (List.map eQ x0)] (slc 4 (List.map eQ r)):=by
 refine aZ Tryz.func46 Y (af Y) (λdD M vs hvs=>?_);unfold lp at h;refine sr<|aI Y (aB (n:=4) (e:=eQ))<|dn<|sr<|mv Y<|mv Y<|lE h λx5 h5 h=>ln Y h5<|lE h λx6 h6 h=>RT.min .none _ Y Y T (RO (p:=x5) (q:=20) h6)<|bE h λx7 h7 h=>RT.rP .none 0 x6 Y Y ⟨_,Y⟩ T h7<|ag Y<|dn<|bf ?_;obtain rfl:=O h;exact R1 Y
set_option maxHeartbeats 4000000 in
theorem zE{x0:Lr}{r:Bool}(h:jO x0=some r):Pure ah 10 [.agg (AD x0)] (az r):=by
 obtain⟨bu,bt,bM,bR⟩:=x0;refine aZ Tryz.func10 Y (af Y) (λdD M vs hvs=>?_);unfold jO at h;refine sr<|bx Y<|ag Y<|dn<|qq ?_;refine bC h (λj59=>AS.ct 56 [(2,aj j59)] [] []) (λh=>?_) (λOo h=>?_);refine aW<|fa Y Y<|lV Y Y Y<|lE h λx5 h5 h=>ln Y h5<|lE h λx6 h6 h=>gt _ Y Y h6<|mv Y<|bE h λJB C6 h=>?_;cases x6;refine RT.fieldAddr (.some Y Y) Y T Y<|RT.qJ (.some Y Y) Y Y Y T<|lE (F C6) λdJ fZ C6=>gn Y fZ<|lE C6 λfK lH C6=>gg _ Y Y lH ?_;obtain rfl:=O C6;refine pF Y<|mv Y<|bE h λZo C7 h=>?_;cases fK;refine RT.fieldAddr (.some Y Y) Y T Y<|RT.qJ (.some Y Y) Y Y Y T<|lE (F C7) λfE iY C7=>gn Y iY<|lE C7 λeM kg C7=>gg _ Y Y kg ?_;obtain rfl:=O C7;refine pF Y<|mv Y<|bE h λZp yp h=>?_;cases eM;refine RT.fieldAddr (.some Y Y) Y T Y<|RT.qJ (.some Y Y) Y Y Y T<|lE (F yp) λgQ nw yp=>gn Y nw<|lE yp λgM oc yp=>gg _ Y Y oc<|gm Y<|bE yp λZq C8 yp=>?_;cases gM;obtain rfl:=O (F C8);refine ww<|ww<|ww<|ww<|gF Y ?_;obtain rfl:=O yp;refine pF Y<|mv Y<|bE h λZs Da h=>RT.fieldAddr (.some Y Y) Y T Y<|RT.qJ (.some Y Y) Y Y Y T<|lE (F Da) λmQ qL Da=>gn Y qL<|lE Da λrj zj Da=>RT.leq (.some Y Y) _ Y Y T zj<|gm Y<|bE Da λZt LP Da=>?_;cases rj;obtain rfl:=O (F LP);refine ww<|ww<|ww<|ww<|gF Y ?_;obtain rfl:=O Da
 refine pF Y<|mv Y<|bE h λZu Qn h=>RT.fieldAddr (.some Y Y) Y T Y<|RT.qJ (.some Y Y) Y Y Y T<|RT.gL (l:=[bt]) (e:=(eS 1 (eS 4 eQ))) (.some Y Y) (.one Y (.nil)) T Y Y Y Y Y Y<|bE (F Qn) λsB xJ Qn=>gc (gG xJ) ⟨Y,aq⟩ ?_;obtain rfl:=O Qn;refine pF Y<|mv Y<|bE h λZv GU h=>?_;cases sB;refine RT.fieldAddr (.some Y Y) Y T Y<|RT.qJ (.some Y Y) Y Y Y T<|bE (F GU) λy5 Ec GU=>gc (lX Ec) ⟨Y,aq⟩<|RT.gL (l:=[y5]) (e:=(eS 4 eQ)) (.some Y Y) (.one Y (.nil)) T Y Y Y Y Y Y<|bE GU λCx Fo GU=>gc (iP Fo) ⟨Y,aq⟩ ?_;obtain rfl:=O GU;exact pF Y<|ag Y<|dn<|⟨Cx,h,wR []⟩;obtain rfl:=O (V GU);exact ww<|ww<|ww<|ww<|ww<|pT Y<|ag Y<|dn<|⟨true,h,wR []⟩;refine RT.fieldAddr (.some Y Y) Y T Y<|RT.qJ (.some Y Y) Y Y Y T<|RT.gL (l:=[bM]) (e:=(eS 1 (eS 4 eQ))) (.some Y Y) (.one Y (.nil)) T Y Y Y Y Y Y<|bE (V LP) λlT rz LP=>gc (gG rz) ⟨Y,aq⟩ ?_;obtain rfl:=O LP;refine gT Y ?_;obtain rfl:=O Da;refine pF Y<|mv Y<|bE h λZw LQ h=>?_;cases lT;refine RT.fieldAddr (.some Y Y) Y T Y<|RT.qJ (.some Y Y) Y Y Y T<|RT.gL (l:=[bt]) (e:=(eS 1 (eS 4 eQ))) (.some Y Y) (.one Y (.nil)) T Y Y Y Y Y Y<|bE (F LQ) λsB xJ LQ=>gc (gG xJ) ⟨Y,aq⟩ ?_;obtain rfl:=O LQ;refine pF Y<|mv Y<|bE h λZx GV h=>?_;cases sB
 refine RT.fieldAddr (.some Y Y) Y T Y<|RT.qJ (.some Y Y) Y Y Y T<|bE (F GV) λy5 Ec GV=>gc (lX Ec) ⟨Y,aq⟩<|RT.gL (l:=[y5]) (e:=(eS 4 eQ)) (.some Y Y) (.one Y (.nil)) T Y Y Y Y Y Y<|bE GV λCx Fo GV=>gc (iP Fo) ⟨Y,aq⟩ ?_;obtain rfl:=O GV;exact pF Y<|ag Y<|dn<|⟨Cx,h,wR []⟩;obtain rfl:=O (V GV);exact ww<|ww<|ww<|ww<|ww<|pT Y<|ag Y<|dn<|⟨true,h,wR []⟩;obtain rfl:=O (V LQ);refine ww<|ww<|ww<|ww<|pT Y<|mv Y<|bE h λZy Zz h=>?_;obtain rfl:=O (V Zz);exact ww<|ww<|ww<|ww<|ww<|pT Y<|ag Y<|dn<|⟨true,h,wR []⟩;refine RT.fieldAddr (.some Y Y) Y T Y<|RT.qJ (.some Y Y) Y Y Y T<|bE (V C8) λgN nc C8=>gc (zD nc) ⟨Y,aq⟩<|lE C8 λmR tv C8=>gt_ Y _ tv ?_;obtain rfl:=O C8;refine gT Y ?_;obtain rfl:=O yp;refine pF Y<|mv Y<|bE h λZA yq h=>?_;cases mR;refine RT.fieldAddr (.some Y Y) Y T Y<|RT.qJ (.some Y Y) Y Y Y T<|lE (F yq) λmQ qL yq=>gn Y qL<|lE yq λrj zj yq=>RT.leq (.some Y Y) _ Y Y T zj<|gm Y<|bE yq λZB LR yq=>?_;cases rj;obtain rfl:=O (F LR);refine ww<|ww<|ww<|ww<|gF Y ?_;obtain rfl:=O yq;refine pF Y<|mv Y<|bE h λZC Qo h=>RT.fieldAddr (.some Y Y) Y T Y<|RT.qJ (.some Y Y) Y Y Y T<|RT.gL (l:=[bt]) (e:=(eS 1 (eS 4 eQ))) (.some Y Y) (.one Y (.nil)) T Y Y Y Y Y Y<|bE (F Qo) λsB xJ Qo=>gc (gG xJ) ⟨Y,aq⟩ ?_
 obtain rfl:=O Qo;refine pF Y<|mv Y<|bE h λZD GW h=>?_;cases sB;refine RT.fieldAddr (.some Y Y) Y T Y<|RT.qJ (.some Y Y) Y Y Y T<|bE (F GW) λy5 Ec GW=>gc (lX Ec) ⟨Y,aq⟩<|RT.gL (l:=[y5]) (e:=(eS 4 eQ)) (.some Y Y) (.one Y (.nil)) T Y Y Y Y Y Y<|bE GW λCx Fo GW=>gc (iP Fo) ⟨Y,aq⟩ ?_;obtain rfl:=O GW;exact pF Y<|ag Y<|dn<|⟨Cx,h,wR []⟩;obtain rfl:=O (V GW);exact ww<|ww<|ww<|ww<|ww<|pT Y<|ag Y<|dn<|⟨true,h,wR []⟩;refine RT.fieldAddr (.some Y Y) Y T Y<|RT.qJ (.some Y Y) Y Y Y T<|RT.gL (l:=[bM]) (e:=(eS 1 (eS 4 eQ))) (.some Y Y) (.one Y (.nil)) T Y Y Y Y Y Y<|bE (V LR) λlT rz LR=>gc (gG rz) ⟨Y,aq⟩ ?_;obtain rfl:=O LR;refine gT Y ?_;obtain rfl:=O yq;refine pF Y<|mv Y<|bE h λZE LS h=>?_;cases lT;refine RT.fieldAddr (.some Y Y) Y T Y<|RT.qJ (.some Y Y) Y Y Y T<|RT.gL (l:=[bt]) (e:=(eS 1 (eS 4 eQ))) (.some Y Y) (.one Y (.nil)) T Y Y Y Y Y Y<|bE (F LS) λsB xJ LS=>gc (gG xJ) ⟨Y,aq⟩ ?_;obtain rfl:=O LS;refine pF Y<|mv Y<|bE h λJA GX h=>?_;cases sB;refine RT.fieldAddr (.some Y Y) Y T Y<|RT.qJ (.some Y Y) Y Y Y T<|bE (F GX) λy5 Ec GX=>gc (lX Ec) ⟨Y,aq⟩<|RT.gL (l:=[y5]) (e:=(eS 4 eQ)) (.some Y Y) (.one Y (.nil)) T Y Y Y Y Y Y<|bE GX λCx Fo GX=>gc (iP Fo) ⟨Y,aq⟩ ?_;obtain rfl:=O GX
 exact pF Y<|ag Y<|dn<|⟨Cx,h,wR []⟩;obtain rfl:=O (V GX);exact ww<|ww<|ww<|ww<|ww<|pT Y<|ag Y<|dn<|⟨true,h,wR []⟩;obtain rfl:=O (V LS);refine ww<|ww<|ww<|ww<|pT Y<|mv Y<|bE h λZF ZG h=>?_;obtain rfl:=O (V ZG);exact ww<|ww<|ww<|ww<|ww<|pT Y<|ag Y<|dn<|⟨true,h,wR []⟩;obtain rfl:=O (V yq);refine ww<|ww<|ww<|ww<|ww<|wu<|wu<|wu<|wu<|ww<|pT Y<|mv Y<|bE h λZH ZI h=>?_;obtain rfl:=O (V ZI);refine ww<|ww<|ww<|ww<|pT Y<|mv Y<|bE h λZJ ZK h=>?_;obtain rfl:=O (V ZK);exact ww<|ww<|ww<|ww<|ww<|pT Y<|ag Y<|dn<|⟨true,h,wR []⟩;obtain rfl:=O (V yp);refine ww<|ww<|ww<|ww<|ww<|wu<|wu<|wu<|wu<|ww<|pT Y<|mv Y<|bE h λZL ZM h=>?_;obtain rfl:=O (V ZM);refine ww<|ww<|ww<|ww<|ww<|wu<|wu<|wu<|wu<|ww<|pT Y<|mv Y<|bE h λZN ZO h=>?_;obtain rfl:=O (V ZO);refine ww<|ww<|ww<|ww<|pT Y<|mv Y<|bE h λUj Tl h=>?_;obtain rfl:=O (V Tl);exact ww<|ww<|ww<|ww<|ww<|pT Y<|ag Y<|dn<|⟨true,h,wR []⟩;obtain rfl:=O (V C7);refine ww<|ww<|ww<|ww<|pT Y<|mv Y<|bE h λUk Tm h=>?_;obtain rfl:=O (V Tm);refine ww<|ww<|ww<|ww<|ww<|wu<|wu<|wu<|wu<|ww<|pT Y<|mv Y<|bE h λUl Tn h=>?_;obtain rfl:=O (V Tn);refine ww<|ww<|ww<|ww<|ww<|wu<|wu<|wu<|wu<|ww<|pT Y<|mv Y<|bE h λUm To h=>?_;obtain rfl:=O (V To)
 refine ww<|ww<|ww<|ww<|pT Y<|mv Y<|bE h λUn Tp h=>?_;obtain rfl:=O (V Tp);exact ww<|ww<|ww<|ww<|ww<|pT Y<|ag Y<|dn<|⟨true,h,wR []⟩;obtain rfl:=O (V C6);refine ww<|ww<|ww<|ww<|pT Y<|mv Y<|bE h λUo Tq h=>?_;obtain rfl:=O (V Tq);refine ww<|ww<|ww<|ww<|pT Y<|mv Y<|bE h λUp Tr h=>?_;obtain rfl:=O (V Tr);refine ww<|ww<|ww<|ww<|ww<|wu<|wu<|wu<|wu<|ww<|pT Y<|mv Y<|bE h λUq Ts h=>?_;obtain rfl:=O (V Ts);refine ww<|ww<|ww<|ww<|ww<|wu<|wu<|wu<|wu<|ww<|pT Y<|mv Y<|bE h λUr Tt h=>?_;obtain rfl:=O (V Tt);refine ww<|ww<|ww<|ww<|pT Y<|mv Y<|bE h λUs Tu h=>?_;obtain rfl:=O (V Tu);exact ww<|ww<|ww<|ww<|ww<|pT Y<|ag Y<|dn<|⟨true,h,wR []⟩
 try dsimp only
 refine aV.n<|bf ?_;obtain rfl:=O h;exact R1 Y
end
section
open Go.Fw Go.Fw.Z Go.RowKit
theorem qQ{x0:Lr}{r:Bool}(h:gz x0=some r):Pure ah 5 [.agg (AD x0)] (az r):=by
 obtain⟨bu,bt,bM,bR⟩:=x0;refine aZ Tryz.func5 Y (af Y) (λdD M vs hvs=>?_);unfold gz at h;refine sr<|bx Y<|ag Y<|dn<|qq<|sr<|ld Y Y (.k4 Y Y Y Y)<|bE h λdJ fZ h=>cl (zE fZ) ⟨Y,aq⟩<|dn ?_;cases dJ;refine fs<|sr<|ld Y Y (.k4 Y Y Y Y) ?_;obtain⟨⟨⟨ED,EE,EF,EG⟩,JC⟩,iJ,h⟩:=bS (F h);refine cl (si iJ) ⟨Y,aq⟩<|mv Y<|ex Y Y<|ex Y Y<|al (cs:=[ay 0,slc 1 (List.map (eS 4 eQ) []),slc 1 (List.map (eS 4 eQ) []),slc 4 (List.map eQ [])]) (by exact⟨au,aB,aB,aB,aq⟩) Y<|so Y Y Y<|ag Y<|dn<|sr<|ld Y Y (.k4 Y Y Y Y) ?_;obtain⟨⟨⟨JD,JE,JF,JG⟩,pO⟩,mz,h⟩:=bS h;refine cl (oS mz) ⟨Y,Y,aq⟩<|mv Y<|ex Y Y<|ex Y Y<|al (cs:=[ay 0,slc 1 (List.map (eS 4 eQ) []),slc 1 (List.map (eS 4 eQ) []),slc 4 (List.map eQ [])]) (by exact⟨au,aB,aB,aB,aq⟩) Y<|so Y Y Y<|ag Y<|dn<|qq<|sr<|mv Y<|lE h λgM oc h=>ne _ Y Y (Kx (p:=JC) (q:=0) oc)<|dn ?_;cases gM;refine fs<|sr<|ld Y Y (.k4 Y Y Y Y) ?_;obtain⟨⟨⟨JH,JI,JJ,JK⟩,Qi⟩,wQ,h⟩:=bS (F h);refine cl (si wQ) ⟨Y,aq⟩<|mv Y<|ex Y Y<|ex Y Y<|al (cs:=[ay 0,slc 1 (List.map (eS 4 eQ) []),slc 1 (List.map (eS 4 eQ) []),slc 4 (List.map eQ [])]) (by exact⟨au,aB,aB,aB,aq⟩) Y<|so Y Y Y<|ag Y<|dn<|qq ?_;refine bC h (λXb=>AS.ct 52 [(2,aj Xb)] [] []) (λh=>?_) (λOt h=>?_)
 refine aW<|mv Y<|lE h λrj zj h=>eq _ Y Y (vD (p:=pO) (q:=0) zj)<|mv Y<|bE h λJM GM h=>?_;cases rj;obtain rfl:=O (F GM);refine ww<|ww<|pF Y<|mv Y<|bE h λZP GH h=>?_;obtain rfl:=O (F GH);refine ww<|ww<|pF Y<|mv Y<|bE h λZQ GI h=>?_;obtain rfl:=O (F GI);refine ww<|ww<|ww<|pF Y<|mv Y<|bE h λZR GJ h=>?_;obtain rfl:=O (F GJ);exact ww<|pF Y<|ag Y<|dn<|⟨false,h,wR []⟩;refine gm Y<|lE (V GM) λsy Cy GM=>Q6 _ Y Y (vD (p:=Qi) (q:=0) Cy) ?_;obtain rfl:=O GM;refine pT Y<|mv Y<|bE h λZS jb h=>?_;cases sy;obtain rfl:=O (F jb);refine ww<|ww<|pF Y<|mv Y<|bE h λZT GF h=>?_;obtain rfl:=O (F GF);refine ww<|ww<|ww<|pF Y<|mv Y<|bE h λZU GG h=>?_;obtain rfl:=O (F GG);exact ww<|pF Y<|ag Y<|dn<|⟨false,h,wR []⟩;refine gl Y Y (.k4 Y Y Y Y)<|bE (V jb) λo8 AW jb=>gc (kW AW) ⟨Y,aq⟩ ?_;obtain rfl:=O jb;refine pT Y<|mv Y<|bE h λZV kz h=>?_;cases o8;obtain rfl:=O (F kz);refine ww<|ww<|ww<|pF Y<|mv Y<|bE h λZW ZX h=>?_;obtain rfl:=O (F ZX);exact ww<|pF Y<|ag Y<|dn<|⟨false,h,wR []⟩;refine gl Y Y (.k4 Y Y Y Y)<|gl Y Y (.k4 Y Y Y Y)<|bE (V kz) λsB xJ kz=>gc (vV xJ) ⟨Y,Y,aq⟩ ?_;obtain rfl:=O kz;refine pT Y<|mv Y<|bE h λZY zx h=>?_;cases sB;obtain rfl:=O (F zx);exact ww<|pF Y<|ag Y<|dn<|⟨false,h,wR []⟩
 refine bE (V zx) λvG Gx zx=>gc (mH Gx) trivial ?_;obtain rfl:=O zx;exact pT Y<|ag Y<|dn<|⟨vG,h,wR []⟩
 try dsimp only
 refine aV.n<|bf ?_;obtain rfl:=O h;exact R1 Y;refine cT<|qq ?_;refine bC (V h) (λj5=>AS.ct 52 [(2,aj j5)] [] []) (λh=>?_) (λTk h=>?_);refine aW<|mv Y<|lE h λlO oe h=>eq _ Y Y (vD (p:=JC) (q:=1) oe)<|mv Y<|bE h λOq rZ h=>?_;cases lO;obtain rfl:=O (F rZ);exact ww<|pF Y<|ag Y<|dn<|⟨false,h,wR []⟩;refine bE (V rZ) λgN nc rZ=>gc (mH nc) trivial ?_;obtain rfl:=O rZ;exact pT Y<|ag Y<|dn<|⟨gN,h,wR []⟩
 try dsimp only
 refine aV.n<|bf<|aV.r ?_;obtain rfl:=O h;exact R1 Y;refine cT<|sr<|bE (V h) λfK lH h=>cl (mH lH) trivial<|ag Y<|dn<|bf<|aV.r ?_;obtain rfl:=O h;exact R1 Y
end
end Go.Proofs.YtfoldppidpmchaaGreat
namespace Go.Fw
section
theorem fO{n:Nat}(h:n<=9223372036854775807):IntKind.i64.wrap (n:Int)=n:=jx (by omega)
theorem cj{x:Int}(h: -9223372036854775808<=x)(h':x<=9223372036854775807):IntKind.i64.wrap x=x:=jx ⟨h,h'⟩
theorem b8{n:Nat}(h:n<9223372036854775807):IntKind.i64.wrap ((n:Int)+1)=((n+1:Nat):Int):=by rw[jx (by omega)];simp
theorem kI{n m:Nat}(h:n+m<=9223372036854775807):IntKind.i64.wrap ((n:Int)+(m:Int))=((n+m:Nat):Int):=by rw[jx (by omega)];simp
theorem yt{n:Nat}(h:n<=9223372036854775807):IntKind.i64.wrap (((n+1:Nat):Int)-1)=(n:Int):=by rw[jx (by omega)];omega
theorem bO{α:Type}{l:List α}{i:Nat}{a:α}(h:l[i]? =some a):c9 l (i:Int)=some a:=by simp[c9,h]
theorem qx{α:Type}{l:List α}{a:α}(h:l[0]? =some a):c9 l 0=some a:=by simp[c9,h]
theorem JN{α:Type}{l:List α}{a:α}(h:l[1]? =some a):c9 l 1=some a:=by simp[c9,h]
theorem eY{α:Type}{l:List α}{i:Nat}(h:i<l.length):uy l (i:Int)=some i:=by simp[uy,h]
theorem ir{α:Type}{l:List α}{i:Nat}{y:α}(h:i<l.length):stM l i y=some (l.set i y):=by simp[stM,h]
theorem JO{α:Type}{b:Nat}{l k:List α}(h:(l.length+k.length)*b<=140737488355328)(h':l.length+k.length<=140737488355328):sN b l k=some (l++k):=by simp[sN,h,h']
theorem Ou{b n M:Nat}(hb:1<=b/\b<=1000)(h:n*b<=M):n<=M:=Nat.le_trans (Nat.le_mul_of_pos_right n hb.1) h
theorem vc{α:Type}{b:Nat}{l:List α}{x:α}(hb:1<=b/\b<=1000)(h:(l.length+1)*b<=140737488355328):sN b l [x]=some (l++[x]):=JO h (Ou hb h)
theorem Qp{α:Type}{b:Nat}{l k:List α}(hb:1<=b/\b<=1000)(h:(l.length+k.length)*b<=140737488355328):sN b l k=some (l++k):=JO h (Ou hb h)
theorem Db{b n:Nat}(hb:2<=b/\b<=1000)(h:b*n<=281474976710656):0<=(n:Int)/\(b:Int)*(n:Int)<=281474976710656/\(n:Int)<=140737488355328:=by
 have h2:(b:Int)*(n:Int)=((b*n:Nat):Int):=by simp
 have h3:2*n<=b*n:=Nat.mul_le_mul_right _ hb.1;rw[h2];exact⟨by omega,by omega,by omega⟩
theorem EH{α:Type}{b:Nat}{n:Nat}(hb:2<=b/\b<=1000)(h:b*n<=281474976710656):Lb (α:=α) b (n:Int)=some []:=by
 unfold Lb;rw[if_pos (Db hb h)]
theorem qa{α:Type}{b:Nat}{n:Nat}{z:α}(hb:2<=b/\b<=1000)(h:b*n<=281474976710656):Ca b (n:Int) z=some (List.replicate n z):=by
 unfold Ca;rw[if_pos (Db hb h),Int.toNat_natCast]
theorem Dc{α:Type}{l:List α}{i j:Nat}(h:i<=j)(h':j<=l.length):sM l (i:Int) (j:Int)=some (cut l i j):=by
 unfold sM;rw[if_pos ⟨by omega,by omega,by omega⟩];simp
theorem l9{α:Type}{l:List α}{j:Nat}(h':j<=l.length):sM l 0 (j:Int)=some (l.take j):=by
 have:=Dc (l:=l) (i:=0) (j:=j) (by omega) h';simpa[cut]using this
theorem oz{M a b:Nat}(h:b<=a)(h':a<M):mw M a b=a-b:=by
 unfold mw;rw[show(a:Int)-(b:Int)=((a-b:Nat):Int) by omega,<-Int.natCast_emod,Int.toNat_natCast,Nat.mod_eq_of_lt (by omega)]
theorem tR{M a b:Nat}(h:a<b)(h':b<=M):mw M a b=M+a-b:=by
 unfold mw;have:((a:Int)-(b:Int))%(M:Int)=((M+a-b:Nat):Int):=by
  rw[<-Int.add_emod_right (a:=(a:Int)-b),show(a:Int)-(b:Int)+(M:Int)=((M+a-b:Nat):Int) by omega,<-Int.natCast_emod,Nat.mod_eq_of_lt (by omega)]
 rw[this,Int.toNat_natCast]
theorem wS{o n i:Nat}(h:i<n):Ky o n (i:Int)=some (o+i):=by simp[Ky,h]
theorem nM{α:Type}{l l':List α}(h:l'.length=l.length):q9 l l'=some ():=by simp[q9,h]
theorem Bs{M a b:Nat}(h:b≠0)(h':a<M):AA M a b=some (a/b):=by
 unfold AA;rw[if_neg h,Nat.mod_eq_of_lt (Nat.lt_of_le_of_lt (Nat.div_le_self _ _) h')]
theorem wU{a b:Nat}(h:b≠0):yW a b=some (a%b):=by unfold yW;rw[if_neg h]
theorem bD{α β:Type}{a:α}{f:α->Option β}:Option.bind (some a) f=f a:=by
 have h:∀o,o=some a->Option.bind o f=f a:=by intro o ho;rw[ho];rfl
 exact h _ Y
theorem eK{α:Type}{x y:α}:(bif true then x else y)=x:=by
 have h:∀b,b=true->(bif b then x else y)=x:=by intro b hb;rw[hb];rfl
 exact h _ Y
theorem fg{α:Type}{x y:α}:(bif false then x else y)=y:=by
 have h:∀b,b=false->(bif b then x else y)=y:=by intro b hb;rw[hb];rfl
 exact h _ Y
theorem fX{S E R:Type}{body:S->Option (S⊕E)}{s:S}{f:E->Option R}{r:R}(I:S->Prop)(Post:E->Prop)(μ:S->Nat)
  (step:∀s,I s->(∃s',body s=some (.inl s')/\I s'/\μ s'<μ s)\/(∃e,body s=some (.inr e)/\Post e)) (h:I s) (hf:∀e,Post e->f e=some r):(b9 body s).bind f=some r:=by
 obtain⟨e,h1,h2⟩:=uJ I Post μ step h;rw[h1];exact hf e h2
theorem lY{S E R:Type}{body:S->Option (S⊕E)}{s:S}{f:E->Option R}{Q:R->Prop}(I:S->Prop)(Post:E->Prop)(μ:S->Nat)
  (step:∀s,I s->(∃s',body s=some (.inl s')/\I s'/\μ s'<μ s)\/(∃e,body s=some (.inr e)/\Post e)) (h:I s) (hf:∀e,Post e->∃r,f e=some r/\Q r):∃r,(b9 body s).bind f=some r/\Q r:=by
 obtain⟨e,h1,h2⟩:=uJ I Post μ step h;rw[h1];exact hf e h2
theorem bF{S E R:Type}{body:S->Option (S⊕E)}{s:S}{f:E->Option R}{r:R}(st:Nat->S)(n:Nat)(e:E)(h0:s=st 0)(hs:∀k,k<n->body (st k)=some (.inl (st (k+1))))(he:body (st n)=some (.inr e))(hf:f e=some r):(b9 body s).bind f=some r:=by
 rw[h0,HV st n hs he];exact hf
theorem oA{S R:Type}{body:Nat->S->Option S}{s:S}{f:S->Option R}{r:R}(st:Nat->S){n:Nat}(h0:s=st 0)(hs:∀k,k<n->body k (st k)=some (st (k+1)))(hf:f (st n)=some r):(nr body n s).bind f=some r:=by
 rw[h0,zP st n hs];exact hf
theorem aA{α β:Type}{x:Option α}{a:α}{f:α->Option β}{r:Option β}(h:x=some a)(hf:f a=r):x.bind f=r:=by rw[h];exact hf
theorem cn{α:Type}{b:Bool}{x y r:α}(hb:b=true)(h:x=r):(bif b then x else y)=r:=by rw[hb];exact h
theorem cu{α:Type}{b:Bool}{x y r:α}(hb:b=false)(h:y=r):(bif b then x else y)=r:=by rw[hb];exact h
end
section
def val(B:Nat):List Nat->Nat
 |[]=>0
 |x::l=>x+B*val B l
def dA(B:Nat):Nat->Nat->List Nat
 |0,_=>[]
 |n+1,v=>v%B::dA B n (v/B)
def iu(ws:List Nat):List Nat:=(ws.reverse.dropWhile (· ==0)).reverse
def can(B v:Nat):List Nat:=iu (dA B v v)
theorem bB(B:Nat):∀n v,(dA B n v).length=n
 |0,_=>rfl
 |n+1,v=>by simp[dA,bB B n]
theorem jP(B:Nat):∀n v,val B (dA B n v)=v%B^n
 |0,v=>by simp[dA,val,Nat.mod_one]
 |n+1,v=>by
  rw[dA,val,jP B n,Nat.pow_succ,Nat.mul_comm (B^n) B,Nat.mod_mul]
theorem lK{B:Nat}(hB:0<B):∀(n v x:Nat),x∈dA B n v->x<B
 |n+1,v,x,h=>by
  rcases List.mem_cons.1 h with rfl|h
  ·exact Nat.mod_lt _ hB
  exact lK hB n _ x h
theorem ew{B:Nat}:∀(l:List Nat),(∀x∈l,x<B)->val B l<B^l.length
 |[],_=>by simp[val]
 |x::l,h=>by
  have h1:=ew l (λy hy=>h y (List.mem_cons_of_mem _ hy));have h2:=h x (by simp);rw[val,List.length_cons,Nat.pow_succ]
  calc x+B*val B l<B+B*val B l:=by omega
   _=B*(val B l+1):=by rw[Nat.mul_add];omega
   _<=B*B^l.length:=Nat.mul_le_mul_left _ h1
   _=B^l.length*B:=Nat.mul_comm _ _
theorem wV{B:Nat}:∀(l:List Nat),(∀x∈l,x<B)->dA B l.length (val B l)=l
 |[],_=>rfl
 |x::l,h=>by
  have h2:=h x (by simp);have hB:0<B:=by omega
  rw[List.length_cons,dA,val,Nat.add_mul_mod_self_left,Nat.mod_eq_of_lt h2,Nat.add_mul_div_left _ _ hB,Nat.div_eq_of_lt h2,Nat.zero_add,wV l (λy hy=>h y (List.mem_cons_of_mem _ hy))]
theorem tW{B:Nat}:∀(n v j:Nat),j<n->(dA B n v)[j]? =some (v/B^j%B)
 |n+1,v,0,_=>by simp[dA]
 |n+1,v,j+1,h=>by
  rw[dA,List.getElem?_cons_succ,tW n _ j (by omega),Nat.div_div_eq_div_mul,Nat.pow_succ,Nat.mul_comm B]
theorem Bt{B:Nat}:∀(a b:List Nat),val B (a++b)=val B a+B^a.length*val B b
 |[],b=>by simp[val]
 |x::a,b=>by
  rw[List.cons_append,val,val,Bt a b,List.length_cons,Nat.pow_succ,Nat.mul_add,Nat.add_assoc,Nat.mul_comm (B^a.length) B,Nat.mul_assoc]
theorem fY{B:Nat}:∀(n v:Nat),dA B (n+1) v=dA B n v++[v/B^n%B]
 |0,v=>by simp[dA]
 |n+1,v=>by
  rw[dA,fY n,dA,List.cons_append,Nat.div_div_eq_div_mul,Nat.pow_succ,Nat.mul_comm B]
theorem nN(B:Nat):∀k,dA B k 0=List.replicate k 0
 |0=>rfl
 |k+1=>by rw[dA,Nat.zero_mod,Nat.zero_div,nN B k];rfl
theorem yu{B:Nat}(hB:0<B):∀(n k v:Nat),v<B^n->dA B (n+k) v=dA B n v++List.replicate k 0
 |0,k,v,h=>by
  have:v=0:=by simpa using h
  subst this;rw[Nat.zero_add,nN];rfl
 |n+1,k,v,h=>by
  rw[show n+1+k=n+k+1 by omega,dA,dA,List.cons_append,yu hB n k (v/B) (by rw[Nat.div_lt_iff_lt_mul hB];rwa[Nat.pow_succ]at h)]
theorem oB{B:Nat}(hB:2<=B):∀v,v<B^v
 |0=>by simp
 |v+1=>by
  have:=oB hB v;rw[Nat.pow_succ];have h2:B^v*2<=B^v*B:=Nat.mul_le_mul_left _ hB;omega
theorem mI(l:List Nat):iu (l++[0])=iu l:=by simp[iu]
theorem qb(l:List Nat):∀k,iu (l++List.replicate k 0)=iu l
 |0=>by simp
 |k+1=>by rw[List.replicate_succ',<-List.append_assoc,mI,qb l k]
theorem oC(l:List Nat){x:Nat}(h:x≠0):iu (l++[x])=l++[x]:=by simp[iu,h]
theorem sq(xs:List Nat):xs=[]\/(∃ys,xs=ys++[0])\/(∃ys y,y≠0/\xs=ys++[y]):=by
 rcases List.eq_nil_or_concat xs with rfl|⟨ys,y,rfl⟩
 ·exact .inl Y
 by_cases hy:y=0
 ·subst hy;exact .inr (.inl ⟨ys,by simp⟩)
 exact .inr (.inr ⟨ys,y,hy,by simp⟩)
theorem ve:∀(n:Nat) (l:List Nat),l.length=n->∃k,l=iu l++List.replicate k 0:=by
 intro n
 induction n with
 |zero=>intro l h;obtain rfl:=List.length_eq_zero_iff.1 h;exact⟨0,Y⟩
 |succ n ih=>
  intro l h;rcases sq l with rfl|⟨ys,rfl⟩|⟨ys,y,hy,rfl⟩
  ·simp at h
  ·obtain⟨k,hk⟩:=ih ys (by simpa using h);refine⟨k+1,?_⟩;rw[mI,List.replicate_succ',<-List.append_assoc,<-hk]
  exact⟨0,by rw[oC _ hy];simp⟩
theorem GY{l:List Nat}{x:Nat}(h:x∈iu l):x∈l:=by
 obtain⟨k,hk⟩:=ve _ l Y;rw[hk];exact List.mem_append_left _ h
theorem z5(l:List Nat):(iu l).length<=l.length:=by
 obtain⟨k,hk⟩:=ve _ l Y;have:=congrArg List.length hk;rw[List.length_append]at this;omega
theorem z6(B:Nat):∀k,val B (List.replicate k 0)=0
 |0=>rfl
 |k+1=>by rw[List.replicate_succ,val,z6 B k];simp
theorem JP(B:Nat)(l:List Nat):val B (iu l)=val B l:=by
 obtain⟨k,hk⟩:=ve _ l Y
 conv=>rhs;rw[hk,Bt,z6]
 simp
theorem lq{B:Nat}(hB:2<=B){n v:Nat}(h:v<B^n):iu (dA B n v)=can B v:=by
 have hv:=oB hB v;rcases Nat.le_total n v with hn|hn
 ·obtain⟨k,rfl⟩:=Nat.exists_eq_add_of_le hn;rw[can,yu (by omega) n k _ h,qb]
 obtain⟨k,rfl⟩:=Nat.exists_eq_add_of_le hn;rw[can,yu (by omega) v k _ hv,qb]
theorem iv{B:Nat}(hB:2<=B){l:List Nat}(h:∀x∈l,x<B):iu l=can B (val B l):=by
 conv=>lhs;rw[<-wV l h]
 exact lq hB (ew l h)
theorem iD{B:Nat}(hB:2<=B)(v:Nat):val B (can B v)=v:=by
 rw[can,JP,jP,Nat.mod_eq_of_lt (oB hB v)]
theorem ei{B:Nat}(hB:2<=B){v x:Nat}(h:x∈can B v):x<B:=lK (by omega) v v x (GY h)
theorem mJ(B:Nat):can B 0=[]:=rfl
theorem tX{B:Nat}(hB:2<=B){v:Nat}(h:can B v=[]):v=0:=by have:=iD hB v;rw[h]at this;exact this.symm
theorem LU{B:Nat}(hB:2<=B){v n:Nat}(h:v<B^n):(can B v).length<=n:=by
 rw[<-lq hB h];have:=z5 (dA B n v);rwa[bB]at this
theorem LV{B:Nat}(hB:2<=B)(v:Nat):iu (can B v)=can B v:=by
 rw[iv hB (λx hx=>ei hB hx),iD hB]
theorem FD{B:Nat}(hB:2<=B)(v:Nat):can B v=dA B (can B v).length v:=by
 have:=wV (can B v) (λx hx=>ei hB hx);rw[iD hB]at this;exact this.symm
theorem cc{B:Nat}(hB:2<=B)(v:Nat):v<B^(can B v).length:=by
 have:=ew (can B v) (λx hx=>ei hB hx);rwa[iD hB]at this
theorem qy{B:Nat}(hB:2<=B){v j:Nat}(h:j<(can B v).length):(can B v)[j]? =some (v/B^j%B):=by
 rw[FD hB v]at h⊢;rw[bB]at h;exact tW _ _ _ h
theorem yw{B:Nat}(hB:2<=B){v j:Nat}(h:(can B v).length<=j):v/B^j=0:=by
 refine Nat.div_eq_of_lt (Nat.lt_of_lt_of_le (cc hB v) ?_);exact Nat.pow_le_pow_right (by omega) h
theorem Dd{B:Nat}(hB:2<=B){v:Nat}(h:v≠0):∃l x,x≠0/\can B v=l++[x]:=by
 rcases sq (can B v)with e|⟨ys,e⟩|⟨ys,y,hy,e⟩
 ·exact absurd (tX hB e) h
 ·exfalso;have h1:=LV hB v;rw[e,mI]at h1;have h2:=z5 ys;rw[h1]at h2;simp at h2;omega
 exact⟨ys,y,hy,e⟩
theorem nA{B:Nat}(hB:2<=B){v n:Nat}(h:n<(can B v).length):B^n<=v:=by
 by_cases h0:v=0
 ·subst h0;simp[mJ]at h
 obtain⟨l,x,hx,e⟩:=Dd hB h0;have h1:=iD hB v;rw[e,Bt]at h1;have hl:n<=l.length:=by rw[e]at h;simp at h;omega
 have h2:B^n<=B^l.length:=Nat.pow_le_pow_right (by omega) hl;have h3:B^l.length<=B^l.length*val B [x]:=Nat.le_mul_of_pos_right _ (by simp[val];omega);omega
theorem bJ{B:Nat}(hB:2<=B){v n:Nat}:(can B v).length<=n↔v<B^n:=by
 refine⟨λh=>?_,LU hB⟩;exact Nat.lt_of_lt_of_le (cc hB v) (Nat.pow_le_pow_right (by omega) h)
theorem JQ{B:Nat}(hB:2<=B){l:List Nat}{x:Nat}(hx:x≠0)(h:∀y∈l++[x],y<B):l++[x]=can B (val B (l++[x])):=by
 rw[<-iv hB h,oC _ hx]
theorem nO{B:Nat}:∀(l:List Nat),(∀x∈l,x<B)->∀k,l.getD k 0=val B l/B^k%B
 |[],_,k=>by simp[val]
 |x::l,h,0=>by
  have h2:=h x (by simp);simp[val,Nat.add_mul_mod_self_left,Nat.mod_eq_of_lt h2]
 |x::l,h,k+1=>by
  have h2:=h x (by simp);have hB:0<B:=by omega
  rw[List.getD_cons_succ,nO l (λy hy=>h y (List.mem_cons_of_mem _ hy)) k,val,Nat.pow_succ,Nat.mul_comm (B^k) B,<-Nat.div_div_eq_div_mul,Nat.add_mul_div_left _ _ hB,Nat.div_eq_of_lt h2,Nat.zero_add]
theorem fC(B V k:Nat):V%B^(k+1)=V%B^k+B^k*(V/B^k%B):=by
 rw[Nat.pow_succ,Nat.mod_mul]
def wW(B V W k:Nat):Nat:=(V%B^k+W%B^k)/B^k
theorem yx{B:Nat}(hB:0<B)(V W k:Nat):wW B V W k<=1:=by
 have hP:0<B^k:=Nat.pow_pos hB;have h1:=Nat.mod_lt V hP;have h2:=Nat.mod_lt W hP;have:wW B V W k<2:=by rw[wW,Nat.div_lt_iff_lt_mul hP];omega
 omega
theorem yy{B:Nat}(hB:0<B)(V W k:Nat):(V/B^k%B+W/B^k%B+wW B V W k)/B=wW B V W (k+1):=by
 have hP:0<B^k:=Nat.pow_pos hB;rw[wW,wW,fC,fC,Nat.pow_succ,<-Nat.div_div_eq_div_mul];congr 1;rw[show V%B^k+B^k*(V/B^k%B)+(W%B^k+B^k*(W/B^k%B))=(V%B^k+W%B^k)+B^k*(V/B^k%B+W/B^k%B) by rw[Nat.mul_add];omega,Nat.add_mul_div_left _ _ hP];omega
theorem wX{B:Nat}(hB:0<B)(V W k:Nat):(V/B^k%B+W/B^k%B+wW B V W k)%B=(V+W)/B^k%B:=by
 have hP:0<B^k:=Nat.pow_pos hB;have h:(V+W)/B^k=V/B^k+W/B^k+wW B V W k:=by
  have e1:=Nat.div_add_mod V (B^k);have e2:=Nat.div_add_mod W (B^k);rw[wW]
  conv=>lhs;rw[<-e1,<-e2]
  rw[show B^k*(V/B^k)+V%B^k+(B^k*(W/B^k)+W%B^k)=(V%B^k+W%B^k)+B^k*(V/B^k+W/B^k) by rw[Nat.mul_add];omega,Nat.add_mul_div_left _ _ hP];omega
 rw[h];simp[Nat.add_mod]
theorem Bu{B:Nat}{V W k:Nat}(hV:V<B^k)(hW:W<B^k):wW B V W k=(V+W)/B^k:=by
 rw[wW,Nat.mod_eq_of_lt hV,Nat.mod_eq_of_lt hW]
theorem yz(B V W:Nat):wW B V W 0=0:=by simp[wW,Nat.mod_one]
def vf(B V W k:Nat):Nat:=(V%B^k+B^k-W%B^k)/B^k
theorem yA(B V W:Nat):vf B V W 0=1:=by simp[vf,Nat.mod_one]
theorem EI{B:Nat}(hB:0<B)(V W k:Nat):vf B V W k<=1:=by
 have hP:0<B^k:=Nat.pow_pos hB;have h1:=Nat.mod_lt V hP;have:vf B V W k<2:=by
  rw[vf,Nat.div_lt_iff_lt_mul hP];generalize W%B^k=y at*;generalize V%B^k=x at*;omega
 omega
theorem FE{B:Nat}(hB:0<B)(V W k:Nat):V%B^(k+1)+B^(k+1)-W%B^(k+1)=(V%B^k+B^k-W%B^k)+B^k*(V/B^k%B+(B-1-W/B^k%B)):=by
 have hP:0<B^k:=Nat.pow_pos hB;have h1:=Nat.mod_lt V hP;have h2:=Nat.mod_lt W hP;have h3:=Nat.mod_lt (W/B^k) hB;rw[fC,fC,Nat.pow_succ];generalize B^k=p at*;generalize V/p%B=x at*;generalize W/p%B=y at*;obtain⟨z,rfl⟩:∃z,B=y+1+z:=⟨B-y-1,by omega⟩;have e1:y+1+z-1-y=z:=by omega
 rw[e1,Nat.mul_add p x z,Nat.mul_add p (y+1) z,Nat.mul_add p y 1];omega
theorem yB{B:Nat}(hB:0<B)(V W k:Nat):(V/B^k%B+(B-1-W/B^k%B)+vf B V W k)/B=vf B V W (k+1):=by
 have hP:0<B^k:=Nat.pow_pos hB;rw[vf,vf,FE hB,Nat.pow_succ,<-Nat.div_div_eq_div_mul,Nat.add_mul_div_left _ _ hP];congr 1;omega
theorem EJ{Q V W:Nat}(hQ:0<Q)(h:W<=V):(V%Q+Q-W%Q)%Q=(V-W)%Q:=by
 have e1:=Nat.div_add_mod V Q;have e2:=Nat.div_add_mod W Q;have h1:=Nat.mod_lt V hQ;have h2:=Nat.mod_lt W hQ;have hq:W/Q<=V/Q:=Nat.div_le_div_right h;generalize V%Q=r at*;generalize W%Q=s at*;generalize V/Q=a at*;generalize W/Q=b at*;obtain⟨c,rfl⟩:=Nat.exists_eq_add_of_le hq;rw[Nat.mul_add]at e1;rcases Nat.lt_or_ge r s with hrs|hrs
 ·cases c with
  |zero=>simp at e1;omega
  |succ c=>
   rw[Nat.mul_add,Nat.mul_one]at e1;rw[show V-W=Q*c+(r+Q-s) by omega,Nat.mul_add_mod]
 rw[show V-W=Q*c+(r-s) by omega,Nat.mul_add_mod,show r+Q-s=r-s+Q by omega,Nat.add_mod_right]
theorem Bv{B:Nat}(hB:0<B){V W:Nat}(h:W<=V)(k:Nat):(V/B^k%B+(B-1-W/B^k%B)+vf B V W k)%B=(V-W)/B^k%B:=by
 have hP:0<B^k:=Nat.pow_pos hB;have hQ:0<B^(k+1):=Nat.pow_pos hB;have e:=EJ hQ h;have e2:V/B^k%B+(B-1-W/B^k%B)+vf B V W k=(V%B^(k+1)+B^(k+1)-W%B^(k+1))/B^k:=by
  rw[FE hB,Nat.add_mul_div_left _ _ hP,vf];omega
 rw[e2,<-Nat.mod_mul_right_div_self,<-Nat.mod_mul_right_div_self,<-Nat.pow_succ,e]
end
section
theorem FF{B:Nat}(hB:0<B):∀(j N lo p d hi:Nat),lo<B^j->p<B->d<B->j<N->(dA B N (lo+B^j*(p+B*hi))).set j d=dA B N (lo+B^j*(d+B*hi))
 |0,N+1,lo,p,d,hi,hlo,hp,hd,_=>by
  have:lo=0:=by simpa using hlo
  subst this;simp only[Nat.pow_zero,Nat.zero_add,Nat.one_mul,dA,List.set_cons_zero,Nat.add_mul_mod_self_left,Nat.mod_eq_of_lt hd];rw[Nat.add_mul_div_left _ _ hB,Nat.add_mul_div_left _ _ hB,Nat.div_eq_of_lt hp,Nat.div_eq_of_lt hd]
 |j+1,N+1,lo,p,d,hi,hlo,hp,hd,hN=>by
  have e:∀q,(lo+B^(j+1)*(q+B*hi))%B=lo%B:=λq=>by
   rw[Nat.pow_succ,Nat.mul_comm (B^j) B,Nat.mul_assoc,Nat.add_mul_mod_self_left]
  have e2:∀q,(lo+B^(j+1)*(q+B*hi))/B=lo/B+B^j*(q+B*hi):=λq=>by
   rw[Nat.pow_succ,Nat.mul_comm (B^j) B,Nat.mul_assoc,Nat.add_mul_div_left _ _ hB]
  have ZZ:lo/B<B^j:=by rw[Nat.div_lt_iff_lt_mul hB];rwa[Nat.pow_succ]at hlo
  rw[dA,dA,List.set_cons_succ,e,e,e2,e2,FF hB j N (lo/B) p d hi ZZ hp hd (by omega)]
theorem qA{B:Nat}(hB:0<B){N j u u' d:Nat}(hj:j<N)(hd:d<B)(hlo:u'%B^j=u%B^j)(EK:u'/B^j%B=d)(hhi:u'/B^(j+1)=u/B^(j+1)):(dA B N u).set j d=dA B N u':=by
 have hP:0<B^j:=Nat.pow_pos hB;have f:∀u,u=u%B^j+B^j*(u/B^j%B+B*(u/B^(j+1))):=λu=>by
  have e1:=Nat.mod_add_div u (B^j);have e2:=GZ B u j;rw[Nat.add_comm]at e2;rw[<-e2,e1]
 rw[f u,FF hB j N _ _ d _ (Nat.mod_lt _ hP) (Nat.mod_lt _ hB) hd hj]
 conv=>rhs;rw[f u',hlo,EK,hhi]
where
 GZ (B v m:Nat):v/B^m=B*(v/B^(m+1))+v/B^m%B:=by
  rw[Nat.pow_succ,<-Nat.div_div_eq_div_mul,Nat.div_add_mod]
def mT(B V W i k:Nat):Nat:=((V%B^i)*W)%B^(i+k)+B^i*(V/B^i%B)*(W%B^k)
def mC(B V W i k:Nat):Nat:=mT B V W i k/B^(i+k)
def mV(B V W i k:Nat):Nat:=mT B V W i k%B^(i+k)+B^(i+k)*(((V%B^i)*W)/B^(i+k))
theorem Ov{B:Nat}(hB:0<B)(V W i k:Nat):mT B V W i k<B^(i+k)*B:=by
 have h1:((V%B^i)*W)%B^(i+k)<B^(i+k):=Nat.mod_lt _ (Nat.pow_pos hB);have h2:V/B^i%B<B:=Nat.mod_lt _ hB;have h3:W%B^k<B^k:=Nat.mod_lt _ (Nat.pow_pos hB);have h4:B^i*(V/B^i%B)*(W%B^k)<=B^i*(B-1)*B^k:=Nat.mul_le_mul (Nat.mul_le_mul_left _ (by omega)) (Nat.le_of_lt h3);have h5:B^i*(B-1)*B^k=B^(i+k)*(B-1):=by rw[Nat.pow_add,Nat.mul_assoc,Nat.mul_assoc,Nat.mul_comm (B-1)]
 have h6:B^(i+k)*B=B^(i+k)*(B-1)+B^(i+k):=by
  obtain⟨b,rfl⟩:∃b,B=b+1:=⟨B-1,by omega⟩;rw[Nat.add_sub_cancel,Nat.mul_add,Nat.mul_one]
 unfold mT;omega
theorem Ow{B:Nat}(hB:0<B)(V W i k:Nat):mC B V W i k<B:=by
 rw[mC,Nat.div_lt_iff_lt_mul (Nat.pow_pos hB),Nat.mul_comm];exact Ov hB V W i k
theorem Bw{B:Nat}(V W i k:Nat):mT B V W i (k+1)=mT B V W i k+B^(i+k)*(((V%B^i)*W)/B^(i+k)%B+(V/B^i%B)*(W/B^k%B)):=by
 have e1:((V%B^i)*W)%B^(i+(k+1))=((V%B^i)*W)%B^(i+k)+B^(i+k)*(((V%B^i)*W)/B^(i+k)%B):=by rw[<-Nat.add_assoc,fC]
 have e2:W%B^(k+1)=W%B^k+B^k*(W/B^k%B):=fC B W k;unfold mT;rw[e1,e2,Nat.mul_add,Nat.mul_add (B^(i+k))];have e3:B^i*(V/B^i%B)*(B^k*(W/B^k%B))=B^(i+k)*((V/B^i%B)*(W/B^k%B)):=by
  rw[Nat.pow_add,Nat.mul_assoc,Nat.mul_assoc,Nat.mul_left_comm (V/B^i%B)]
 omega
theorem LW{B:Nat}(hB:0<B)(V W i k:Nat):(((V%B^i)*W)/B^(i+k)%B+(V/B^i%B)*(W/B^k%B)+mC B V W i k)/B=mC B V W i (k+1):=by
 have hP:0<B^(i+k):=Nat.pow_pos hB;rw[mC,mC,Bw,<-Nat.add_assoc,Nat.pow_succ,<-Nat.div_div_eq_div_mul,Nat.add_mul_div_left _ _ hP];congr 1;omega
theorem Ox{B:Nat}(V W i k:Nat):mV B V W i k%B^(i+k)=mT B V W i k%B^(i+k):=by
 rw[mV,Nat.add_mul_mod_self_left,Nat.mod_mod]
theorem FG{B:Nat}(hB:0<B)(V W i k:Nat):mV B V W i k/B^(i+k)=((V%B^i)*W)/B^(i+k):=by
 have hP:0<B^(i+k):=Nat.pow_pos hB;rw[mV,Nat.add_mul_div_left _ _ hP,Nat.div_eq_of_lt (Nat.mod_lt _ hP),Nat.zero_add]
theorem Qq{B:Nat}(hB:0<B){V W i k N:Nat}(h:i+k<N):(dA B N (mV B V W i k))[i+k]? =some (((V%B^i)*W)/B^(i+k)%B):=by
 rw[tW _ _ _ h,FG hB]
theorem LX{B:Nat}(hB:0<B){V W i k N:Nat}(h:i+k<N):
  (dA B N (mV B V W i k)).set (i+k) ((((V%B^i)*W)/B^(i+k)%B+(V/B^i%B)*(W/B^k%B)+mC B V W i k)%B)=dA B N (mV B V W i (k+1)):=by
 have hP:0<B^(i+k):=Nat.pow_pos hB;have hPB:B^(i+(k+1))=B^(i+k)*B:=by rw[<-Nat.add_assoc,Nat.pow_succ]
 have hs:mT B V W i (k+1)/B^(i+k)=((V%B^i)*W)/B^(i+k)%B+(V/B^i%B)*(W/B^k%B)+mC B V W i k:=by
  rw[Bw,Nat.add_mul_div_left _ _ hP,mC];omega
 have ht:mT B V W i (k+1)%B^(i+k)=mT B V W i k%B^(i+k):=by rw[Bw,Nat.add_mul_mod_self_left]
 refine qA hB h (Nat.mod_lt _ hB) ?_ ?_ ?_
 ·rw[Ox,<-ht,mV,hPB,Nat.mul_assoc,Nat.add_mul_mod_self_left,Nat.mod_mul_right_mod]
 ·rw[mV,hPB,Nat.mul_assoc,Nat.add_mul_div_left _ _ hP,Nat.add_mul_mod_self_left,Nat.mod_mul_right_div_self,Nat.mod_mod,hs]
 rw[show i+k+1=i+(k+1) by omega,FG hB,show i+(k+1)=i+k+1 by omega,Nat.pow_succ,<-Nat.div_div_eq_div_mul,<-Nat.div_div_eq_div_mul,FG hB]
theorem LY{B:Nat}(V W i:Nat):mV B V W i 0=(V%B^i)*W:=by
 rw[mV,mT,Nat.pow_zero,Nat.mod_one,Nat.mul_zero,Nat.add_zero,Nat.add_zero,Nat.mod_mod,Nat.mod_add_div]
theorem LZ{B:Nat}(hB:0<B)(V W i:Nat):mC B V W i 0=0:=by
 rw[mC,mT,Nat.pow_zero,Nat.mod_one,Nat.mul_zero,Nat.add_zero,Nat.add_zero];exact Nat.div_eq_of_lt (Nat.mod_lt _ (Nat.pow_pos hB))
theorem Qs{B:Nat}(hB:0<B){V W i n N:Nat}(hW:W<B^n)(h:i+n<N):(dA B N (mV B V W i n)).set (i+n) ((0+mC B V W i n)%B)=dA B N ((V%B^(i+1))*W):=by
 have hP:0<B^(i+n):=Nat.pow_pos hB;have hp:(V%B^i)*W<B^(i+n):=by
  have h1:V%B^i<B^i:=Nat.mod_lt _ (Nat.pow_pos hB);rw[Nat.pow_add];by_cases h0:W=0
  ·subst h0;rw[Nat.mul_zero];exact Nat.mul_pos (Nat.pow_pos hB) (Nat.pow_pos hB)
  calc (V%B^i)*W<B^i*W:=Nat.mul_lt_mul_of_pos_right h1 (by omega)
   _<=B^i*B^n:=Nat.mul_le_mul_left _ (Nat.le_of_lt hW)
 have hT:mT B V W i n=(V%B^(i+1))*W:=by
  rw[mT,Nat.mod_eq_of_lt hp,Nat.mod_eq_of_lt hW,fC,Nat.add_mul]
 have hlt:=Ov hB V W i n;rw[hT]at hlt;refine qA hB h (Nat.mod_lt _ hB) ?_ ?_ ?_
 ·rw[Ox,hT]
 ·rw[Nat.zero_add,mC,hT]
 rw[Nat.pow_succ B (i+n),Nat.div_eq_of_lt hlt,<-Nat.div_div_eq_div_mul,FG hB,Nat.div_eq_of_lt hp,Nat.zero_div]
def sT(B V f e i:Nat):Nat:=V%B^i*f+e
def sC(B V f e i:Nat):Nat:=sT B V f e i/B^i
theorem Bx(B V f e:Nat):sC B V f e 0=e:=by simp[sC,sT,Nat.mod_one]
theorem FH(B V f e i:Nat):sT B V f e (i+1)=sT B V f e i+B^i*(V/B^i%B*f):=by
 unfold sT;rw[fC,Nat.add_mul,Nat.mul_assoc];omega
theorem By{B:Nat}(hB:0<B)(V f e i:Nat):(V/B^i%B*f+sC B V f e i)/B=sC B V f e (i+1):=by
 have hP:0<B^i:=Nat.pow_pos hB;rw[sC,sC,FH,Nat.pow_succ,<-Nat.div_div_eq_div_mul,Nat.add_mul_div_left _ _ hP];congr 1;omega
theorem EM{B:Nat}(hB:0<B)(V f e i:Nat):(V/B^i%B*f+sC B V f e i)%B=(V*f+e)/B^i%B:=by
 have hP:0<B^i:=Nat.pow_pos hB;have h1:V*f+e=sT B V f e (i+1)+B^i*(B*(V/B^(i+1)*f)):=by
  have e1:=Nat.mod_add_div V (B^(i+1));unfold sT
  conv=>lhs;rw[<-e1,Nat.add_mul]
  rw[Nat.pow_succ,Nat.mul_assoc,Nat.mul_assoc];omega
 rw[h1,Nat.add_mul_div_left _ _ hP,Nat.add_mul_mod_self_left,FH,Nat.add_mul_div_left _ _ hP,sC,Nat.add_comm]
theorem JR{B:Nat}(hB:0<B){V f e:Nat}(hf:f<B)(he:e<B)(i:Nat):sC B V f e i<B:=by
 have hP:0<B^i:=Nat.pow_pos hB;rw[sC,Nat.div_lt_iff_lt_mul hP];have h1:V%B^i<=B^i-1:=by have:=Nat.mod_lt V hP;omega
 have h2:V%B^i*f<=(B^i-1)*(B-1):=Nat.mul_le_mul h1 (by omega);obtain⟨p,hp⟩:∃p,B^i=p+1:=⟨B^i-1,by omega⟩;obtain⟨b,rfl⟩:∃b,B=b+1:=⟨B-1,by omega⟩;unfold sT;rw[hp]at h2⊢;rw[Nat.add_sub_cancel,Nat.add_sub_cancel]at h2;have h3:(b+1)*(p+1)=p*b+b+p+1:=by rw[Nat.add_mul,Nat.mul_add,Nat.mul_comm b p];omega
 omega
theorem EN{B V f e i:Nat}(h:V<B^i):sC B V f e i=(V*f+e)/B^i:=by rw[sC,sT,Nat.mod_eq_of_lt h]
def sU(B V f e i:Nat):Nat:=sT B V f e i%B^i+B^i*(V/B^i)
def qU(B V d n:Nat):Nat:=V%B^n+B^n*(V/B^n/d)
theorem L0(B V d:Nat):qU B V d 0=V/d:=by simp[qU,Nat.mod_one]
theorem Qt{B V d n:Nat}(h:V<B^n):qU B V d n=V:=by simp[qU,Nat.mod_eq_of_lt h,Nat.div_eq_of_lt h]
theorem L1(B V m:Nat):V/B^m=B*(V/B^(m+1))+V/B^m%B:=by rw[Nat.pow_succ,<-Nat.div_div_eq_div_mul,Nat.div_add_mod]
theorem Oy{B d:Nat}(V m:Nat):V/B^m=(V/B^(m+1)%d*B+V/B^m%B)+d*(B*(V/B^(m+1)/d)):=by
 have h1:=L1 B V m;have h2:=Nat.mod_add_div (V/B^(m+1)) d;generalize V/B^(m+1)=q at*;generalize V/B^m%B=y at*;rw[h1]
 conv=>lhs;rw[<-h2]
 rw[Nat.mul_add,Nat.mul_left_comm B d,Nat.mul_comm B (q%d)];omega
theorem Oz{B d:Nat}(hd:0<d)(V m:Nat):V/B^m/d=B*(V/B^(m+1)/d)+(V/B^(m+1)%d*B+V/B^m%B)/d:=by
 conv=>lhs;rw[Oy (B:=B) (d:=d) V m]
 rw[Nat.add_mul_div_left _ _ hd,Nat.add_comm]
theorem JS{B d:Nat}(V m:Nat):V/B^m%d=(V/B^(m+1)%d*B+V/B^m%B)%d:=by
 conv=>lhs;rw[Oy (B:=B) (d:=d) V m]
 rw[Nat.add_mul_mod_self_left]
theorem L2{B d:Nat}(hB:0<B)(hd:0<d)(V m:Nat):V/B^(m+1)%d*B+V/B^m%B<d*B:=by
 have h1:=Nat.mod_lt (V/B^(m+1)) hd;have h2:=Nat.mod_lt (V/B^m) hB;have h3:(V/B^(m+1)%d+1)*B<=d*B:=Nat.mul_le_mul_right _ h1;rw[Nat.add_mul]at h3;omega
theorem JU{B:Nat}(hB:0<B)(V d n:Nat):qU B V d n/B^n=V/B^n/d:=by
 have hP:0<B^n:=Nat.pow_pos hB;rw[qU,Nat.add_mul_div_left _ _ hP,Nat.div_eq_of_lt (Nat.mod_lt _ hP),Nat.zero_add]
theorem Tv(B V d n:Nat):qU B V d n%B^n=V%B^n:=by rw[qU,Nat.add_mul_mod_self_left,Nat.mod_mod]
theorem L3{B:Nat}(V d m:Nat):qU B V d (m+1)%B^m=V%B^m:=by
 rw[qU,Nat.pow_succ,Nat.mul_assoc,Nat.add_mul_mod_self_left,Nat.mod_mul_right_mod]
theorem Qu{B:Nat}(hB:0<B){V d m N:Nat}(h:m<N):(dA B N (qU B V d (m+1)))[m]? =some (V/B^m%B):=by
 have hP:0<B^m:=Nat.pow_pos hB;rw[tW _ _ _ h,qU,Nat.pow_succ,Nat.mul_assoc,Nat.add_mul_div_left _ _ hP,Nat.add_mul_mod_self_left,Nat.mod_mul_right_div_self,Nat.mod_mod]
theorem L4{B:Nat}(hB:0<B){V d m N:Nat}(hd:0<d)(h:m<N):(dA B N (qU B V d (m+1))).set m ((V/B^(m+1)%d*B+V/B^m%B)/d)=dA B N (qU B V d m):=by
 have hx:(V/B^(m+1)%d*B+V/B^m%B)/d<B:=by rw[Nat.div_lt_iff_lt_mul hd,Nat.mul_comm B d];exact L2 hB hd V m
 have hq:=Oz (B:=B) hd V m;refine qA hB h hx ?_ ?_ ?_
 ·rw[Tv,L3]
 ·rw[JU hB,hq,Nat.mul_add_mod,Nat.mod_eq_of_lt hx]
 rw[JU hB,Nat.pow_succ,<-Nat.div_div_eq_div_mul,JU hB,hq,Nat.mul_add_div hB,Nat.div_eq_of_lt hx,<-Nat.pow_succ];rfl
end
section
theorem L5{B v:Nat}(hB:2<=B)(h0:v≠0)(h:v<B):can B v=[v]:=by
 have:=JQ hB (l:=[]) h0 (by simpa using h);simpa[val]using this.symm
theorem L6{B v:Nat}(hB:2<=B)(h0:v/B≠0)(h:v<B*B):can B v=[v%B,v/B]:=by
 have h1:v/B<B:=by rw[Nat.div_lt_iff_lt_mul (by omega)];exact h
 have h2:v%B<B:=Nat.mod_lt _ (by omega);have:=JQ hB (l:=[v%B]) h0 (by simp;exact⟨h2,h1⟩);simp only[List.cons_append,List.nil_append,val,Nat.mul_zero,Nat.add_zero]at this;rw[Nat.mod_add_div]at this;exact this.symm
theorem jQ{B:Nat}{l:List Nat}(h:∀x∈l,x<B){i:Nat}(hi:i<l.length):l[i]? =some (val B l/B^i%B):=by
 rw[<-nO l h i];simp[List.getD,hi]
def vg(v w:Nat):Int:=if v<w then-1 else if v=w then 0 else 1
theorem oD{v w:Nat}(h:v<w):vg v w=-1:=by simp[vg,h]
theorem tY(v:Nat):vg v v=0:=by simp[vg]
theorem qB{v w:Nat}(h:w<v):vg v w=1:=by
 have h1:¬v<w:=by omega
 have h2:¬v=w:=by omega
 simp[vg,h1,h2]
theorem su{B v w:Nat}(hB:2<=B)(h:(can B v).length<(can B w).length):v<w:=
 Nat.lt_of_lt_of_le (cc hB v) (nA hB h)
theorem yC(B v m:Nat):v/B^m=B*(v/B^(m+1))+v/B^m%B:=by
 rw[Nat.pow_succ,<-Nat.div_div_eq_div_mul,Nat.div_add_mod]
theorem z7{B v w m:Nat}(h:v/B^m<w/B^m):v<w:=by
 rcases Nat.lt_or_ge v w with h1|h1
 ·exact h1
 have:=Nat.div_le_div_right (c:=B^m) h1;omega
theorem z8{B v w m:Nat}(h:v/B^(m+1)=w/B^(m+1)):(v/B^m%B=w/B^m%B/\v/B^m=w/B^m)\/(v/B^m%B<w/B^m%B/\v<w)\/(w/B^m%B<v/B^m%B/\w<v):=by
 have h1:=yC B v m;have h2:=yC B w m;rw[<-h]at h2;rcases Nat.lt_trichotomy (v/B^m%B) (w/B^m%B)with h3|h3|h3
 ·exact .inr (.inl ⟨h3,z7 (B:=B) (m:=m) (by omega)⟩)
 ·exact .inl ⟨h3,by omega⟩
 exact .inr (.inr ⟨h3,z7 (B:=B) (m:=m) (by omega)⟩)
end
end Go.Fw
namespace Go.Proofs.YtfoldppidpmchaaGreat
section
open Go.Fw
theorem tZ(l:List Nat)(hl:l.length<=9000000000000000000):bn l=some (iu l):=by
 unfold bn;refine fX (λy=>y.length<=9000000000000000000/\iu y=iu l) (λe=>e=iu l) (λy=>y.length) ?_ ⟨hl,Y⟩ (λe he=>by rw[he]);rintro y ⟨hy,ht⟩;rcases sq y with rfl|⟨ys,rfl⟩|⟨ys,x,hx,rfl⟩
 ·right;exact⟨[],by simp[cg],ht⟩
 ·left;have h1:((ys++[0]).length:Int)=((ys.length+1:Nat):Int):=by simp
  have h2:ys.length<=9223372036854775807:=by simp at hy;omega
  refine⟨ys,?_,⟨by simp at hy⊢;omega,by rw[<-ht,mI]⟩,by simp⟩;simp only[cg,Option.bind_some,h1,yt h2];rw[bO (a:=0) (by simp),l9 (by simp)];simp
 right;have h1:((ys++[x]).length:Int)=((ys.length+1:Nat):Int):=by simp
 have h2:ys.length<=9223372036854775807:=by simp at hy;omega
 refine⟨ys++[x],?_,by rw[<-ht,oC _ hx]⟩;simp only[cg,Option.bind_some,h1,yt h2];rw[bO (a:=x) (by simp)];simp[hx]
def zc(n:Bool)(v:Nat):Zr:=⟨n&&v != 0,can 4294967296 v⟩
theorem FI(n:Bool):zc n 0=⟨false,[]⟩:=by simp[zc,mJ]
theorem JV(n:Bool){v:Nat}(h:v≠0):zc n v=⟨n,can 4294967296 v⟩:=by simp[zc,h]
def Bz(l:List Nat):Prop:=(∀x∈l,x<4294967296)/\l.length<=35184372088808
def W64(l:List Nat):Prop:=(∀x∈l,x<4294967296)/\l.length<=9000000000000000000
theorem Bz.x{l:List Nat}(h:Bz l):W64 l:=⟨h.1,Nat.le_trans h.2 (by decide)⟩
abbrev vl(l:List Nat):Nat:=val 4294967296 l
theorem iQ(n:Bool)(l:List Nat)(h:W64 l):bZ n l=some (zc n (vl l)):=by
 unfold bZ;rw[tZ l (by have:=h.2;omega),iv (by decide) h.1];show _=some (zc n (val 4294967296 l));by_cases hz:val 4294967296 l=0
 ·rw[hz,FI];simp[mJ]
 have:can 4294967296 (val 4294967296 l)≠[]:=λe=>hz (tX (by decide) e);rw[JV _ hz];simp[this]
theorem nP(n:Bool)(v:Nat)(h:v<18446744073709551616):dO n v=some (zc n v):=by
 unfold dO;by_cases hz:v=0
 ·subst hz;simp[FI]
 rw[JV _ hz];by_cases h1:v/2^32=0
 ·rw[L5 (by decide) hz (by omega)];simp only[Option.bind_some,hz,h1,decide_false,decide_true,cond_false,cond_true];rw[Nat.mod_eq_of_lt (by omega)]
 rw[L6 (by decide) (by omega) (by omega)];simp only[Option.bind_some,hz,h1,decide_false,cond_false];rw[Nat.mod_eq_of_lt (a:=v/2^32) (by omega)]
theorem JW{a b s:Nat}(h:a<2^s):a ||| b*2^s=a+b*2^s:=by
 rw[Nat.or_comm,Nat.mul_comm b,<-Nat.two_pow_add_eq_or_of_lt h,Nat.add_comm]
theorem low_eq(l:List Nat)(h:∀x∈l,x<4294967296)(hl:l.length<=2):cW l=some (vl l):=by
 rcases l with _|⟨x,_|⟨y,_|⟨z,l⟩⟩⟩
 ·simp[cW,vl,val]
 ·have hx:=h x (by simp);simp only[cW,qx (l:=[x]) (a:=x) rfl];simp[vl,val];omega
 ·have hx:=h x (by simp);have hy:=h y (by simp);simp only[cW,qx (l:=[x,y]) (a:=x) Y,JN (l:=[x,y]) (a:=y) Y,Option.bind_some];rw[Nat.mod_eq_of_lt (a:=x) (by omega),Nat.mod_eq_of_lt (a:=y) (by omega),Nat.mod_eq_of_lt (a:=y*2^32) (by omega),JW (by omega),Nat.mod_eq_of_lt (by omega)];simp[vl,val];omega
 simp at hl
theorem fI(x c:Nat)(h:x+c<18446744073709551616):bH x c=some ((x+c)%4294967296,(x+c)/4294967296):=by
 simp[bH,Nat.mod_eq_of_lt h]
theorem iV(v w:Nat)(hv:(can 4294967296 v).length<=9000000000000000000)(hw:(can 4294967296 w).length<=9000000000000000000):cz (can 4294967296 v) (can 4294967296 w)=some (vg v w):=by
 unfold cz;rcases Nat.lt_trichotomy (can 4294967296 v).length (can 4294967296 w).length with hl|hl|hl
 ·rw[oD (su (by decide) hl)];simp only[Option.bind_some];rw[show decide (((can 4294967296 v).length:Int)≠((can 4294967296 w).length:Int))=true by simp;omega,show decide (((can 4294967296 v).length:Int)<((can 4294967296 w).length:Int))=true by simp;omega];rfl
 ·simp only[Option.bind_some];rw[show decide (((can 4294967296 v).length:Int)≠((can 4294967296 w).length:Int))=false by simp;omega,cond_false];refine fX (λy=>∃n:Nat,y=(n:Int)-1/\n<=(can 4294967296 v).length/\v/4294967296^n=w/4294967296^n) (λe=>e=(if v=w then .inl ()else .inr (vg v w))) (λy=>(y+1).toNat) ?_ ⟨(can 4294967296 v).length,?_,Nat.le_refl _,?_⟩ ?_
  ·rintro y ⟨n,rfl,hn,he⟩;cases n with
   |zero=>
    right;have:v=w:=by simpa using he
    subst this;exact⟨_,by simp,Y⟩
   |succ m=>
    have F9:=qy (B:=4294967296) (by decide) (v:=v) (j:=m) (by omega);have Tw:=qy (B:=4294967296) (by decide) (v:=w) (j:=m) (by omega);have e0:((m+1:Nat):Int)-1=(m:Int):=by omega
    rw[e0];rcases z8 he with⟨h1,h2⟩|⟨h1,h2⟩|⟨h1,h2⟩
    ·left;refine⟨(m:Int)-1,?_,⟨m,Y,by omega,h2⟩,by omega⟩;simp only[Option.bind_some,bO F9,bO Tw,h1];rw[cj (by omega) (by omega)];simp
    ·right;refine⟨.inr (-1),?_,by rw[if_neg (by omega),oD h2]⟩;simp only[Option.bind_some,bO F9,bO Tw];simp[h1,Nat.ne_of_lt h1]
    right;refine⟨.inr 1,?_,by rw[if_neg (by omega),qB h2]⟩;simp only[Option.bind_some,bO F9,bO Tw];simp[Nat.not_lt_of_lt h1,Nat.ne_of_gt h1]
  ·rw[cj (by omega) (by omega)]
  ·rw[yw (by decide) (Nat.le_refl _),yw (by decide) (by omega)]
  rintro e rfl;by_cases h:v=w
  ·subst h;simp[tY]
  simp[h]
 rw[qB (su (by decide) hl)];simp only[Option.bind_some];rw[show decide (((can 4294967296 v).length:Int)≠((can 4294967296 w).length:Int))=true by simp;omega,show decide (((can 4294967296 v).length:Int)<((can 4294967296 w).length:Int))=false by simp;omega];rfl
theorem wY{l:List Nat}(h:∀x∈l,x<4294967296)(i:Nat):l.getD i 0<4294967296:=by
 rcases Nat.lt_or_ge i l.length with hi|hi
 ·exact h _ (List.mem_of_getElem? (o4 hi))
 rw[rQ hi];decide
theorem vW(a b:List Nat)(ha:Bz a)(hb:Bz b):dL a b=some (dA 4294967296 (max a.length b.length+1) (vl a+vl b)):=by
 obtain⟨hA,hla⟩:=ha;obtain⟨hB,hlb⟩:=hb;have hV:val 4294967296 a<4294967296^(max a.length b.length):=Nat.lt_of_lt_of_le (ew a hA) (Nat.pow_le_pow_right (by decide) (by omega));have hW:val 4294967296 b<4294967296^(max a.length b.length):=Nat.lt_of_lt_of_le (ew b hB) (Nat.pow_le_pow_right (by decide) (by omega));unfold dL;simp only[Option.bind_some];rw[show max (a.length:Int) (b.length:Int)=((max a.length b.length:Nat):Int) by omega,b8 (by omega),EH (by decide) (by omega),Option.bind_some];refine oA (λk=>(wW 4294967296 (vl a) (vl b) k,dA 4294967296 k (vl a+vl b))) (by simp[yz,dA]) (λk hk=>?_) ?_
 ·have hx:=wY hA k;have hy:=wY hB k;have hc:=yx (B:=4294967296) (by decide) (vl a) (vl b) k;have Z0:=nO a hA k;have Z1:=nO b hB k;simp only[Option.bind_some];rw[Nat.mod_eq_of_lt (a:=a.getD k 0) (by omega),Nat.mod_eq_of_lt (a:=b.getD k 0) (by omega),Nat.mod_eq_of_lt (a:=a.getD k 0+b.getD k 0) (by omega),fI _ _ (by omega)];simp only[Option.bind_some];rw[vc (by decide) (by rw[bB];omega),Option.bind_some,Z0,Z1,yy (by decide),wX (by decide),<-fY]
 have hc:=yx (B:=4294967296) (by decide) (vl a) (vl b) (max a.length b.length);simp only;rw[fI _ _ (by omega)];simp only[Option.bind_some];rw[vc (by decide) (by rw[bB];omega),Option.bind_some,Nat.zero_add,Bu hV hW,<-fY]
theorem vX(a b:List Nat)(ha:Bz a)(hb:Bz b)(hl:b.length<=a.length)(hle:vl b<=vl a):cE a b=some (dA 4294967296 a.length (vl a-vl b)):=by
 obtain⟨hA,hla⟩:=ha;obtain⟨hB,hlb⟩:=hb;have hmx:max a.length b.length=a.length:=by omega
 unfold cE;simp only[Option.bind_some];rw[EH (by decide) (by omega),Option.bind_some,hmx];refine oA (λk=>(vf 4294967296 (vl a) (vl b) k,dA 4294967296 k (vl a-vl b))) (by simp[yA,dA]) (λk hk=>?_) Y;have hx:=wY hA k;have hy:=wY hB k;have hc:=EI (B:=4294967296) (by decide) (vl a) (vl b) k;have Z0:=nO a hA k;have Z1:=nO b hB k;simp only[Option.bind_some];rw[Nat.mod_eq_of_lt (a:=a.getD k 0) (by omega),Nat.mod_eq_of_lt (a:=b.getD k 0) (by omega),oz (by omega) (by omega),Nat.mod_eq_of_lt (a:=a.getD k 0+(4294967295-b.getD k 0)) (by omega),fI _ _ (by omega)];simp only[Option.bind_some];rw[vc (by decide) (by rw[bB];omega),Option.bind_some,Z0,Z1,yB (B:=4294967296) (by decide),Bv (B:=4294967296) (by decide) hle,<-fY]
theorem De(a b:List Nat)(ha:Bz a)(hb:Bz b):eO a b=some (dA 4294967296 (a.length+b.length) (vl a*vl b)):=by
 obtain⟨hA,hla⟩:=ha;obtain⟨hB,hlb⟩:=hb;unfold eO;simp only[Option.bind_some];rw[kI (by omega),qa (by decide) (by omega),Option.bind_some];refine bF (λi=>((i:Int),dA 4294967296 (a.length+b.length) (vl a%4294967296^i*vl b))) a.length (dA 4294967296 (a.length+b.length) (vl a%4294967296^a.length*vl b)) (by simp[Nat.mod_one,nN]) (λi hi=>?_) (by simp) (by rw[Nat.mod_eq_of_lt (ew a hA)]);have Ut:=jQ hA hi;have hx:val 4294967296 a/4294967296^i%4294967296<4294967296:=Nat.mod_lt _ (by decide);simp only[Option.bind_some,show decide ((i:Int)<(a.length:Int))=true by simp;omega,cond_true];rw[bO Ut,Option.bind_some];refine bF (λk=>((k:Int),mC 4294967296 (vl a) (vl b) i k,dA 4294967296 (a.length+b.length) (mV 4294967296 (vl a) (vl b) i k))) b.length (mC 4294967296 (vl a) (vl b) i b.length,dA 4294967296 (a.length+b.length) (mV 4294967296 (vl a) (vl b) i b.length)) (by simp[LZ,LY]) (λk hk=>?_) (by simp) ?_
 ·have hgy:=jQ hB hk;have Uu:=Qq (B:=4294967296) (by decide) (V:=vl a) (W:=vl b) (i:=i) (k:=k) (N:=a.length+b.length) (by omega);have hy:val 4294967296 b/4294967296^k%4294967296<4294967296:=Nat.mod_lt _ (by decide);have hp:vl a%4294967296^i*vl b/4294967296^(i+k)%4294967296<4294967296:=Nat.mod_lt _ (by decide);have hc:=Ow (B:=4294967296) (by decide) (vl a) (vl b) i k;have hxy:val 4294967296 a/4294967296^i%4294967296*(val 4294967296 b/4294967296^k%4294967296)<=4294967295*4294967295:=Nat.mul_le_mul (by omega) (by omega);simp only[Option.bind_some,show decide ((k:Int)<(b.length:Int))=true by simp;omega,cond_true];rw[bO hgy,Option.bind_some,kI (by omega),eY (by rw[bB];omega),Option.bind_some,Uu,Option.bind_some]
  rw[Nat.mod_eq_of_lt (a:=vl a%4294967296^i*vl b/4294967296^(i+k)%4294967296) (by omega),Nat.mod_eq_of_lt (a:=val 4294967296 a/4294967296^i%4294967296) (b:=18446744073709551616) (by omega),Nat.mod_eq_of_lt (a:=val 4294967296 b/4294967296^k%4294967296) (b:=18446744073709551616) (by omega),Nat.mod_eq_of_lt (a:=val 4294967296 a/4294967296^i%4294967296*(val 4294967296 b/4294967296^k%4294967296)) (by omega),Nat.mod_eq_of_lt (a:=vl a%4294967296^i*vl b/4294967296^(i+k)%4294967296+_) (by omega),fI _ _ (by omega)];simp only[Option.bind_some];rw[ir (by rw[bB];omega),Option.bind_some,LW (B:=4294967296) (by decide),LX (B:=4294967296) (by decide) (by omega),b8 (by omega)]
 have hc:=Ow (B:=4294967296) (by decide) (vl a) (vl b) i b.length;simp only[Option.bind_some];rw[kI (by omega),fI _ _ (by omega)];simp only[Option.bind_some];rw[eY (by rw[bB];omega),Option.bind_some,ir (by rw[bB];omega),Option.bind_some,Qs (B:=4294967296) (by decide) (ew b hB) (by omega),b8 (by omega)]
end
section
open Go.Fw
theorem L7{a b s:Nat}(h:a<2^s):b*2^s ||| a=b*2^s+a:=by rw[Nat.or_comm,JW h,Nat.add_comm]
theorem FJ{a b:Nat}(h:a<4294967296):b*4294967296 ||| a=b*4294967296+a:=L7 (s:=32) h
theorem Df(a:List Nat)(d:Nat)(ha:Bz a)(hd:0<d)(hd2:d<=4294967296):fU a d=some (vl a%d,dA 4294967296 a.length (vl a/d)):=by
 obtain⟨hA,hla⟩:=ha;unfold fU;simp only[Option.bind_some];rw[cj (by omega) (by omega)];refine bF (λi=>(vl a/4294967296^(a.length-i)%d,((a.length-i:Nat):Int)-1,dA 4294967296 a.length (qU 4294967296 (vl a) d (a.length-i)))) a.length (vl a%d,dA 4294967296 a.length (vl a/d)) ?_ (λi hi=>?_) (by simp[L0]) ?_
 ·simp only[Nat.sub_zero];rw[Qt (ew a hA),wV a hA,Nat.div_eq_of_lt (ew a hA),Nat.zero_mod]
 ·obtain⟨m,hm⟩:∃m,a.length-i=m+1:=⟨a.length-i-1,by omega⟩;have hm':a.length-(i+1)=m:=by omega
  have hml:m<a.length:=by omega
  rw[hm,hm'];have hy:vl a/4294967296^m%4294967296<4294967296:=Nat.mod_lt _ (by decide);have hr:vl a/4294967296^(m+1)%d<d:=Nat.mod_lt _ hd;have hq:=L2 (B:=4294967296) (by decide) hd (vl a) m;have hqd:(vl a/4294967296^(m+1)%d*4294967296+vl a/4294967296^m%4294967296)/d<4294967296:=by rw[Nat.div_lt_iff_lt_mul hd,Nat.mul_comm 4294967296 d];exact hq
  have hg:=Qu (B:=4294967296) (by decide) (V:=vl a) (d:=d) (m:=m) (N:=a.length) hml;have hlt:vl a/4294967296^(m+1)%d*4294967296+vl a/4294967296^m%4294967296<18446744073709551616:=by omega
  have Hf:vl a/4294967296^(m+1)%d*4294967296<18446744073709551616:=Nat.lt_of_le_of_lt (Nat.le_add_right _ _) hlt;have zL:vl a/4294967296^m%4294967296<18446744073709551616:=Nat.lt_of_le_of_lt (Nat.le_add_left _ _) hlt;have hi1:((m+1:Nat):Int)-1=(m:Int):=by omega
  simp only[hi1,show decide ((0:Int)<=(m:Int))=true by simp,cond_true,Option.bind_some];rw[eY (by rw[bB];omega),Option.bind_some,hg];simp only[Option.bind_some];rw[show(2:Nat)^32=4294967296 from rfl];rw[Nat.mod_eq_of_lt (a:=vl a/4294967296^(m+1)%d*4294967296) Hf,Nat.mod_eq_of_lt (a:=vl a/4294967296^m%4294967296) (b:=18446744073709551616) zL,FJ hy,Nat.mod_eq_of_lt (a:=vl a/4294967296^(m+1)%d*4294967296+vl a/4294967296^m%4294967296) hlt,Bs (by omega) hlt,wU (by omega)];simp only[Option.bind_some];rw[Nat.mod_eq_of_lt (b:=4294967296) (a:=(vl a/4294967296^(m+1)%d*4294967296+vl a/4294967296^m%4294967296)/d) hqd,ir (by rw[bB];omega),Option.bind_some,cj (by omega) (by omega)];rw[L4 (B:=4294967296) (by decide) hd hml,<-JS (B:=4294967296) (d:=d) (vl a) m]
 simp only;rw[nM (by rw[bB]),Option.bind_some]
theorem shiftLeft_eq(a:List Nat)(s:Nat)(ha:Bz a)(hs:s<32):ek a s=some (dA 4294967296 (a.length+1) (vl a*2^s)):=by
 obtain⟨hA,hla⟩:=ha;have hf:2^s<4294967296:=by
  have:2^s<2^32:=Nat.pow_lt_pow_right (by decide) hs;omega
 unfold ek;simp only[Option.bind_some];rw[b8 (by omega),EH (by decide) (by omega),Option.bind_some];refine bF (λi=>((i:Int),sC 4294967296 (vl a) (2^s) 0 i,dA 4294967296 i (vl a*2^s+0))) a.length (sC 4294967296 (vl a) (2^s) 0 a.length,dA 4294967296 a.length (vl a*2^s+0)) (by simp[Bx,dA]) (λi hi=>?_) (by simp) ?_
 ·have hx:vl a/4294967296^i%4294967296<4294967296:=Nat.mod_lt _ (by decide);have hc:=JR (B:=4294967296) (by decide) (V:=vl a) hf (show(0:Nat)<4294967296 by decide) i;have hxf:vl a/4294967296^i%4294967296*2^s<=4294967295*4294967295:=Nat.mul_le_mul (by omega) (by omega);have hg:a[i]? =some (vl a/4294967296^i%4294967296):=jQ hA hi;simp only[show decide ((i:Int)<(a.length:Int))=true by simp;omega,cond_true];rw[bO hg];simp only[Option.bind_some];rw[show min s 64=s by omega,Nat.mod_eq_of_lt (a:=vl a/4294967296^i%4294967296) (b:=18446744073709551616) (by omega),Nat.mod_eq_of_lt (b:=18446744073709551616) (by omega),fI _ _ (by omega)];simp only[Option.bind_some];rw[vc (by decide) (by rw[bB];omega),Option.bind_some,By (B:=4294967296) (by decide),EM (B:=4294967296) (by decide),b8 (by omega),<-fY]
 have hc:=JR (B:=4294967296) (by decide) (V:=vl a) hf (show(0:Nat)<4294967296 by decide) a.length;simp only;rw[fI _ _ (by omega)];simp only[Option.bind_some];rw[vc (by decide) (by rw[bB];omega),Option.bind_some,Nat.zero_add,EN (ew a hA),<-fY];simp
theorem zF(a:List Nat)(s:Nat):gj a s=ek a s:=rfl
def sw:O3:=[0,1,2,2,3,3,3,3,4,4,4,4,4,4,4,4,5,5,5,5,5,5,5,5,5,5,5,5,5,5,5,5]++List.replicate 32 6++List.replicate 64 7++List.replicate 128 8
theorem Qv:∀y:Nat,y<256->qZ sw (y:Int)=some ((qZ sw (y:Int)).getD 0)/\(qZ sw (y:Int)).getD 0<=8/\y<2^(qZ sw (y:Int)).getD 0/\(y=0\/2^(qZ sw (y:Int)).getD 0<=2*y):=by decide+kernel
set_option maxRecDepth 20000 in
theorem JX(x:Nat)(h:x<4294967296):∃n:Nat,fu x=some (n:Int)/\n<=32/\x<2^n/\(x=0\/2^n<=2*x):=by
 have key:∀(y k:Nat),y<256->y=x/2^k->k<=24->(x≠0->y≠0)->∃n:Nat,(((qZ sw ((y%256:Nat):Int)).bind λfE=>(some (IntKind.i64.wrap (fE:Int))).bind λeM=>(some (IntKind.i64.wrap ((k:Int)+eM))).bind λfj=>some fj)=some (n:Int))/\n<=32/\x<2^n/\(x=0\/2^n<=2*x):=by
  intro y k hy hyx hk hnz;obtain⟨h1,h2,h3,h4⟩:=Qv y hy;rw[Nat.mod_eq_of_lt hy,h1];generalize (qZ sw (y:Int)).getD 0=t at*;have hp:0<2^k:=Nat.two_pow_pos _;have e1:2^(k+t)=2^k*2^t:=Nat.pow_add ..;have e2:=Nat.div_add_mod x (2^k);have e3:=Nat.mod_lt x hp;rw[<-hyx]at e2;refine⟨k+t,?_,by omega,?_,?_⟩
  ·simp only[Option.bind_some];rw[fO (by omega),kI (by omega)]
  ·rw[e1];have:2^k*(y+1)<=2^k*2^t:=Nat.mul_le_mul_left _ h3;rw[Nat.mul_add]at this;omega
  rcases h4 with h4|h4
  ·left;cases Nat.eq_zero_or_pos x with
   |inl h=>exact h
   |inr h=>exact absurd h4 (hnz (by omega))
  right;rw[e1];have:2^k*2^t<=2^k*(2*y):=Nat.mul_le_mul_left _ h4;rw[show 2^k*(2*y)=2*(2^k*y) by rw[Nat.mul_left_comm]]at this;omega
 unfold fu;simp only[cg,Option.bind_some];by_cases c1:65536<=x
 ·rw[show decide (65536<=x)=true by simpa using c1];simp only[cond_true];by_cases c2:256<=x/2^16
  ·rw[show decide (256<=x/2^16)=true by simpa using c2];simp only[cond_true];rw[show IntKind.i64.wrap (16+8)=((24:Nat):Int) by decide];exact key (x/2^16/2^8) 24 (by omega) (by omega) (by omega) (by omega)
  rw[show decide (256<=x/2^16)=false by simpa using c2];simp only[cond_false];exact key (x/2^16) 16 (by omega) Y (by omega) (by omega)
 rw[show decide (65536<=x)=false by simpa using c1];simp only[cond_false];by_cases c2:256<=x
 ·rw[show decide (256<=x)=true by simpa using c2];simp only[cond_true];rw[show IntKind.i64.wrap (0+8)=((8:Nat):Int) by decide];exact key (x/2^8) 8 (by omega) Y (by omega) (by omega)
 rw[show decide (256<=x)=false by simpa using c2];simp only[cond_false];exact key x 0 (by omega) (by simp) (by omega) (λh=>h)
theorem Tx(x:Nat)(h:x<4294967296)(h0:x≠0):∃s:Nat,cO x=some (s:Int)/\s<32/\2147483648<=x*2^s/\x*2^s<4294967296:=by
 obtain⟨n,h1,h2,h3,h4⟩:=JX x h;have h4:2^n<=2*x:=h4.resolve_left h0;have hn:n≠0:=by rintro rfl;simp at h3;omega
 refine⟨32-n,?_,by omega,?_,?_⟩
 ·unfold cO;rw[h1];simp only[Option.bind_some];rw[cj (by omega) (by omega)];congr 1;omega
 ·have:2^n*2^(32-n)<=2*x*2^(32-n):=Nat.mul_le_mul_right _ h4;rw[<-Nat.pow_add,show n+(32-n)=32 by omega,Nat.mul_assoc]at this;omega
 have:x*2^(32-n)<2^n*2^(32-n):=Nat.mul_lt_mul_of_pos_right h3 (Nat.two_pow_pos _);rw[<-Nat.pow_add,show n+(32-n)=32 by omega]at this;omega
end
end Go.Proofs.YtfoldppidpmchaaGreat
namespace Go.Fw
section
section Ty
variable {B V U W:Nat}
theorem Qw{P F T:Nat}(hP:0<P)(hF:0<F)(hV:F*P<=V)(hU:U<(T+1)*P):U/V<=T/F:=by
 have Qx:0<V:=Nat.lt_of_lt_of_le (Nat.mul_pos hF hP) hV;rw[Nat.le_div_iff_mul_le hF];rcases Nat.lt_or_ge T (U/V*F)with h|h
 ·exfalso;have h1:U/V*V<=U:=Nat.div_mul_le_self U V;have h2:U/V*(F*P)<=U/V*V:=Nat.mul_le_mul_left _ hV;have h3:(T+1)*P<=U/V*F*P:=Nat.mul_le_mul_right _ h;rw[Nat.mul_assoc]at h3;omega
 exact h
theorem L8{P F S T u g r:Nat}(hV:(F*B+S)*P<=V)(hU:U<(T*B+u+1)*P)(RA:g*F+r=T)(h:r*B+u<g*S):U<g*V:=by
 have h1:g*((F*B+S)*P)<=g*V:=Nat.mul_le_mul_left _ hV;have h2:(T*B+u+1)*P<=g*(F*B+S)*P:=by
  apply Nat.mul_le_mul_right;rw[Nat.mul_add,<-Nat.mul_assoc,<-RA,Nat.add_mul];omega
 rw[Nat.mul_assoc]at h2;omega
theorem Qy{P V2 U2 g:Nat}(hV:V<(V2+1)*P)(hU:U2*P<=U)(hq:U/V<B)(hB:B<=V2)(Qx:0<V)(h:g*V2<=U2):g<=U/V+1:=by
 rcases Nat.lt_or_ge (U/V+1) g with h'|h'
 ·exfalso;have h1:U<(U/V+1)*V:=by have:=Nat.lt_div_mul_add (a:=U) Qx;rw[Nat.add_mul,Nat.one_mul];exact this
  have h2:(U/V+1)*V<=(U/V+1)*((V2+1)*P):=Nat.mul_le_mul_left _ (Nat.le_of_lt hV);have h3:g*V2*P<=U2*P:=Nat.mul_le_mul_right _ h;have h4:(U/V+2)*V2<=g*V2:=Nat.mul_le_mul_right _ h';have h5:(U/V+2)*V2*P<=g*V2*P:=Nat.mul_le_mul_right _ h4;have h6:(U/V+1)*((V2+1)*P)<=(U/V+2)*V2*P:=by
   rw[<-Nat.mul_assoc];apply Nat.mul_le_mul_right;rw[Nat.mul_add,Nat.add_mul (U/V) 2 V2,Nat.add_mul (U/V) 1 V2];omega
  omega
 exact h'
end Ty
def mix(B o i X U A:Nat):Nat:=A%B^o+B^o*(X%B^i+B^i*(U/B^i))
theorem FK(B o i X U A:Nat):mix B o i X U A%B^o=A%B^o:=by rw[mix,Nat.add_mul_mod_self_left,Nat.mod_mod]
section mix
variable {B:Nat}(hB:0<B)(o i X U A:Nat)
include hB
theorem ua:mix B o i X U A/B^o=X%B^i+B^i*(U/B^i):=by
 rw[mix,Nat.add_mul_div_left _ _ (Nat.pow_pos hB),Nat.div_eq_of_lt (Nat.mod_lt _ (Nat.pow_pos hB)),Nat.zero_add]
theorem uc:mix B o i X U A/B^(o+i)=U/B^i:=by
 rw[Nat.pow_add,<-Nat.div_div_eq_div_mul,ua hB,Nat.add_mul_div_left _ _ (Nat.pow_pos hB),Nat.div_eq_of_lt (Nat.mod_lt _ (Nat.pow_pos hB)),Nat.zero_add]
theorem L9:mix B o i X U A%B^(o+i)=A%B^o+B^o*(X%B^i):=by
 rw[Nat.pow_add,Nat.mod_mul,FK,ua hB,Nat.add_mul_mod_self_left,Nat.mod_mod]
theorem BA{N:Nat}(h:o+i<N):(dA B N (mix B o i X U A)).set (o+i) (X/B^i%B)=dA B N (mix B o (i+1) X U A):=by
 apply qA hB h (Nat.mod_lt _ hB)
 ·rw[L9 hB,Nat.pow_add,Nat.mod_mul,FK,ua hB,Nat.pow_succ B i,Nat.mul_assoc,Nat.add_mul_mod_self_left,Nat.mod_mul,Nat.add_mul_mod_self_left,Nat.mod_mod]
 ·rw[Nat.pow_add,<-Nat.div_div_eq_div_mul,ua hB,Nat.pow_succ B i,Nat.mod_mul,Nat.mul_assoc,Nat.add_assoc,<-Nat.mul_add,Nat.add_mul_div_left _ _ (Nat.pow_pos hB),Nat.div_eq_of_lt (Nat.mod_lt _ (Nat.pow_pos hB)),Nat.zero_add,Nat.add_mul_mod_self_left,Nat.mod_mod]
 have h1:=uc hB o (i+1) X U A;have h2:=uc hB o i X U A;rw[show o+i+1=o+(i+1) by omega,h1,show o+(i+1)=(o+i)+1 by omega,Nat.pow_succ B (o+i),<-Nat.div_div_eq_div_mul,h2,Nat.pow_succ,<-Nat.div_div_eq_div_mul]
end mix
theorem Dg{B o m X U A:Nat}(hU:U<B^m):mix B o m X U A=A%B^o+B^o*(X%B^m):=by rw[mix,Nat.div_eq_of_lt hU];simp
theorem Dh{B:Nat}(o X A:Nat):mix B o 0 X (A/B^o) A=A:=by
 simp only[mix,Nat.pow_zero,Nat.mod_one,Nat.zero_add,Nat.one_mul,Nat.div_one];exact Nat.mod_add_div A (B^o)
theorem G0{B U U' T i:Nat}(h:U%B^i=U'%B^i):vf B U T i=vf B U' T i:=by rw[vf,vf,h]
theorem JY{B:Nat}(hB:0<B){U T m i:Nat}(hi:i<m)(hT:T<=U+B^m):(U/B^i%B+(B-1-T/B^i%B)+vf B U T i)%B=(U+B^m-T)/B^i%B:=by
 have e:B^m=B^i*(B*B^(m-i-1)):=by rw[<-Nat.pow_succ',<-Nat.pow_add];congr 1;omega
 have h1:(U+B^m)%B^i=U%B^i:=by rw[e,Nat.add_mul_mod_self_left]
 have h2:(U+B^m)/B^i%B=U/B^i%B:=by rw[e,Nat.add_mul_div_left _ _ (Nat.pow_pos hB),Nat.add_mul_mod_self_left]
 rw[<-h2,G0 (U':=U+B^m) h1.symm,Bv hB hT]
theorem Ma{B m U T:Nat}(hB:0<B)(hU:U<B^m)(hT:T<B^m):vf B U T m=if U<T then 0 else 1:=by
 rw[vf,Nat.mod_eq_of_lt hU,Nat.mod_eq_of_lt hT];have hp:0<B^m:=Nat.pow_pos hB;split
 ·exact Nat.div_eq_of_lt (by omega)
 rw[show U+B^m-T=(U-T)+B^m by omega,Nat.add_div_right _ hp,Nat.div_eq_of_lt (by omega)]
end
end Go.Fw
namespace Go.Proofs.YtfoldppidpmchaaGreat
section
open Go.Fw
theorem lu{N A j:Nat}(h:j<N):(dA 4294967296 N A)[j]? =some (A/4294967296^j%4294967296):=tW N A j h
theorem two32:(2:Nat)^32=4294967296:=rfl
theorem Tz:(2:Nat)^63=9223372036854775808:=rfl
theorem BB(A o j:Nat):A/4294967296^(o+j)=A/4294967296^o/4294967296^j:=by rw[Nat.pow_add,Nat.div_div_eq_div_mul]
theorem Di{N A o n:Nat}{v:List Nat}(hv:Bz v)(hn:v.length=n+2)(hN:N<=35184372088809)(ho:o+(n+2)<N)
  (hU:A/4294967296^o<4294967296*vl v) (JZ:2147483648*4294967296^(n+1)<=vl v):
  ∃r,fV (dA 4294967296 N A) o (n+3) v=some r/\r.2=dA 4294967296 N A/\A/4294967296^o/vl v<=r.1/\r.1<=A/4294967296^o/vl v+1:=by
 obtain⟨hV,hlv⟩:=hv;obtain⟨U,KB⟩:∃U,A/4294967296^o=U:=⟨_,Y⟩;obtain⟨V,KC⟩:∃V,vl v=V:=⟨_,Y⟩;have wH:V<4294967296^(n+2):=by rw[<-KC,<-hn];exact ew v hV
 have OA:0<4294967296^(n+1):=Nat.pow_pos (by decide);have hP:0<4294967296^n:=Nat.pow_pos (by decide);have Qz:4294967296^(n+1)=4294967296^n*4294967296:=Nat.pow_succ ..;have Dj:4294967296^(n+2)=4294967296^(n+1)*4294967296:=Nat.pow_succ ..;rw[KB,KC]at hU⊢;rw[KC]at JZ;have TA:U<4294967296^(n+1)*4294967296*4294967296:=by
  have:4294967296*V<4294967296*4294967296^(n+2):=Nat.mul_lt_mul_of_pos_left wH (by decide);rw[Dj]at this;omega
 obtain⟨F,hF⟩:∃F,V/4294967296^(n+1)=F:=⟨_,Y⟩;obtain⟨S,hS⟩:∃S,V/4294967296^n%4294967296=S:=⟨_,Y⟩;obtain⟨T,hT⟩:∃T,U/4294967296^(n+1)=T:=⟨_,Y⟩;obtain⟨u,hu⟩:∃u,U/4294967296^n%4294967296=u:=⟨_,Y⟩;have Z2:F<4294967296:=by rw[<-hF,Nat.div_lt_iff_lt_mul OA];rw[Dj,Nat.mul_comm]at wH;exact wH
 have ads:2147483648<=F:=by rw[<-hF,Nat.le_div_iff_mul_le OA];exact JZ
 have adt:S<4294967296:=by rw[<-hS];exact Nat.mod_lt _ (by decide)
 have TB:u<4294967296:=by rw[<-hu];exact Nat.mod_lt _ (by decide)
 have Z3:T<4294967296*4294967296:=by rw[<-hT,Nat.div_lt_iff_lt_mul OA];rw[Nat.mul_comm,<-Nat.mul_assoc];exact TA
 have Z4:V/4294967296^n=F*4294967296+S:=by rw[<-hF,<-hS,Qz,<-Nat.div_div_eq_div_mul,Nat.mul_comm,Nat.div_add_mod]
 have Z5:U/4294967296^n=T*4294967296+u:=by rw[<-hT,<-hu,Qz,<-Nat.div_div_eq_div_mul,Nat.mul_comm,Nat.div_add_mod]
 have hq:U/V<4294967296:=by rw[Nat.div_lt_iff_lt_mul (by omega)];exact hU
 have TC:(F*4294967296+S)*4294967296^n<=V:=by rw[<-Z4];exact Nat.div_mul_le_self _ _
 have TD:V<(F*4294967296+S+1)*4294967296^n:=by rw[<-Z4,Nat.add_mul,Nat.one_mul];exact Nat.lt_div_mul_add hP
 have TE:(T*4294967296+u)*4294967296^n<=U:=by rw[<-Z5];exact Nat.div_mul_le_self _ _
 have TF:U<(T*4294967296+u+1)*4294967296^n:=by rw[<-Z5,Nat.add_mul,Nat.one_mul];exact Nat.lt_div_mul_add hP
 have OB:F*4294967296^(n+1)<=V:=by rw[<-hF];exact Nat.div_mul_le_self _ _
 have OC:U<(T+1)*4294967296^(n+1):=by rw[<-hT,Nat.add_mul,Nat.one_mul];exact Nat.lt_div_mul_add OA
 have OD:V<(F+1)*4294967296^(n+1):=by rw[<-hF,Nat.add_mul,Nat.one_mul];exact Nat.lt_div_mul_add OA
 have hTF:T<4294967296*(F+1):=by
  rw[<-hT,Nat.div_lt_iff_lt_mul OA];have:4294967296*V<4294967296*((F+1)*4294967296^(n+1)):=Nat.mul_lt_mul_of_pos_left OD (by decide);rw[Nat.mul_assoc];omega
 have g1:(dA 4294967296 N A)[o+(n+2)]? =some (U/4294967296^(n+2)%4294967296):=by rw[lu (by omega),BB,KB]
 have g2:(dA 4294967296 N A)[o+(n+1)]? =some (U/4294967296^(n+1)%4294967296):=by rw[lu (by omega),BB,KB]
 have g3:(dA 4294967296 N A)[o+n]? =some u:=by rw[lu (by omega),BB,KB,hu]
 have g4:v[n+1]? =some F:=by rw[jQ hV (by omega),show val 4294967296 v=V from KC,hF,Nat.mod_eq_of_lt Z2]
 have g5:v[n]? =some S:=by rw[jQ hV (by omega),show val 4294967296 v=V from KC,hS]
 have hun:U/4294967296^(n+2)<4294967296:=by rw[Dj,<-Nat.div_div_eq_div_mul,hT,Nat.div_lt_iff_lt_mul (by decide)];exact Z3
 have EO:U/4294967296^(n+2)%4294967296*4294967296+U/4294967296^(n+1)%4294967296=T:=by
  rw[Nat.mod_eq_of_lt hun,Dj,<-Nat.div_div_eq_div_mul,hT,Nat.mul_comm,Nat.div_add_mod]
 obtain⟨t1,Z6⟩:∃t,U/4294967296^(n+2)%4294967296=t:=⟨_,Y⟩;obtain⟨t2,Z7⟩:∃t,U/4294967296^(n+1)%4294967296=t:=⟨_,Y⟩;have l1:t1<4294967296:=by rw[<-Z6];exact Nat.mod_lt _ (by decide)
 have l2:t2<4294967296:=by rw[<-Z7];exact Nat.mod_lt _ (by decide)
 rw[Z6]at g1 EO;rw[Z7]at g2 EO;clear Z6 Z7 Z5 Z4;have c1:((n+2:Nat):Int)-1=((n+1:Nat):Int):=by omega
 have c2:((n+2:Nat):Int)-2=(n:Int):=by omega
 unfold fV;simp only[Option.bind_some,hn,c1,c2];rw[fO (by omega),fO (by omega),wS (by omega),wS (by omega),wS (by omega)];simp only[Option.bind_some];rw[g1,g2,bO g4,bO g5];simp only[Option.bind_some,two32];rw[Nat.mod_eq_of_lt (a:=t1) (by omega),Nat.mod_eq_of_lt (a:=t2) (by omega),Nat.mod_eq_of_lt (a:=t1*4294967296) (by omega),FJ l2,EO,Nat.mod_eq_of_lt (a:=T) (by omega),Nat.mod_eq_of_lt (a:=F) (by omega),Nat.mod_eq_of_lt (a:=S) (by omega),Bs (by omega) (by omega),wU (by omega)];simp only[Option.bind_some];have Z8:=Qw (V:=V) (U:=U) OA (show 0<F by omega) OB OC;have hle:∀g,g*(F*4294967296+S)<=T*4294967296+u->g<=U/V+1:=λg h=>Qy (B:=4294967296) TD TE hq (by omega) (by omega) h;have Z9:∀g r,g*F+r=T->r*4294967296+u<g*S->U/V<g:=λg r i1 ht=>(Nat.div_lt_iff_lt_mul (by omega)).2 (L8 TC TF i1 ht);have hg0:T/F<=4294967297:=by
  have:T/F<4294967298:=by
   rw[Nat.div_lt_iff_lt_mul (by omega)];omega
  omega
 generalize U/V=q at*;clear TC TD TE TF OB OC OD hTF TA JZ wH Qz Dj hP OA hF hS hT hu KB KC hU;have hdm:=Nat.div_add_mod T F;have hml:=Nat.mod_lt T (show 0<F by omega);have aab:T/F*F+T%F=T:=by rw[Nat.mul_comm];exact hdm
 clear hdm;refine lY (λx=>x.1*F+x.2=T/\q<=x.1/\x.2<4294967296/\x.1<=4294967297) (λe=>q<=e/\e<=q+1) (λx=>x.1) ?_ ⟨aab,Z8,by show T%F<_;omega,hg0⟩ ?_
 ·rintro⟨g,r⟩ ⟨i1,i2,i3,i4⟩;simp only at i1 i2 i3 i4;have down:q<g->(∃s',(bif decide ((r+F)%18446744073709551616/4294967296≠0)then some (.inr (mw 18446744073709551616 g 1))else some (.inl (mw 18446744073709551616 g 1,(r+F)%18446744073709551616)):Option ((Nat×Nat)⊕Nat))=some (.inl s')/\(s'.1*F+s'.2=T/\q<=s'.1/\s'.2<4294967296/\s'.1<=4294967297)/\s'.1<g)\/
    (∃e,(bif decide ((r+F)%18446744073709551616/4294967296≠0)then some (.inr (mw 18446744073709551616 g 1))else some (.inl (mw 18446744073709551616 g 1,(r+F)%18446744073709551616)):Option ((Nat×Nat)⊕Nat))=some (.inr e)/\q<=e/\e<=q+1):=by
   intro hlt;have e1:(g-1)*F+(r+F)=T:=by
    obtain⟨k,rfl⟩:∃k,g=k+1:=⟨g-1,by omega⟩;rw[Nat.add_sub_cancel];rw[Nat.add_mul]at i1;omega
   rw[oz (by omega) (by omega),Nat.mod_eq_of_lt (a:=r+F) (by omega)];by_cases hb:r+F<4294967296
   ·left;refine⟨(g-1,r+F),by simp[Nat.div_eq_of_lt hb],⟨e1,by simp only;omega,hb,by simp only;omega⟩,by simp only;omega⟩
   right;have hne:(r+F)/4294967296≠0:=by omega
   refine⟨g-1,by simp[hne],by omega,?_⟩;refine hle _ ?_;have m1:(g-1)*S<=4294967296*4294967295:=Nat.mul_le_mul (by omega) (by omega);rw[Nat.mul_add,<-Nat.mul_assoc];have m2:((g-1)*F+(r+F))*4294967296=T*4294967296:=by rw[e1]
   rw[Nat.add_mul]at m2;omega
  simp only[cg,bD];by_cases hg:g<4294967296
  ·rw[show decide (g/4294967296≠0)=false by simp;omega];have hgS:g*S<=4294967295*4294967295:=Nat.mul_le_mul (by omega) (by omega);simp only[fg];rw[g3];simp only[bD];rw[Nat.mod_eq_of_lt (a:=g*S) (by omega),Nat.mod_eq_of_lt (a:=r*4294967296) (by omega),Nat.mod_eq_of_lt (a:=u) (by omega),FJ TB,Nat.mod_eq_of_lt (a:=r*4294967296+u) (by omega)];by_cases ht:r*4294967296+u<g*S
   ·rw[show decide (r*4294967296+u<g*S)=true by simpa using ht];simp only[bD,eK];exact down (Z9 _ _ i1 ht)
   rw[show decide (r*4294967296+u<g*S)=false by simpa using ht];right;refine⟨g,by simp,i2,?_⟩;refine hle _ ?_;rw[Nat.mul_add,<-Nat.mul_assoc,<-i1,Nat.add_mul];omega
  rw[show decide (g/4294967296≠0)=true by simp;omega];simp only[bD,eK];exact down (by omega)
 rintro e ⟨h2,h3⟩;exact⟨(e,dA 4294967296 N A),by rw[nM Y,Option.bind_some],Y,h2,h3⟩
end
section
open Go.Fw
theorem qR{N A o n f:Nat}{v:List Nat}(hv:Bz v)(hn:v.length=n)(hN:N<=35184372088809)(ho:o+n<N)(hf:f<=4294967296)
  (hU:A/4294967296^o<4294967296^(n+1)):
  cG (dA 4294967296 N A) o (n+1) v f=some (decide (A/4294967296^o<vl v*f),dA 4294967296 N (A%4294967296^o+4294967296^o*((A/4294967296^o+4294967296^(n+1)-vl v*f)%4294967296^(n+1)))):=by
 obtain⟨hV,hlv⟩:=hv;obtain⟨U,KB⟩:∃U,A/4294967296^o=U:=⟨_,Y⟩;obtain⟨V,KC⟩:∃V,vl v=V:=⟨_,Y⟩;have wH:V<4294967296^n:=by rw[<-KC,<-hn];exact ew v hV
 have KQ:4294967296^(n+1)=4294967296^n*4294967296:=Nat.pow_succ ..;have hT:V*f<4294967296^(n+1):=by
  rw[KQ]
  calc V*f<=V*4294967296:=Nat.mul_le_mul_left _ hf
   _<4294967296^n*4294967296:=Nat.mul_lt_mul_of_pos_right wH (by decide)
 rw[KB]at hU⊢;rw[KC];obtain⟨X,hX⟩:∃X,U+4294967296^(n+1)-V*f=X:=⟨_,Y⟩;rw[hX];unfold cG;simp only[bD];have QA:∀i,vf 4294967296 U (V*f) i<=1:=λi=>EI (by decide) _ _ _;refine bF (λi=>(1-vf 4294967296 U (V*f) i,(i:Int),sC 4294967296 V f 0 i,dA 4294967296 N (mix 4294967296 o i X U A))) (n+1) (1-vf 4294967296 U (V*f) (n+1),dA 4294967296 N (mix 4294967296 o (n+1) X U A)) ?_ (λi hi=>?_) ?_ ?_
 ·rw[yA,Bx,<-KB,Dh];rfl
 ·
  obtain⟨t,ht⟩:∃t,V*f/4294967296^i%4294967296=t:=⟨_,Y⟩;obtain⟨c,hc⟩:∃c,sC 4294967296 V f 0 i=c:=⟨_,Y⟩;obtain⟨p,hp⟩:∃p,V/4294967296^i%4294967296*f=p:=⟨_,Y⟩;have adv:c<4294967296:=by
   rw[<-hc,sC,sT,Nat.add_zero,Nat.div_lt_iff_lt_mul (Nat.pow_pos (by decide))]
   calc V%4294967296^i*f<=V%4294967296^i*4294967296:=Nat.mul_le_mul_left _ hf
    _<4294967296*4294967296^i:=by rw[Nat.mul_comm];exact Nat.mul_lt_mul_of_pos_left (Nat.mod_lt _ (Nat.pow_pos (by decide))) (by decide)
  have adw:p<=4294967295*4294967296:=by
   rw[<-hp];exact Nat.mul_le_mul (by have:=Nat.mod_lt (V/4294967296^i) (show 0<4294967296 by decide);omega) hf
  have EK:(p+c)%4294967296=t:=by rw[<-hp,<-hc,EM (B:=4294967296) (by decide),Nat.add_zero,ht]
  have hstep:(p+c)/4294967296=sC 4294967296 V f 0 (i+1):=by rw[<-hp,<-hc,By (B:=4294967296) (by decide)]
  have adx:t<4294967296:=by rw[<-ht];exact Nat.mod_lt _ (by decide)
  obtain⟨u,hu⟩:∃u,U/4294967296^i%4294967296=u:=⟨_,Y⟩;have TB:u<4294967296:=by rw[<-hu];exact Nat.mod_lt _ (by decide)
  have hg:(dA 4294967296 N (mix 4294967296 o i X U A))[o+i]? =some u:=by rw[lu (by omega),uc (by decide),hu]
  have hl:=QA i;obtain⟨l,hle⟩:∃l,vf 4294967296 U (V*f) i=l:=⟨_,Y⟩;have hxd:(u+(4294967296-1-t)+l)%4294967296=X/4294967296^i%4294967296:=by rw[<-hu,<-ht,<-hle,JY (B:=4294967296) (by decide) hi (by omega),hX]
  have hls:(u+(4294967296-1-t)+l)/4294967296=vf 4294967296 U (V*f) (i+1):=by rw[<-hu,<-ht,<-hle,yB (B:=4294967296) (by decide)]
  rw[hle]at hl;have hput:=BA (B:=4294967296) (by decide) o i X U A (N:=N) (by omega);rw[hle,hc,<-hls];simp only[show decide ((i:Int)<((n+1:Nat):Int))=true by simp;omega,eK,bD,cg];rw[wS (by omega)];simp only[bD,hg];have way:∀k:Nat->Option ((Nat×Int×Nat×List Nat)⊕(Nat×List Nat)),(bif decide ((i:Int)<(v.length:Int))then(c9 v (i:Int)).bind λgO=>k (gO%18446744073709551616*f%18446744073709551616)else k 0)=k p:=by
   intro k;by_cases hin:i<v.length
   ·rw[show decide ((i:Int)<(v.length:Int))=true by simp;omega,eK];have F9:v[i]? =some (V/4294967296^i%4294967296):=by rw[<-KC];exact jQ hV hin
    rw[bO F9,bD,Nat.mod_eq_of_lt (a:=V/4294967296^i%4294967296) (b:=18446744073709551616) (by have:=Nat.mod_lt (V/4294967296^i) (show 0<4294967296 by decide);omega),hp,Nat.mod_eq_of_lt (a:=p) (by omega)]
   rw[show decide ((i:Int)<(v.length:Int))=false by simp;omega,fg];have:V/4294967296^i=0:=Nat.div_eq_of_lt (Nat.lt_of_lt_of_le wH (Nat.pow_le_pow_right (by decide) (by omega)));rw[<-hp,this];simp
  refine(way (λy=>(bH y c).bind _)).trans ?_;rw[fI _ _ (by omega)];simp only[bD];rw[EK,hstep,Nat.mod_eq_of_lt (a:=u) (by omega),Nat.mod_eq_of_lt (a:=t) (by omega)];rw[ir (by rw[bB];omega),bD,b8 (by omega),Tz];by_cases OU:u<t+(1-l)
  ·have e1:mw 18446744073709551616 (mw 18446744073709551616 u t) (1-l)=18446744073709551616+u-t-(1-l):=by
    by_cases h1:u<t
    ·rw[tR h1 (by omega),oz (by omega) (by omega)]
    rw[oz (a:=u) (b:=t) (by omega) (by omega),tR (by omega) (by omega)];omega
   rw[e1];have e2:(18446744073709551616+u-t-(1-l))%4294967296=X/4294967296^i%4294967296:=by rw[<-hxd];omega
   have e3:(18446744073709551616+u-t-(1-l))/9223372036854775808=1-(u+(4294967296-1-t)+l)/4294967296:=by omega
   rw[e2,e3,hput]
  have e1:mw 18446744073709551616 (mw 18446744073709551616 u t) (1-l)=u-t-(1-l):=by
   rw[oz (a:=u) (b:=t) (by omega) (by omega),oz (by omega) (by omega)]
  rw[e1];have e2:(u-t-(1-l))%4294967296=X/4294967296^i%4294967296:=by rw[<-hxd];omega
  have e3:(u-t-(1-l))/9223372036854775808=1-(u+(4294967296-1-t)+l)/4294967296:=by omega
  rw[e2,e3,hput]
 ·simp
 simp only[bD];rw[nM (by rw[bB,bB]),bD,Dg hU,Ma (by decide) hU hT];congr 2;by_cases h:U<V*f<;>simp[h]
end
section
open Go.Fw
theorem TG{B V:Nat}(hB:0<B)(hV:0<V)(A k:Nat):A%(V*B^(k+1))/B^k<B*V:=by
 rw[Nat.div_lt_iff_lt_mul (Nat.pow_pos hB)];have:V*B^(k+1)=B*V*B^k:=by rw[Nat.pow_succ,Nat.mul_comm (B^k),<-Nat.mul_assoc,Nat.mul_comm V]
 rw[<-this];exact Nat.mod_lt _ (Nat.mul_pos hV (Nat.pow_pos hB))
theorem QB{B V:Nat}(A k:Nat):A%(V*B^(k+1))%B^k+B^k*(A%(V*B^(k+1))/B^k%V)=A%(V*B^k):=by
 rw[<-Nat.mod_mul,Nat.mul_comm (B^k),Nat.mod_mod_of_dvd];rw[Nat.pow_succ,<-Nat.mul_assoc];exact Nat.dvd_mul_right _ _
theorem QC{B V:Nat}(A k:Nat):A%(V*B^(k+1))/B^k/V=A/V/B^k%B:=by
 rw[Nat.div_div_eq_div_mul,Nat.mul_comm (B^k),Nat.pow_succ,<-Nat.mul_assoc,Nat.mod_mul_right_div_self,Nat.div_div_eq_div_mul]
theorem BC{B:Nat}(hB:0<B){N k:Nat}(h:k<N)(Q:Nat):(dA B N (Q/B^(k+1)*B^(k+1))).set k (Q/B^k%B)=dA B N (Q/B^k*B^k):=by
 have hP:0<B^k:=Nat.pow_pos hB;refine qA hB h (Nat.mod_lt _ hB) ?_ ?_ ?_
 ·rw[Nat.mul_mod_left,Nat.pow_succ,Nat.mul_comm (B^k),<-Nat.mul_assoc,Nat.mul_mod_left]
 ·rw[Nat.mul_div_cancel _ hP]
 rw[Nat.mul_div_cancel _ (Nat.pow_pos hB),Nat.pow_succ,<-Nat.div_div_eq_div_mul,Nat.mul_div_cancel _ hP,Nat.div_div_eq_div_mul]
theorem FL{α:Type}{l:List α}{o n:Nat}(h:o<l.length)(h':o+n<=l.length):O5 l (o:Int) ((o+n:Nat):Int)=some (o,n):=by
 unfold O5;rw[if_pos (by omega)];congr 2;omega
theorem Mb{U V g M:Nat}(hV:0<V)(h1:U/V<=g)(h2:g<=U/V+1)(hM:U<M)(hVM:V<=M):
  (V*g<=U/\g=U/V/\(U+M-V*g)%M=U%V)\/(U<V*g/\g=U/V+1/\U+M-V*g<M/\(U+M-V*g+V)%M=U%V):=by
 have hd:=Nat.div_add_mod U V;have hm:=Nat.mod_lt U hV
 revert h1 h2 hd hm
 generalize U/V=q;generalize U%V=r;intro h1 h2 hd hm;rcases Nat.lt_or_ge q g with h|h
 ·obtain rfl:g=q+1:=by omega
  have e:V*(q+1)=V*q+V:=Nat.mul_succ ..;right;refine⟨by omega,Y,by omega,?_⟩;rw[show U+M-V*(q+1)+V=r+M by omega,Nat.add_mod_right,Nat.mod_eq_of_lt (by omega)]
 obtain rfl:g=q:=by omega
 left;refine⟨by omega,Y,?_⟩;rw[show U+M-V*g=r+M by omega,Nat.add_mod_right,Nat.mod_eq_of_lt (by omega)]
theorem Mc{R D e i:Nat}(hD:0<D)(he:4294967296=D*e):(R*D/4294967296^(i+1)%4294967296*4294967296+R*D/4294967296^i%4294967296)/D%4294967296=R/4294967296^i%4294967296:=by
 have h1:R*D/4294967296^(i+1)%4294967296*4294967296+R*D/4294967296^i%4294967296=R*D/4294967296^i%(4294967296*4294967296):=by
  rw[Nat.mod_mul,Nat.div_div_eq_div_mul,show 4294967296^i*4294967296=4294967296^(i+1)from(Nat.pow_succ ..).symm,Nat.add_comm,Nat.mul_comm 4294967296]
 have h2:(4294967296*4294967296:Nat)=D*(e*4294967296):=by
  rw[<-Nat.mul_assoc,<-he]
 rw[h1,h2,Nat.mod_mul_right_div_self,Nat.mod_mul_left_mod,Nat.div_div_eq_div_mul,Nat.mul_comm (4294967296^i) D,<-Nat.div_div_eq_div_mul,Nat.mul_div_cancel _ hD]
theorem QD{B:Nat}(hB:0<B){N i R:Nat}(h:i<N):(dA B N (R%B^i)).set i (R/B^i%B)=dA B N (R%B^(i+1)):=by
 refine qA hB h (Nat.mod_lt _ hB) ?_ ?_ ?_
 ·rw[Nat.mod_mod,Nat.mod_mod_of_dvd _ (Nat.pow_dvd_pow _ (Nat.le_succ i))]
 ·rw[Nat.pow_succ,Nat.mod_mul_right_div_self,Nat.mod_mod]
 rw[Nat.div_eq_of_lt (Nat.mod_lt _ (Nat.pow_pos hB)),Nat.div_eq_of_lt];exact Nat.lt_of_lt_of_le (Nat.mod_lt _ (Nat.pow_pos hB)) (Nat.pow_le_pow_right hB (Nat.le_succ i))
theorem EP(a b:List Nat)(ha:Bz a)(hb:Bz b){n:Nat}(hn:b.length=n+2)(hl:b.length<=a.length)(EO:b[n+1]? ≠some 0):
  gA a b=some (dA 4294967296 (a.length-b.length+1) (vl a/vl b),dA 4294967296 b.length (vl a%vl b)):=by
 obtain⟨hA,hla⟩:=ha;obtain⟨hB,hlb⟩:=hb;have hP:∀k,0<4294967296^k:=λk=>Nat.pow_pos (by decide);obtain⟨Va,hVa⟩:∃V,vl a=V:=⟨_,Y⟩;obtain⟨Vb,hVb⟩:∃V,vl b=V:=⟨_,Y⟩;have QE:Vb<4294967296^(n+2):=by rw[<-hVb,<-hn];exact ew b hB
 have halt:Va<4294967296^a.length:=by rw[<-hVa];exact ew a hA
 have Dj:4294967296^(n+2)=4294967296^(n+1)*4294967296:=Nat.pow_succ ..;obtain⟨x,hx⟩:∃x,Vb/4294967296^(n+1)=x:=⟨_,Y⟩;have TH:x<4294967296:=by rw[<-hx,Nat.div_lt_iff_lt_mul (hP _)];rw[Dj,Nat.mul_comm]at QE;exact QE
 have Ut:b[n+1]? =some x:=by rw[jQ hB (by omega),show val 4294967296 b=Vb from hVb,hx,Nat.mod_eq_of_lt TH]
 have hx0:x≠0:=λe=>EO (by rw[Ut,e]);obtain⟨s,Hf,zL,Uh,hs4⟩:=Tx x TH hx0;have TI:0<2^s:=Nat.two_pow_pos s;have TJ:2^s<4294967296:=by
  have:2^s<2^32:=Nat.pow_lt_pow_right (by decide) zL;rw[two32]at this;exact this
 obtain⟨D,hD⟩:∃D,2^s=D:=⟨_,Y⟩;rw[hD]at Uh hs4 TI TJ;obtain⟨V,hV⟩:∃V,Vb*D=V:=⟨_,Y⟩;obtain⟨A,Uv⟩:∃A,Va*D=A:=⟨_,Y⟩;have wH:V<4294967296^(n+2):=by
  have h1:Vb<(x+1)*4294967296^(n+1):=by rw[<-hx,Nat.add_mul,Nat.one_mul];exact Nat.lt_div_mul_add (hP _)
  have h2:(x+1)*D<=4294967296:=by
   obtain⟨e,he⟩:∃e,4294967296=D*e:=⟨2^(32-s),by rw[<-hD,<-Nat.pow_add,show s+(32-s)=32 by omega,two32]⟩;have h3:x<e:=by
    apply Nat.lt_of_mul_lt_mul_left (a:=D);rw[<-he,Nat.mul_comm];exact hs4
   calc (x+1)*D<=e*D:=Nat.mul_le_mul_right _ h3
    _=4294967296:=by rw[Nat.mul_comm,<-he]
  rw[<-hV,Dj]
  calc Vb*D<(x+1)*4294967296^(n+1)*D:=Nat.mul_lt_mul_of_pos_right h1 TI
   _=4294967296^(n+1)*((x+1)*D):=by rw[Nat.mul_comm (x+1),Nat.mul_assoc]
   _<=4294967296^(n+1)*4294967296:=Nat.mul_le_mul_left _ h2
 have J0:2147483648*4294967296^(n+1)<=V:=by
  have h1:x*4294967296^(n+1)<=Vb:=by rw[<-hx];exact Nat.div_mul_le_self _ _
  rw[<-hV]
  calc 2147483648*4294967296^(n+1)<=x*D*4294967296^(n+1):=Nat.mul_le_mul_right _ Uh
   _=x*4294967296^(n+1)*D:=by rw[Nat.mul_assoc,Nat.mul_comm D,<-Nat.mul_assoc]
   _<=Vb*D:=Nat.mul_le_mul_right _ h1
 have Qx:0<V:=Nat.lt_of_lt_of_le (Nat.mul_pos (by decide) (hP _)) J0;have hb0:0<Vb:=by
  rcases Nat.eq_zero_or_pos Vb with h|h
  ·rw[<-hV,h,Nat.zero_mul]at Qx;omega
  exact h
 have hAV:A/V=Va/Vb:=by rw[<-Uv,<-hV,Nat.mul_div_mul_right _ _ TI]
 have aad:A%V=Va%Vb*D:=by rw[<-Uv,<-hV,Nat.mul_mod_mul_right]
 obtain⟨K,hK⟩:∃K,a.length=K+(n+2):=⟨a.length-(n+2),by omega⟩;have TK:A<V*4294967296^(K+1):=by
  have h1:4294967296^(n+1)<=Vb:=by
   have:1*4294967296^(n+1)<=x*4294967296^(n+1):=Nat.mul_le_mul_right _ (by omega);have h2:x*4294967296^(n+1)<=Vb:=by rw[<-hx];exact Nat.div_mul_le_self _ _
   omega
  rw[<-Uv,<-hV]
  calc Va*D<4294967296^a.length*D:=Nat.mul_lt_mul_of_pos_right halt TI
   _=4294967296^(n+1)*4294967296^(K+1)*D:=by rw[hK,<-Nat.pow_add];congr 2;omega
   _<=Vb*4294967296^(K+1)*D:=Nat.mul_le_mul_right _ (Nat.mul_le_mul_right _ h1)
   _=Vb*D*4294967296^(K+1):=by rw[Nat.mul_assoc,Nat.mul_comm _ D,<-Nat.mul_assoc]
 obtain⟨v,Uw⟩:∃v,dA 4294967296 (n+2) V=v:=⟨_,Y⟩;have hvl:v.length=n+2:=by rw[<-Uw,bB]
 have hvW:Bz v:=⟨λy hy=>by rw[<-Uw]at hy;exact lK (by decide) _ _ _ hy,by omega⟩;have TL:vl v=V:=by rw[<-Uw];show val _ _=_;rw[jP,Nat.mod_eq_of_lt wH]
 have TM:List.take b.length (dA 4294967296 (b.length+1) (Vb*2^s))=v:=by
  rw[hD,hV,hn,fY,List.take_append_of_le_length (by rw[bB];omega),List.take_of_length_le (by rw[bB];omega),Uw]
 unfold gA;simp only[bD];rw[show((b.length:Nat):Int)-1=((n+1:Nat):Int) by omega,fO (by omega),bO Ut,bD,Hf,bD];rw[show((s:Int)%18446744073709551616).toNat=s by rw[Int.emod_eq_of_lt (by omega) (by omega)];simp];rw[zF,shiftLeft_eq a s ⟨hA,hla⟩ zL,bD,shiftLeft_eq b s ⟨hB,hlb⟩ zL,bD,l9 (by rw[bB];omega),bD];obtain⟨Q,hQ⟩:∃Q,A/V=Q:=⟨_,Y⟩;have aaf:Q<4294967296^(K+1):=by rw[<-hQ,Nat.div_lt_iff_lt_mul Qx,Nat.mul_comm];exact TK
 rw[hVa,hVb,<-hAV,hQ,TM,hD,Uv,hn];rw[show a.length-(n+2)+1=K+1 by omega];rw[cj (x:=(a.length:Int)-((n+2:Nat):Int)) (by omega) (by omega),cj (x:=(a.length:Int)-((n+2:Nat):Int)+1) (by omega) (by omega),show(a.length:Int)-((n+2:Nat):Int)+1=((K+1:Nat):Int) by omega,qa (by decide) (by omega),bD,show(a.length:Int)-((n+2:Nat):Int)=(K:Int) by omega];refine bF (λj=>((K:Int)-(j:Int),dA 4294967296 (K+1) (Q/4294967296^(K+1-j)*4294967296^(K+1-j)),dA 4294967296 (a.length+1) (A%(V*4294967296^(K+1-j))))) (K+1) (dA 4294967296 (K+1) Q,dA 4294967296 (a.length+1) (A%V)) ?_ (λj hj=>?_) ?_ ?_
 ·rw[show K+1-0=K+1 by omega,Nat.mod_eq_of_lt TK,Nat.div_eq_of_lt aaf,Nat.zero_mul,nN];simp
 ·
  obtain⟨k,hk⟩:∃k,K=k+j:=⟨K-j,by omega⟩;rw[show K+1-j=k+1 by omega,show K+1-(j+1)=k by omega,show(K:Int)-(j:Int)=(k:Int) by omega,show(K:Int)-((j+1:Nat):Int)=(k:Int)-1 by omega];have hU:=TG (B:=4294967296) (by decide) Qx A k;have Dk:=QB (B:=4294967296) (V:=V) A k;have QF:=QC (B:=4294967296) (V:=V) A k;obtain⟨N,hN⟩:∃N,a.length+1=N:=⟨_,Y⟩;obtain⟨A1,hA1⟩:∃A1,A%(V*4294967296^(k+1))=A1:=⟨_,Y⟩;rw[hN];rw[hA1]at hU Dk QF⊢;rw[hQ]at QF;obtain⟨⟨g,lg⟩,hge,hgl,Ux,Uy⟩:=Di (N:=N) (A:=A1) (o:=k) (n:=n) (v:=v) hvW hvl (by omega) (by omega) (by rw[TL];exact hU) (by rw[TL];exact J0);simp only at hgl Ux Uy;rw[TL]at Ux Uy;subst hgl;have hsub:=qR (N:=N) (A:=A1) (o:=k) (n:=n+2) (v:=v) (f:=g) hvW hvl (by omega) (by omega) ?_ ?_
  ·rw[TL]at hsub;obtain⟨U,KB⟩:∃U,A1/4294967296^k=U:=⟨_,Y⟩;rw[KB]at hU Dk QF Ux Uy hsub;have Md:4294967296^(n+2+1)=4294967296^(n+2)*4294967296:=Nat.pow_succ ..;have hUM:U<4294967296^(n+2+1):=by
    have:4294967296*V<4294967296*4294967296^(n+2):=Nat.mul_lt_mul_of_pos_left wH (by decide);rw[Md];omega
   have J1:=Mb (M:=4294967296^(n+2+1)) Qx Ux Uy hUM (by rw[Md];omega);have hql:U/V<4294967296:=by rw[QF];exact Nat.mod_lt _ (by decide)
   rw[show decide ((0:Int)<=(k:Int))=true by simp,eK];rw[kI (by omega),b8 (by omega),show k+(n+2)+1=k+(n+3) by omega,FL (by rw[bB];omega) (by rw[bB];omega),bD,hge,bD,nM Y,bD,FL (by rw[bB];omega) (by rw[bB];omega),bD];show(Option.bind (cG _ k (n+2+1) v g) _)=_;rw[hsub,bD,nM (by rw[bB,bB]),bD];simp only[cg];rcases J1 with⟨hc1,DO,TN⟩|⟨hc1,DO,TN,hc4⟩
   ·rw[show decide (U<V*g)=false by simp;omega,fg,TN,Dk,DO,Nat.mod_eq_of_lt hql,QF,eY (by rw[bB];omega),bD,ir (by rw[bB];omega),bD,BC (by decide) (by omega),cj (by omega) (by omega)]
   rw[show decide (U<V*g)=true by simp;omega,eK,oz (by omega) (by omega),show g-1=U/V by omega,Nat.mod_eq_of_lt hql,QF];rw[Nat.mod_eq_of_lt TN];obtain⟨aa,hY⟩:∃aa,U+4294967296^(n+2+1)-V*g=aa:=⟨_,Y⟩;rw[hY]at TN hc4⊢;obtain⟨A2,hA2⟩:∃A2,A1%4294967296^k+4294967296^k*aa=A2:=⟨_,Y⟩;rw[hA2];have R5:A2/4294967296^k=aa:=by rw[<-hA2,Nat.add_mul_div_left _ _ (hP k),Nat.div_eq_of_lt (Nat.mod_lt _ (hP k)),Nat.zero_add]
   have UL:A2%4294967296^k=A1%4294967296^k:=by rw[<-hA2,Nat.add_mul_mod_self_left,Nat.mod_mod]
   have hcr:∀i,wW 4294967296 aa V i<=1:=λi=>yx (by decide) _ _ _;refine bF (λi=>((i:Int),wW 4294967296 aa V i,dA 4294967296 N (mix 4294967296 k i (aa+V) aa A2))) (n+2) (wW 4294967296 aa V (n+2),dA 4294967296 N (mix 4294967296 k (n+2) (aa+V) aa A2)) ?_ (λi hi=>?_) ?_ ?_
   ·rw[yz,<-R5,Dh];rfl
   ·have F9:v[i]? =some (V/4294967296^i%4294967296):=by rw[<-TL];exact jQ hvW.1 (by omega)
    have hgu:(dA 4294967296 N (mix 4294967296 k i (aa+V) aa A2))[k+i]? =some (aa/4294967296^i%4294967296):=by rw[lu (by omega),uc (by decide)]
    have Hf:=yy (B:=4294967296) (by decide) aa V i;have zL:=wX (B:=4294967296) (by decide) aa V i;have hput:=BA (B:=4294967296) (by decide) k i (aa+V) aa A2 (N:=N) (by omega);have hci:=hcr i;have hv1:=Nat.mod_lt (V/4294967296^i) (show 0<4294967296 by decide);have Ro:=Nat.mod_lt (aa/4294967296^i) (show 0<4294967296 by decide);simp only[show decide ((i:Int)<(v.length:Int))=true by simp;omega,eK];rw[bO F9,bD,kI (by omega),eY (by rw[bB];omega),bD,hgu,bD,Nat.mod_eq_of_lt (a:=aa/4294967296^i%4294967296) (b:=18446744073709551616) (by omega),Nat.mod_eq_of_lt (a:=V/4294967296^i%4294967296) (b:=18446744073709551616) (by omega),Nat.mod_eq_of_lt (b:=18446744073709551616) (by omega),fI _ _ (by omega),bD,bD,ir (by rw[bB];omega),bD,b8 (by omega)];rw[Hf,zL,hput]
   ·simp[hvl]
   have hgu:(dA 4294967296 N (mix 4294967296 k (n+2) (aa+V) aa A2))[k+(n+2)]? =some (aa/4294967296^(n+2)%4294967296):=by rw[lu (by omega),uc (by decide)]
   have zL:=wX (B:=4294967296) (by decide) aa V (n+2);have hput:=BA (B:=4294967296) (by decide) k (n+2) (aa+V) aa A2 (N:=N) (by omega);have hci:=hcr (n+2);have Ro:=Nat.mod_lt (aa/4294967296^(n+2)) (show 0<4294967296 by decide);rw[Nat.div_eq_of_lt wH,Nat.zero_mod,Nat.add_zero]at zL;simp only[];rw[eY (by rw[bB];omega),bD,hgu,bD,Nat.mod_eq_of_lt (a:=aa/4294967296^(n+2)%4294967296) (b:=18446744073709551616) (by omega),fI _ _ (by omega),bD,bD,ir (by rw[bB];omega),bD,zL,hput,Dg TN,UL,hc4,Dk,eY (by rw[bB];omega),bD,ir (by rw[bB];omega),bD,BC (by decide) (by omega),cj (by omega) (by omega)]
  ·
   have hql:A1/4294967296^k/V<4294967296:=by rw[QF];exact Nat.mod_lt _ (by decide)
   omega
  have Md:4294967296^(n+2+1)=4294967296^(n+2)*4294967296:=Nat.pow_succ ..;have:4294967296*V<4294967296*4294967296^(n+2):=Nat.mul_lt_mul_of_pos_left wH (by decide);rw[Md];omega
 ·rw[show K+1-(K+1)=0 by omega,Nat.pow_zero,Nat.mul_one,Nat.mul_one,Nat.div_one,show decide (0<=(K:Int)-((K+1:Nat):Int))=false by simp;omega,fg]
 obtain⟨R,hR⟩:∃R,Va%Vb=R:=⟨_,Y⟩;rw[aad,hR];have aaj:R<4294967296^(n+2):=by rw[<-hR];exact Nat.lt_trans (Nat.mod_lt _ hb0) QE
 rw[qa (by decide) (by omega),bD];refine bF (λi=>((i:Int),dA 4294967296 (n+2) (R%4294967296^i))) (n+2) (dA 4294967296 (n+2) R) ?_ (λi hi=>?_) ?_ Y
 ·rw[Nat.pow_zero,Nat.mod_one,nN];rfl
 ·obtain⟨e,he⟩:∃e,4294967296=D*e:=⟨2^(32-s),by rw[<-hD,<-Nat.pow_add,show s+(32-s)=32 by omega,two32]⟩;have J2:=Mc (R:=R) (i:=i) TI he;obtain⟨u,hu⟩:∃u,R*D/4294967296^i%4294967296=u:=⟨_,Y⟩;obtain⟨w,hw⟩:∃w,R*D/4294967296^(i+1)%4294967296=w:=⟨_,Y⟩;have UR:u<4294967296:=by rw[<-hu];exact Nat.mod_lt _ (by decide)
  have Ub:w<4294967296:=by rw[<-hw];exact Nat.mod_lt _ (by decide)
  rw[hu,hw]at J2;simp only[show decide ((i:Int)<((n+2:Nat):Int))=true by simp;omega,eK];rw[eY (by rw[bB];omega),bD,lu (by omega),bD,hu,b8 (by omega),eY (by rw[bB];omega),bD,lu (by omega),bD,hw,Nat.mod_eq_of_lt (a:=u) (by omega),Nat.mod_eq_of_lt (a:=w) (by omega),two32,Nat.mod_eq_of_lt (a:=w*4294967296) (by omega),Nat.or_comm,FJ UR,Nat.mod_eq_of_lt (a:=w*4294967296+u) (by omega),show min s 64=s by omega,hD,J2,eY (by rw[bB];omega),bD,ir (by rw[bB];omega),bD];rw[QD (by decide) hi]
 rw[Nat.mod_eq_of_lt aaj];simp
end
section
open Go.Fw
def sv(n:Bool)(v:Nat):Int:=bif n then-(v:Int)else v
def zi(z:Zr):Int:=sv z.neg (vl z.w)
def zn(i:Int):Zr:=⟨decide (i<0),can 4294967296 i.natAbs⟩
def Wl(z:Zr):Prop:=(∀x∈z.w,x<4294967296)/\z.w.length<=35184372088788
def Fit(L:Nat)(i:Int):Prop:=i.natAbs<4294967296^L
theorem J3(n:Bool)(v:Nat):(sv n v).natAbs=v:=by cases n<;>simp[sv]
theorem qc(z:Zr):(zi z).natAbs=vl z.w:=J3 _ _
theorem QG(n:Bool)(v:Nat):decide (sv n v<0)=(n&&v != 0):=by
 cases n
 ·have:¬((v:Int)<0):=by omega
  simp[sv,this]
 rcases v with _|v
 ·simp[sv]
 simp[sv]
theorem mK(n:Bool)(v:Nat):zc n v=zn (sv n v):=by rw[zc,zn,QG,J3]
theorem Me(i:Int):sv (decide (i<0)) i.natAbs=i:=by
 by_cases h:i<0
 ·rw[show decide (i<0)=true by simp[h]];simp[sv];omega
 rw[show decide (i<0)=false by simp[h]];simp[sv];omega
theorem eA(i:Int):zi (zn i)=i:=by
 show sv (decide (i<0)) (vl (can 4294967296 i.natAbs))=i;rw[show vl (can 4294967296 i.natAbs)=i.natAbs from iD (by decide) _,Me]
theorem yD(n:Bool)(v:Nat):sv (!n) v=-sv n v:=by cases n<;>simp[sv]
theorem iw(v:Nat):sv false v=v:=rfl
theorem Fit.mono{L M:Nat}{i:Int}(h:Fit L i)(hl:L<=M):Fit M i:=Nat.lt_of_lt_of_le h (Nat.pow_le_pow_right (by decide) hl)
theorem Fit.neg{L:Nat}{i:Int}(h:Fit L i):Fit L (-i):=by unfold Fit at*;rw[Int.natAbs_neg];exact h
theorem Fit.add{L:Nat}{i j:Int}(h:Fit L i)(h':Fit L j):Fit (L+1) (i+j):=by
 unfold Fit at*;have:=Int.natAbs_add_le i j;rw[Nat.pow_succ];omega
theorem Fit.sub{L:Nat}{i j:Int}(h:Fit L i)(h':Fit L j):Fit (L+1) (i-j):=by
 rw[Int.sub_eq_add_neg];exact h.add h'.neg
theorem Fit.mul{L M:Nat}{i j:Int}(h:Fit L i)(h':Fit M j):Fit (L+M) (i*j):=by
 unfold Fit at*;rw[Int.natAbs_mul,Nat.pow_add];exact Nat.mul_lt_mul'' h h'
theorem Fit.i64{i:Int}(h: -9223372036854775808<=i)(h':i<=9223372036854775807):Fit 2 i:=by
 unfold Fit;rw[show(4294967296:Nat)^2=18446744073709551616 by decide];omega
theorem Fit.le{L:Nat}{i j:Int}(h:Fit L i)(h':j.natAbs<=i.natAbs):Fit L j:=Nat.lt_of_le_of_lt h' h
theorem lz{L:Nat}{i:Int}(h:Fit L i)(hL:L<=35184372088788):Wl (zn i):=
 ⟨λ_ hx=>ei (by decide) hx,Nat.le_trans ((bJ (by decide)).2 h) hL⟩
theorem Wl.fit{z:Zr}(h:Wl z):Fit z.w.length (zi z):=by
 unfold Fit;rw[qc];exact ew z.w h.1
theorem Wl.lt{z:Zr}(h:Wl z):vl z.w<4294967296^z.w.length:=ew z.w h.1
theorem Wl.cl{z:Zr}(h:Wl z):(can 4294967296 (vl z.w)).length<=35184372088788:=
 Nat.le_trans ((bJ (by decide)).2 (Wl.lt h)) h.2
def Wx(z:Zr):Prop:=(∀x∈z.w,x<4294967296)/\z.w.length<=9000000000000000000
theorem Wl.x{z:Zr}(h:Wl z):Wx z:=⟨h.1,Nat.le_trans h.2 (by decide)⟩
theorem OE{L:Nat}{i:Int}(h:Fit L i)(hL:L<=9000000000000000000):Wx (zn i):=
 ⟨λ_ hx=>ei (by decide) hx,Nat.le_trans ((bJ (by decide)).2 h) hL⟩
theorem Wx.cl{z:Zr}(h:Wx z):(can 4294967296 (vl z.w)).length<=9000000000000000000:=
 Nat.le_trans ((bJ (by decide)).2 (ew z.w h.1)) h.2
theorem Wx.trim{z:Zr}(h:Wx z):bn z.w=some (can 4294967296 (vl z.w)):=by
 rw[tZ _ (by have:=h.2;omega),iv (by decide) h.1]
theorem Wl.trim{z:Zr}(h:Wl z):bn z.w=some (can 4294967296 (vl z.w)):=by
 rw[tZ _ (by have:=h.2;omega),iv (by decide) h.1]
theorem fD{v:Nat}(h:(can 4294967296 v).length<=35184372088789):Bz (can 4294967296 v):=⟨λ_ hx=>ei (by decide) hx,by omega⟩
theorem dN(v:Nat):vl (can 4294967296 v)=v:=iD (by decide) v
theorem eW{v:Nat}:((can 4294967296 v).length:Int)<=2↔v<18446744073709551616:=by
 have:=bJ (B:=4294967296) (by decide) (v:=v) (n:=2);rw[show(4294967296:Nat)^2=18446744073709551616 by decide]at this;omega
theorem jR{v:Nat}:((can 4294967296 v).length:Int)<=1↔v<4294967296:=by
 have:=bJ (B:=4294967296) (by decide) (v:=v) (n:=1);rw[show(4294967296:Nat)^1=4294967296 by decide]at this;omega
theorem mL{v:Nat}:(can 4294967296 v).length=0↔v=0:=by
 constructor
 ·intro h;exact tX (by decide) (List.length_eq_zero_iff.1 h)
 intro h;rw[h,mJ];rfl
theorem ud(l:List Nat)(h:l.length<=35184372088832):c7 l=some l:=by
 unfold c7;rw[Qp (by decide) (by simp;omega)];simp
end
section
open Go.Fw
theorem Dl(a b:Nat):decide (vg a b<0)=decide (a<b):=by
 rcases Nat.lt_trichotomy a b with h|h|h
 ·rw[oD h];simp[h]
 ·rw[h,tY];simp
 rw[qB h];simp;omega
theorem vY(a b:Nat)(ha:(can 4294967296 a).length<=35184372088788)(hb:(can 4294967296 b).length<=35184372088788)(h0:b≠0):
  ∃q r,eP (can 4294967296 a) (can 4294967296 b)=some (q,r)/\Bz q/\vl q=a/b/\Bz r/\vl r=a%b/\q.length<=35184372088789/\r.length<=35184372088789:=by
 unfold eP;rw[iV a b (by omega) (by omega)];simp only[bD];by_cases hlt:a<b
 ·rw[oD hlt];simp only[show decide ((-1:Int)<0)=true by decide,eK];rw[ud _ (by omega)];refine⟨_,_,Y,⟨by simp,by simp⟩,?_,fD (by omega),?_,by simp,by omega⟩
  ·rw[Nat.div_eq_of_lt hlt];rfl
  rw[dN,Nat.mod_eq_of_lt hlt]
 rw[Dl,show decide (a<b)=false by simp[hlt]];simp only[fg];by_cases h2:a<18446744073709551616
 ·rw[show decide (((can 4294967296 a).length:Int)<=2)=true by rw[decide_eq_true_eq];exact eW.2 h2];have B4:b<18446744073709551616:=by omega
  simp only[eK];have l1:=low_eq (can 4294967296 a) (λ_ hx=>ei (by decide) hx) (by have:=eW.2 h2;omega);have l2:=low_eq (can 4294967296 b) (λ_ hx=>ei (by decide) hx) (by have:=eW.2 B4;omega);rw[dN]at l1 l2;rw[l1,bD,l2,bD,Bs h0 h2,bD,nP _ _ (Nat.lt_of_le_of_lt (Nat.div_le_self _ _) h2),bD,wU h0,bD,nP _ _ (Nat.lt_of_le_of_lt (Nat.mod_le _ _) h2),bD];have hq:a/b<18446744073709551616:=Nat.lt_of_le_of_lt (Nat.div_le_self _ _) h2;have hr:a%b<18446744073709551616:=Nat.lt_of_le_of_lt (Nat.mod_le _ _) h2;have c1:=eW.2 hq;have c2:=eW.2 hr;exact⟨_,_,Y,fD (by omega),dN _,fD (by omega),dN _,by show(can _ _).length<=_;omega,by show(can _ _).length<=_;omega⟩
 rw[show decide (((can 4294967296 a).length:Int)<=2)=false by rw[decide_eq_false_iff_not];exact λh=>h2 (eW.1 h)];simp only[fg];have ri:(can 4294967296 b).length≠0:=λh=>h0 (mL.1 h);by_cases h1:b<4294967296
 ·have h1':=jR.2 h1;rw[show decide (((can 4294967296 b).length:Int)=1)=true by simp;omega,eK];have hg:(can 4294967296 b)[0]? =some b:=by rw[qy (by decide) (by omega)];simp;exact h1
  rw[ud _ (by omega),bD,qx hg,bD,Nat.mod_eq_of_lt (b:=18446744073709551616) (by omega),Df _ _ (fD (by omega)) (by omega) (by omega),bD,dN];simp only[];rw[nM (by rw[bB]),bD];have hm:a%b<b:=Nat.mod_lt _ (by omega);rw[Nat.mod_eq_of_lt (a:=a%b) (by omega)];refine⟨_,_,Y,⟨λx hx=>lK (by decide) _ _ _ hx,by rw[bB];omega⟩,?_,⟨?_,by simp⟩,?_,by rw[bB];omega,by simp⟩
  ·show val _ _=_;rw[jP,Nat.mod_eq_of_lt (Nat.lt_of_le_of_lt (Nat.div_le_self _ _) (cc (by decide) a))]
  ·intro x hx;simp at hx;omega
  simp[vl,val]
 have h1':¬(((can 4294967296 b).length:Int)<=1):=λh=>h1 (jR.1 h);rw[show decide (((can 4294967296 b).length:Int)=1)=false by simp;omega,fg];obtain⟨n,hn⟩:∃n,(can 4294967296 b).length=n+2:=⟨(can 4294967296 b).length-2,by omega⟩;have hl:(can 4294967296 b).length<=(can 4294967296 a).length:=(bJ (by decide)).2 (Nat.lt_of_le_of_lt (by omega) (cc (by decide) a));obtain⟨l,x,hx,he⟩:=Dd (B:=4294967296) (by decide) h0;have EO:(can 4294967296 b)[n+1]? ≠some 0:=by
  have:l.length=n+1:=by rw[he]at hn;simp at hn;omega
  rw[he,<-this];simp;exact hx
 rw[EP _ _ (fD (by omega)) (fD (by omega)) hn hl EO,bD,dN,dN];have hbp:0<b:=by omega
 have e1:a<4294967296^(can 4294967296 a).length:=cc (by decide) a;have e2:b<4294967296^(can 4294967296 b).length:=cc (by decide) b;have e3:4294967296^(n+1)<=b:=nA (by decide) (by omega);refine⟨_,_,Y,⟨λx hx=>lK (by decide) _ _ _ hx,by rw[bB];omega⟩,?_,⟨λx hx=>lK (by decide) _ _ _ hx,by rw[bB];omega⟩,?_,by rw[bB];omega,by rw[bB];omega⟩
 ·show val _ _=_;rw[jP,Nat.mod_eq_of_lt];rw[Nat.div_lt_iff_lt_mul hbp];have:4294967296^((can 4294967296 a).length-(can 4294967296 b).length+1)*4294967296^(n+1)=4294967296^(can 4294967296 a).length:=by rw[<-Nat.pow_add];congr 1;omega
  calc a<4294967296^((can 4294967296 a).length-(can 4294967296 b).length+1)*4294967296^(n+1):=by rw[this];exact e1
   _<=_:=Nat.mul_le_mul_left _ e3
 show val _ _=_;rw[jP,Nat.mod_eq_of_lt (Nat.lt_trans (Nat.mod_lt _ hbp) e2)]
end
section
open Go.Fw
theorem kA{x:Int}(h1: -9223372036854775808<=x)(h2:x<=9223372036854775807):bV x=some (zn x):=by
 unfold bV;simp only[bD,cg];by_cases hx:x<0
 ·have e:(x%18446744073709551616).toNat=18446744073709551616-x.natAbs:=by omega
  rw[show decide (x<0)=true by simp[hx],eK,e,tR (by omega) (by omega),show 18446744073709551616+0-(18446744073709551616-x.natAbs)=x.natAbs by omega,nP _ _ (by omega),bD,mK,show sv true x.natAbs=x by simp[sv];omega]
 have e:(x%18446744073709551616).toNat=x.natAbs:=by omega
 rw[show decide (x<0)=false by simp[hx],fg,e,nP _ _ (by omega),bD,mK,show sv false x.natAbs=x by simp[sv];omega]
def cY(i:Int):Prop:=-9223372036854775808<=i/\i<=9223372036854775807
instance(i:Int):Decidable (cY i):=by unfold cY;infer_instance
def qe(i:Int):Int×Bool:=if cY i then(i,true)else(0,false)
theorem mM{z:Zr}(h:Wl z):cQ z=some (qe (zi z)):=by
 obtain⟨n,w⟩:=z;unfold cQ;have ht:=h.trim;have aak:vl w<18446744073709551616->cW (can 4294967296 (vl w))=some (vl w):=λh2=>by
  rw[low_eq _ (λ_ hx=>ei (by decide) hx) (by have:=eW.2 h2;omega),dN]
 show(bn w).bind _=some (qe (sv n (vl w)));rw[show bn w=some (can 4294967296 (vl w))from ht];simp only[bD];generalize vl w=v at*;by_cases h2:v<18446744073709551616
 ·have:=eW.2 h2;rw[show decide ((2:Int)<((can 4294967296 v).length:Int))=false by simp;omega,fg,aak h2,bD];cases n
  ·rw[fg,iw];by_cases h3:v<9223372036854775808
   ·rw[show decide (9223372036854775808<=v)=false by simp;omega,fg,fO (by omega),qe,if_pos (by unfold cY;omega)]
   rw[show decide (9223372036854775808<=v)=true by simp;omega,eK,qe,if_neg (by unfold cY;omega)]
  rw[eK,show sv true v=-(v:Int)from rfl];by_cases h3:9223372036854775808<v
  ·rw[show decide (9223372036854775808<v)=true by simp;omega,eK,qe,if_neg (by unfold cY;omega)]
  rw[show decide (9223372036854775808<v)=false by simp;omega,fg,qe,if_pos (by unfold cY;omega)];by_cases h0:v=0
  ·subst h0;rfl
  rw[tR (by omega) (by omega)];rw[show IntKind.i64.wrap ((18446744073709551616+0-v:Nat):Int)=-(v:Int) by
   rw[IntKind.wrap];simp[IntKind.signed,IntKind.bits];omega]
 have:¬(((can 4294967296 v).length:Int)<=2):=λh=>h2 (eW.1 h);rw[show decide ((2:Int)<((can 4294967296 v).length:Int))=true by simp;omega,eK,qe,if_neg (by unfold cY;cases n<;>simp[sv]<;>omega)]
theorem J4{z:Zr}(h:Wx z):cq z=some (zi z).sign:=by
 obtain⟨n,w⟩:=z;unfold cq;show(bn w).bind _=some (sv n (vl w)).sign;rw[show bn w=some (can 4294967296 (vl w))from h.trim];simp only[bD];generalize vl w=v;by_cases h0:v=0
 ·subst h0;cases n<;>rfl
 have:(can 4294967296 v).length≠0:=λh=>h0 (mL.1 h);rw[show decide (((can 4294967296 v).length:Int)=0)=false by simp;intro e;rw[e]at this;exact this Y,fg];cases n
 ·rw[fg,iw,Int.sign_eq_one_of_pos (by omega)]
 rw[eK,show sv true v=-(v:Int)from Y,Int.sign_eq_neg_one_of_neg (by omega)]
def jc(i j:Int):Int:=if i<j then-1 else if i=j then 0 else 1
theorem fP{i j:Int}(h:i<j):jc i j=-1:=by simp[jc,h]
theorem fQ{i j:Int}(h:j<i):jc i j=1:=by
 have h1:¬i<j:=by omega
 have h2:¬i=j:=by omega
 simp[jc,h1,h2]
theorem mc(i:Int):jc i i=0:=by simp[jc]
theorem yE(v w:Nat):vg v w=jc (v:Int) (w:Int):=by
 rcases Nat.lt_trichotomy v w with h|h|h
 ·rw[oD h,fP (by omega)]
 ·rw[h,tY,mc]
 rw[qB h,fQ (by omega)]
theorem Dm(i j:Int):jc (-i) (-j)=jc j i:=by
 rcases Int.lt_trichotomy i j with h|h|h
 ·rw[fQ h,fQ (by omega)]
 ·rw[h,mc,mc]
 rw[fP h,fP (by omega)]
theorem sign_eq{z:Zr}(h:Wl z):cq z=some (zi z).sign:=J4 h.x
theorem TO{x y:Zr}(hx:Wx x)(hy:Wx y):kQ x y=some (jc (zi x) (zi y)):=by
 obtain⟨n,w⟩:=x;obtain⟨m,u⟩:=y;unfold kQ;show(cq ⟨n,w⟩).bind _=_;rw[J4 hx,bD];show(cq ⟨m,u⟩).bind _=_;rw[J4 hy,bD,show bn w=some (can 4294967296 (vl w))from hx.trim,show bn u=some (can 4294967296 (vl u))from hy.trim];simp only[bD];rw[iV _ _ hx.cl hy.cl,iV _ _ hy.cl hx.cl];simp only[bD];rw[show zi ⟨n,w⟩=sv n (vl w)from Y,show zi ⟨m,u⟩=sv m (vl u)from rfl];generalize vl w=a;generalize vl u=b;rw[yE,yE];obtain⟨i,hi⟩:∃i,sv n a=i:=⟨_,Y⟩;obtain⟨j,hj⟩:∃j,sv m b=j:=⟨_,Y⟩;have KF:(i<0->i=-(a:Int))/\(0<=i->i=a):=by rw[<-hi];cases n<;>simp[sv]<;>omega
 have hjb:(j<0->j=-(b:Int))/\(0<=j->j=b):=by rw[<-hj];cases m<;>simp[sv]<;>omega
 rw[hi,hj];rcases Int.lt_trichotomy i 0 with h1|h1|h1<;>rcases Int.lt_trichotomy j 0 with h2|h2|h2
 ·rw[Int.sign_eq_neg_one_of_neg h1,Int.sign_eq_neg_one_of_neg h2,KF.1 h1,hjb.1 h2,Dm];rfl
 ·rw[Int.sign_eq_neg_one_of_neg h1,show Int.sign j=0 by rw[h2];rfl,show jc i j=-1 from fP (by omega)];rfl
 ·rw[Int.sign_eq_neg_one_of_neg h1,Int.sign_eq_one_of_pos h2,show jc i j=-1 from fP (by omega)];rfl
 ·rw[show Int.sign i=0 by rw[h1];rfl,Int.sign_eq_neg_one_of_neg h2,show jc i j=1 from fQ (by omega)];rfl
 ·rw[show Int.sign i=0 by rw[h1];rfl,show Int.sign j=0 by rw[h2];rfl,<-KF.2 (by omega),<-hjb.2 (by omega)];rfl
 ·rw[show Int.sign i=0 by rw[h1];rfl,Int.sign_eq_one_of_pos h2,show jc i j=-1 from fP (by omega)];rfl
 ·rw[Int.sign_eq_one_of_pos h1,Int.sign_eq_neg_one_of_neg h2,show jc i j=1 from fQ (by omega)];rfl
 ·rw[Int.sign_eq_one_of_pos h1,show Int.sign j=0 by rw[h2];rfl,show jc i j=1 from fQ (by omega)];rfl
 rw[Int.sign_eq_one_of_pos h1,Int.sign_eq_one_of_pos h2,<-KF.2 (by omega),<-hjb.2 (by omega)];rfl
theorem neg_eq{x:Zr}(hx:Wl x):fy x=some (zn (-zi x)):=by
 obtain⟨n,w⟩:=x;unfold fy;have hc:(can 4294967296 (vl w)).length<=35184372088788:=hx.cl;simp only[bD];rw[show bn w=some (can 4294967296 (vl w))from hx.trim,bD,ud _ (by omega),bD,iQ _ _ (fD (by omega)).x,bD,dN,mK,yD];rfl
end
section
open Go.Fw
theorem ue(n m:Bool)(a b:Nat)(ha:(can 4294967296 a).length<=35184372088788)(hb:(can 4294967296 b).length<=35184372088788):
  cI n (can 4294967296 a) m (can 4294967296 b)=some (zn (sv n a+sv m b)):=by
 have la:=cc (B:=4294967296) (by decide) a;have lb:=cc (B:=4294967296) (by decide) b;unfold cI;simp only[bD];by_cases hnm:n=m
 ·subst hnm;rw[show(n==n)=true by simp,eK,vW _ _ (fD (by omega)) (fD (by omega)),bD,dN,dN,iQ _ _ ⟨λx hx=>lK (by decide) _ _ _ hx,by rw[bB];omega⟩,bD];have hv:vl (dA 4294967296 (max (can 4294967296 a).length (can 4294967296 b).length+1) (a+b))=a+b:=by
   show val _ _=_;rw[jP,Nat.mod_eq_of_lt];have h1:a<4294967296^(max (can 4294967296 a).length (can 4294967296 b).length):=Nat.lt_of_lt_of_le la (Nat.pow_le_pow_right (by decide) (by omega));have h2:b<4294967296^(max (can 4294967296 a).length (can 4294967296 b).length):=Nat.lt_of_lt_of_le lb (Nat.pow_le_pow_right (by decide) (by omega));rw[Nat.pow_succ];omega
  rw[hv,mK,show sv n (a+b)=sv n a+sv n b by cases n<;>simp[sv];omega]
 rw[show(n==m)=false by simp[hnm],fg,iV _ _ (by omega) (by omega),bD,Dl];have hm:m= !n:=by cases n<;>cases m<;>simp_all
 subst hm;have hv:∀c d,d<=c->(can 4294967296 c).length<=35184372088788->cE (can 4294967296 c) (can 4294967296 d)=some (dA 4294967296 (can 4294967296 c).length (c-d))/\vl (dA 4294967296 (can 4294967296 c).length (c-d))=c-d:=by
  intro c d hdc uw;have lc:=cc (B:=4294967296) (by decide) c;have QH:(can 4294967296 d).length<=(can 4294967296 c).length:=(bJ (by decide)).2 (by omega);constructor
  ·rw[vX _ _ (fD (by omega)) (fD (by omega)) QH (by rw[dN,dN];exact hdc),dN,dN]
  show val _ _=_;rw[jP,Nat.mod_eq_of_lt (by omega)]
 by_cases hlt:a<b
 ·obtain⟨h1,h2⟩:=hv b a (by omega) hb;rw[show decide (a<b)=true by simp[hlt],eK,h1,bD,iQ _ _ ⟨λx hx=>lK (by decide) _ _ _ hx,by rw[bB];omega⟩,bD,h2,mK,show sv (!n) (b-a)=sv n a+sv (!n) b by cases n<;>simp[sv]<;>omega]
 obtain⟨h1,h2⟩:=hv a b (by omega) ha;rw[show decide (a<b)=false by simp[hlt],fg,h1,bD,iQ _ _ ⟨λx hx=>lK (by decide) _ _ _ hx,by rw[bB];omega⟩,bD,h2,mK,show sv n (a-b)=sv n a+sv (!n) b by cases n<;>simp[sv]<;>omega]
theorem FM(v:BitVec 64):IntKind.i64.wrap (v.toNat:Int)=v.toInt:=by
 rw[BitVec.toInt_eq_toNat_cond];have:=v.isLt;rw[show(2:Nat)^64=18446744073709551616 by decide]at this⊢;split
 ·rw[fO (by omega)]
 rw[IntKind.wrap];simp[IntKind.signed,IntKind.bits];omega
theorem FN(v:BitVec 64):BitVec.ofInt 64 (IntKind.i64.wrap (v.toNat:Int))=v:=by rw[FM,BitVec.ofInt_toInt]
theorem vh{x:Int}(h:cY x):(BitVec.ofInt 64 x).msb=decide (x<0):=by
 rw[BitVec.msb_eq_toInt,BitVec.toInt_ofInt];unfold cY at h;have:x.bmod (2^64)=x:=by
  rw[Int.bmod_def];simp only[show((2^64:Nat):Int)=18446744073709551616 by decide];split<;>omega
 rw[this]
theorem z9(v:BitVec 64):decide ((0:Int)<=IntKind.i64.wrap (v.toNat:Int))= !v.msb:=by
 rw[FM,BitVec.msb_eq_toInt];by_cases h:v.toInt<0
 ·simp[h]
 simp[h];omega
theorem nQ(x:Int):cY (IntKind.i64.wrap x):=by
 unfold cY;rw[IntKind.wrap];simp[IntKind.signed,IntKind.bits];split<;>omega
theorem uf{α:Type}(b:Bool)(x:α):(bif b then x else x)=x:=by cases b<;>rfl
theorem gB{i:Int}(h:cY i):qe i=(i,true):=if_pos h
theorem mN{i:Int}(h:¬cY i):qe i=(0,false):=if_neg h
theorem add_eq{x y:Zr}(hx:Wl x)(hy:Wl y):kO x y=some (zn (zi x+zi y)):=by
 obtain⟨n,w⟩:=x;obtain⟨m,u⟩:=y;unfold kO;simp only[mM hx,mM hy,bD,cg];have hK:((bn w).bind λwO=>(bn u).bind λo9=>(cI n wO m o9).bind λx=>some x)=some (zn (zi ⟨n,w⟩+zi ⟨m,u⟩)):=by
  rw[show bn w=some (can 4294967296 (vl w))from hx.trim,show bn u=some (can 4294967296 (vl u))from hy.trim,bD,bD,ue _ _ _ _ hx.cl hy.cl,bD];rfl
 have hK':((bn w).bind λwO=>(bn u).bind λo9=>(cI n wO m o9).bind λx=>some ⟨x.neg,x.w⟩)=some (zn (zi ⟨n,w⟩+zi ⟨m,u⟩)):=hK;rw[hK'];generalize zi ⟨n,w⟩=i;generalize zi ⟨m,u⟩=j;by_cases h1:cY i
 ·by_cases h2:cY j
  ·rw[gB h1,gB h2,eK,bD,eK,FN,FN,z9,BitVec.msb_and,BitVec.msb_xor,BitVec.msb_xor,vh h1,vh h2,vh (nQ _),kA (nQ _).1 (nQ _).2,bD];by_cases hr:cY (i+j)
   ·rw[cj hr.1 hr.2];exact uf _ _
   have:(!((decide (i<0)^^decide (IntKind.i64.wrap (i+j)<0))&&(decide (j<0)^^decide (IntKind.i64.wrap (i+j)<0))))=false:=by
    unfold cY at*;by_cases hs:i<0
    ·have e:IntKind.i64.wrap (i+j)=i+j+18446744073709551616:=by rw[IntKind.wrap];simp[IntKind.signed,IntKind.bits];omega
     rw[e,show decide (i<0)=true by simp[hs],show decide (j<0)=true by simp;omega,show decide (i+j+18446744073709551616<0)=false by simp;omega];rfl
    have e:IntKind.i64.wrap (i+j)=i+j-18446744073709551616:=by rw[IntKind.wrap];simp[IntKind.signed,IntKind.bits];omega
    rw[e,show decide (i<0)=false by simp[hs],show decide (j<0)=false by simp;omega,show decide (i+j-18446744073709551616<0)=true by simp;omega];rfl
   rw[this,fg]
  rw[gB h1,mN h2,eK,bD,fg]
 rw[mN h1,fg,bD,fg]
theorem sub_eq{x y:Zr}(hx:Wl x)(hy:Wl y):kP x y=some (zn (zi x-zi y)):=by
 obtain⟨n,w⟩:=x;obtain⟨m,u⟩:=y;unfold kP;simp only[mM hx,mM hy,bD,cg];have hK':((bn w).bind λwO=>(bn u).bind λo9=>(cI n wO (!m) o9).bind λx=>some ⟨x.neg,x.w⟩)=some (zn (zi ⟨n,w⟩-zi ⟨m,u⟩)):=by
  rw[show bn w=some (can 4294967296 (vl w))from hx.trim,show bn u=some (can 4294967296 (vl u))from hy.trim,bD,bD,ue _ _ _ _ hx.cl hy.cl,bD,yD,<-Int.sub_eq_add_neg];rfl
 rw[hK'];generalize zi ⟨n,w⟩=i;generalize zi ⟨m,u⟩=j;by_cases h1:cY i
 ·by_cases h2:cY j
  ·rw[gB h1,gB h2,eK,bD,eK,FN,FN,z9,BitVec.msb_and,BitVec.msb_xor,BitVec.msb_xor,vh h1,vh h2,vh (nQ _),kA (nQ _).1 (nQ _).2,bD];by_cases hr:cY (i-j)
   ·rw[cj hr.1 hr.2];exact uf _ _
   have:(!((decide (i<0)^^decide (j<0))&&(decide (i<0)^^decide (IntKind.i64.wrap (i-j)<0))))=false:=by
    unfold cY at*;by_cases hs:i<0
    ·have e:IntKind.i64.wrap (i-j)=i-j+18446744073709551616:=by rw[IntKind.wrap];simp[IntKind.signed,IntKind.bits];omega
     rw[e,show decide (i<0)=true by simp[hs],show decide (j<0)=false by simp;omega,show decide (i-j+18446744073709551616<0)=false by simp;omega];rfl
    have e:IntKind.i64.wrap (i-j)=i-j-18446744073709551616:=by rw[IntKind.wrap];simp[IntKind.signed,IntKind.bits];omega
    rw[e,show decide (i<0)=false by simp[hs],show decide (j<0)=true by simp;omega,show decide (i-j-18446744073709551616<0)=true by simp;omega];rfl
   rw[this,fg]
  rw[gB h1,mN h2,eK,bD,fg]
 rw[mN h1,fg,bD,fg]
theorem J5(n m:Bool)(a b:Nat):sv (!(n==m)) (a*b)=sv n a*sv m b:=by
 cases n<;>cases m<;>simp[sv,Int.neg_mul,Int.mul_neg]
theorem mul_eq{x y:Zr}(hx:Wl x)(hy:Wl y):cX x y=some (zn (zi x*zi y)):=by
 obtain⟨n,w⟩:=x;obtain⟨m,u⟩:=y;unfold cX;have Uz:(can 4294967296 (vl w)).length<=35184372088788:=hx.cl;have TP:(can 4294967296 (vl u)).length<=35184372088788:=hy.cl;simp only[];rw[show bn w=some (can 4294967296 (vl w))from hx.trim,show bn u=some (can 4294967296 (vl u))from hy.trim,bD,bD,show zi ⟨n,w⟩=sv n (vl w)from Y,show zi ⟨m,u⟩=sv m (vl u)from rfl];simp only[bD,cg];generalize vl w=a at*;generalize vl u=b at*;have la:=cc (B:=4294967296) (by decide) a;have lb:=cc (B:=4294967296) (by decide) b;have hK:((eO (can 4294967296 a) (can 4294967296 b)).bind λoP=>(bZ (!(n==m)) oP).bind λx=>some ⟨x.neg,x.w⟩)=some (zn (sv n a*sv m b)):=by
  rw[De _ _ (fD (by omega)) (fD (by omega)),bD,dN,dN,iQ _ _ ⟨λx hx=>lK (by decide) _ _ _ hx,by rw[bB];omega⟩,bD,mK];have hv:vl (dA 4294967296 ((can 4294967296 a).length+(can 4294967296 b).length) (a*b))=a*b:=by
   show val _ _=_;rw[jP,Nat.mod_eq_of_lt];rw[Nat.pow_add];exact Nat.mul_lt_mul'' la lb
  rw[hv,J5]
 rw[hK];by_cases h1:a<4294967296
 ·by_cases h2:b<4294967296
  ·have l1:=low_eq (can 4294967296 a) (λ_ hx=>ei (by decide) hx) (by have:=jR.2 h1;omega);have l2:=low_eq (can 4294967296 b) (λ_ hx=>ei (by decide) hx) (by have:=jR.2 h2;omega);rw[dN]at l1 l2;have hlt:a*b<18446744073709551616:=Nat.mul_lt_mul'' h1 h2;rw[show decide (((can 4294967296 a).length:Int)<=1)=true by rw[decide_eq_true_eq];exact jR.2 h1,eK,bD,show decide (((can 4294967296 b).length:Int)<=1)=true by rw[decide_eq_true_eq];exact jR.2 h2,eK,l1,l2,bD,bD,Nat.mod_eq_of_lt hlt,nP _ _ hlt,bD,mK,J5]
  rw[show decide (((can 4294967296 a).length:Int)<=1)=true by rw[decide_eq_true_eq];exact jR.2 h1,eK,bD,show decide (((can 4294967296 b).length:Int)<=1)=false by rw[decide_eq_false_iff_not];exact λh=>h2 (jR.1 h),fg]
 rw[show decide (((can 4294967296 a).length:Int)<=1)=false by rw[decide_eq_false_iff_not];exact λh=>h1 (jR.1 h),fg,bD,fg]
end
end Go.Proofs.YtfoldppidpmchaaGreat
